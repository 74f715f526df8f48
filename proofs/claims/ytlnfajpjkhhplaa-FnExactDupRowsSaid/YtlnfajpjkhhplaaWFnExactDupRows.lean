
/-
  The walk of the law FnExactDupRows: it returns true for every input. (Printed by a program over the contracts of the two functions.)
-/
import Derived.Test.YtlnfajpjkhhplaaDupR
import Derived.Test.YtlnfajpjkhhplaaDupL
import Derived.Test.YtlnfajpjkhhplaaCommon
namespace Go.Proofs.Ytlnfajpjkhhplaa
open Go.RowKit

set_option maxRecDepth 100000 in
set_option maxHeartbeats 1000000 in
theorem fnExactDupRows_walk (n0 : Int) (n1 : Int) (w : World) (_h0 : (Lit.int .i64 n0).wf = true) (_h1 : (Lit.int .i64 n1).wf = true) :
    Calls Try.prog 6 #[.int .i64 n0, .int .i64 n1] w fun e w' => e = .returned (.bool true) ∧ Below w.heap.size w w' := by
  have hbd := dupRows_bd n0 n1
  generalize ht : dupRows n0 n1 = t at hbd
  have T := Lib.hid ht
  clear ht
  obtain ⟨r0, r1, ok⟩ := t
  have hr0 : r0.length ≤ 1048576 := hbd.1
  have hr1 : r1.length ≤ 1048576 := hbd.2
  clear hbd
  have B0 := Lib.hid (Below.refl w.heap.size w)
  go_enter Try.func6, Try.ntmps6
  go_wp2_with fail
  refine (specDupRows_any _ _ _ r0 r1 ok T.out).mono ?_
  rintro e w1 ⟨av0, cv0, av1, cv1, lv0, hv0, lv1, hv1, rfl, ov0, ov1, dv0, qv0, qv1, b⟩
  have mv0 := ov0.lim
  have mv1 := ov1.lim
  have Ov0_1 := Lib.hid ov0
  clear ov0
  have Ov1_1 := Lib.hid ov1
  clear ov1
  have B1 := Lib.hid (B0.out.trans (b.mono B0.out.size))
  have s1 := b.size
  clear b B0
  go_wp2_with fail
  refine (implDupRows_any _ _ _ r0 r1 ok T.out).mono ?_
  rintro e w2 ⟨ag0, cg0, ag1, cg1, lg0, hg0, lg1, hg1, rfl, og0, og1, dg0, qg0, qg1, b⟩
  have mg0 := og0.lim
  have mg1 := og1.lim
  have Og0_2 := Lib.hid og0
  clear og0
  have Og1_2 := Lib.hid og1
  clear og1
  have Ov0_2 := Lib.hid (Ov0_1.out.below (b.mono Ov0_1.out.lim))
  clear Ov0_1
  have Ov1_2 := Lib.hid (Ov1_1.out.below (b.mono Ov1_1.out.lim))
  clear Ov1_1
  have B2 := Lib.hid (B1.out.trans (b.mono B1.out.size))
  have s2 := b.size
  clear b B1
  go_wp2_with fail
  refine (eqIntS_same _ _ _ _ _ _ Og0_2.out.row Ov0_2.out.row hr0).mono ?_
  rintro e w3 ⟨rfl, b⟩
  have Ov0_3 := Lib.hid (Ov0_2.out.below (b.mono Ov0_2.out.lim))
  clear Ov0_2
  have Ov1_3 := Lib.hid (Ov1_2.out.below (b.mono Ov1_2.out.lim))
  clear Ov1_2
  have Og0_3 := Lib.hid (Og0_2.out.below (b.mono Og0_2.out.lim))
  clear Og0_2
  have Og1_3 := Lib.hid (Og1_2.out.below (b.mono Og1_2.out.lim))
  clear Og1_2
  have B3 := Lib.hid (B2.out.trans (b.mono B2.out.size))
  have s3 := b.size
  clear b B2
  go_wp2_with fail
  refine (eqIntS_same _ _ _ _ _ _ Og1_3.out.row Ov1_3.out.row hr1).mono ?_
  rintro e w4 ⟨rfl, b⟩
  have Ov0_4 := Lib.hid (Ov0_3.out.below (b.mono Ov0_3.out.lim))
  clear Ov0_3
  have Ov1_4 := Lib.hid (Ov1_3.out.below (b.mono Ov1_3.out.lim))
  clear Ov1_3
  have Og0_4 := Lib.hid (Og0_3.out.below (b.mono Og0_3.out.lim))
  clear Og0_3
  have Og1_4 := Lib.hid (Og1_3.out.below (b.mono Og1_3.out.lim))
  clear Og1_3
  have B4 := Lib.hid (B3.out.trans (b.mono B3.out.size))
  have s4 := b.size
  clear b B3
  go_wp2_with fail
  refine (markIntS_any _ _ _ _ _ _ _ Og0_4.out (by omega) (by omega) (by omega)).mono ?_
  rintro e w5 ⟨rfl, om, tm⟩
  have Ov0_5 := Lib.hid (tm.own Ov0_4.out (by omega))
  clear Ov0_4
  have Ov1_5 := Lib.hid (tm.own Ov1_4.out (by omega))
  clear Ov1_4
  have Og1_5 := Lib.hid (tm.own Og1_4.out (by omega))
  clear Og1_4
  have Og0_5 := Lib.hid om
  clear om Og0_4
  have q5 := B4.out.size
  have B5 := Lib.hid (B4.out.trans (tm.below (by omega) B4.out.size))
  have s5 := tm.size
  clear tm B4
  go_wp2_with fail
  refine (markIntS_any _ _ _ _ _ _ _ Og1_5.out (by omega) (by omega) (by omega)).mono ?_
  rintro e w6 ⟨rfl, om, tm⟩
  have Ov0_6 := Lib.hid (tm.own Ov0_5.out (by omega))
  clear Ov0_5
  have Ov1_6 := Lib.hid (tm.own Ov1_5.out (by omega))
  clear Ov1_5
  have Og0_6 := Lib.hid (tm.own Og0_5.out (by omega))
  clear Og0_5
  have Og1_6 := Lib.hid om
  clear om Og1_5
  have q6 := B5.out.size
  have B6 := Lib.hid (B5.out.trans (tm.below (by omega) B5.out.size))
  have s6 := tm.size
  clear tm B5
  go_wp2_with fail
  refine (heldIntS_any _ _ _ _ _ Og0_6.out.row (by omega) (by omega) (by omega)).mono ?_
  rintro e w' ⟨rfl, rfl⟩
  go_wp2_with fail
  refine (heldIntS_any _ _ _ _ _ Og1_6.out.row (by omega) (by omega) (by omega)).mono ?_
  rintro e w' ⟨rfl, rfl⟩
  go_wp2_with fail
  refine (implDupRows_any _ _ _ r0 r1 ok T.out).mono ?_
  rintro e w7 ⟨ah0, ch0, ah1, ch1, lh0, hh0, lh1, hh1, rfl, oh0, oh1, dh0, qh0, qh1, b⟩
  have mh0 := oh0.lim
  have mh1 := oh1.lim
  have Oh0_7 := Lib.hid oh0
  clear oh0
  have Oh1_7 := Lib.hid oh1
  clear oh1
  have Ov0_7 := Lib.hid (Ov0_6.out.below (b.mono Ov0_6.out.lim))
  clear Ov0_6
  have Ov1_7 := Lib.hid (Ov1_6.out.below (b.mono Ov1_6.out.lim))
  clear Ov1_6
  have Og0_7 := Lib.hid (Og0_6.out.below (b.mono Og0_6.out.lim))
  clear Og0_6
  have Og1_7 := Lib.hid (Og1_6.out.below (b.mono Og1_6.out.lim))
  clear Og1_6
  have B7 := Lib.hid (B6.out.trans (b.mono B6.out.size))
  have s7 := b.size
  clear b B6
  go_wp2_with fail
  refine (eqIntS_same _ _ _ _ _ _ Oh0_7.out.row Ov0_7.out.row hr0).mono ?_
  rintro e w8 ⟨rfl, b⟩
  have Ov0_8 := Lib.hid (Ov0_7.out.below (b.mono Ov0_7.out.lim))
  clear Ov0_7
  have Ov1_8 := Lib.hid (Ov1_7.out.below (b.mono Ov1_7.out.lim))
  clear Ov1_7
  have Og0_8 := Lib.hid (Og0_7.out.below (b.mono Og0_7.out.lim))
  clear Og0_7
  have Og1_8 := Lib.hid (Og1_7.out.below (b.mono Og1_7.out.lim))
  clear Og1_7
  have Oh0_8 := Lib.hid (Oh0_7.out.below (b.mono Oh0_7.out.lim))
  clear Oh0_7
  have Oh1_8 := Lib.hid (Oh1_7.out.below (b.mono Oh1_7.out.lim))
  clear Oh1_7
  have B8 := Lib.hid (B7.out.trans (b.mono B7.out.size))
  have s8 := b.size
  clear b B7
  go_wp2_with fail
  refine (eqIntS_same _ _ _ _ _ _ Oh1_8.out.row Ov1_8.out.row hr1).mono ?_
  rintro e w9 ⟨rfl, b⟩
  have Ov0_9 := Lib.hid (Ov0_8.out.below (b.mono Ov0_8.out.lim))
  clear Ov0_8
  have Ov1_9 := Lib.hid (Ov1_8.out.below (b.mono Ov1_8.out.lim))
  clear Ov1_8
  have Og0_9 := Lib.hid (Og0_8.out.below (b.mono Og0_8.out.lim))
  clear Og0_8
  have Og1_9 := Lib.hid (Og1_8.out.below (b.mono Og1_8.out.lim))
  clear Og1_8
  have Oh0_9 := Lib.hid (Oh0_8.out.below (b.mono Oh0_8.out.lim))
  clear Oh0_8
  have Oh1_9 := Lib.hid (Oh1_8.out.below (b.mono Oh1_8.out.lim))
  clear Oh1_8
  have B9 := Lib.hid (B8.out.trans (b.mono B8.out.size))
  have s9 := b.size
  clear b B8
  go_wp2_with fail
  refine (heldIntS_any _ _ _ _ _ Og0_9.out.row (by omega) (by omega) (by omega)).mono ?_
  rintro e w' ⟨rfl, rfl⟩
  go_wp2_with fail
  refine (heldIntS_any _ _ _ _ _ Og1_9.out.row (by omega) (by omega) (by omega)).mono ?_
  rintro e w' ⟨rfl, rfl⟩
  go_wp2_with fail
  go_ret
  exact ⟨rfl, B9.out⟩
end Go.Proofs.Ytlnfajpjkhhplaa
