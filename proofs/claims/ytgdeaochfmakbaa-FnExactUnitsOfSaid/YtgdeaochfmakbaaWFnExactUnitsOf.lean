
/-
  The walk of the law FnExactUnitsOf: it returns true for every input. (Printed by a program over the contracts of the two functions.)
-/
import Derived.Test.YtgdeaochfmakbaaUnitsO
import Derived.Test.YtgdeaochfmakbaaCommon
namespace Go.Proofs.Ytgdeaochfmakbaa
open Go.RowKit

set_option maxRecDepth 100000 in
set_option maxHeartbeats 1000000 in
theorem fnExactUnitsOf_walk (n0 : Int) (n1 : Int) (w : World) (_h0 : (Lit.int .i64 n0).wf = true) (_h1 : (Lit.int .i64 n1).wf = true) :
    Calls Try.prog 6 #[.int .i64 n0, .int .i64 n1] w fun e w' => e = .returned (.bool true) ∧ Below w.heap.size w w' := by
  have hbd := unitsOfF_bd n0 n1
  generalize ht : unitsOfF n0 n1 = t at hbd
  have T := Lib.hid ht
  clear ht
  obtain ⟨r0, ok⟩ := t
  have hr0 : r0.length ≤ 1048576 := hbd
  clear hbd
  have B0 := Lib.hid (Below.refl w.heap.size w)
  go_enter Try.func6, Try.ntmps6
  go_wp2_with fail
  refine (specUnitsOf_any _ _ _ r0 ok T.out).mono ?_
  rintro e w1 ⟨av0, cv0, rfl, ov0, b⟩
  have Ov0_1 := Lib.hid ov0
  clear ov0
  have B1 := Lib.hid (B0.out.trans (b.mono B0.out.size))
  have s1 := b.size
  clear b B0
  go_wp2_with fail
  refine (implUnitsOf_any _ _ _ r0 ok T.out).mono ?_
  rintro e w2 ⟨ag0, cg0, rfl, og0, b⟩
  have Og0_2 := Lib.hid og0
  clear og0
  have Ov0_2 := Lib.hid (Ov0_1.out.below (b.mono Ov0_1.out.lim))
  clear Ov0_1
  have B2 := Lib.hid (B1.out.trans (b.mono B1.out.size))
  have s2 := b.size
  clear b B1
  go_wp2_with fail
  refine (eqIntS_same _ _ _ _ _ _ Og0_2.out.row Ov0_2.out.row hr0).mono ?_
  rintro e w3 ⟨rfl, b⟩
  have Ov0_3 := Lib.hid (Ov0_2.out.below (b.mono Ov0_2.out.lim))
  clear Ov0_2
  have Og0_3 := Lib.hid (Og0_2.out.below (b.mono Og0_2.out.lim))
  clear Og0_2
  have B3 := Lib.hid (B2.out.trans (b.mono B2.out.size))
  have s3 := b.size
  clear b B2
  go_wp2_with fail
  refine (markIntS_any _ _ _ _ _ _ _ Og0_3.out (by omega) (by omega) (by omega)).mono ?_
  rintro e w4 ⟨rfl, om, tm⟩
  have Ov0_4 := Lib.hid (tm.own Ov0_3.out (by omega))
  clear Ov0_3
  have Og0_4 := Lib.hid om
  clear om Og0_3
  have q4 := B3.out.size
  have B4 := Lib.hid (B3.out.trans (tm.below (by omega) B3.out.size))
  have s4 := tm.size
  clear tm B3
  go_wp2_with fail
  refine (heldIntS_any _ _ _ _ _ Og0_4.out.row (by omega) (by omega) (by omega)).mono ?_
  rintro e w' ⟨rfl, rfl⟩
  go_wp2_with fail
  refine (implUnitsOf_any _ _ _ r0 ok T.out).mono ?_
  rintro e w5 ⟨ah0, ch0, rfl, oh0, b⟩
  have Oh0_5 := Lib.hid oh0
  clear oh0
  have Ov0_5 := Lib.hid (Ov0_4.out.below (b.mono Ov0_4.out.lim))
  clear Ov0_4
  have Og0_5 := Lib.hid (Og0_4.out.below (b.mono Og0_4.out.lim))
  clear Og0_4
  have B5 := Lib.hid (B4.out.trans (b.mono B4.out.size))
  have s5 := b.size
  clear b B4
  go_wp2_with fail
  refine (eqIntS_same _ _ _ _ _ _ Oh0_5.out.row Ov0_5.out.row hr0).mono ?_
  rintro e w6 ⟨rfl, b⟩
  have Ov0_6 := Lib.hid (Ov0_5.out.below (b.mono Ov0_5.out.lim))
  clear Ov0_5
  have Og0_6 := Lib.hid (Og0_5.out.below (b.mono Og0_5.out.lim))
  clear Og0_5
  have Oh0_6 := Lib.hid (Oh0_5.out.below (b.mono Oh0_5.out.lim))
  clear Oh0_5
  have B6 := Lib.hid (B5.out.trans (b.mono B5.out.size))
  have s6 := b.size
  clear b B5
  go_wp2_with fail
  refine (heldIntS_any _ _ _ _ _ Og0_6.out.row (by omega) (by omega) (by omega)).mono ?_
  rintro e w' ⟨rfl, rfl⟩
  go_wp2_with fail
  go_ret
  exact ⟨rfl, B6.out⟩
end Go.Proofs.Ytgdeaochfmakbaa
