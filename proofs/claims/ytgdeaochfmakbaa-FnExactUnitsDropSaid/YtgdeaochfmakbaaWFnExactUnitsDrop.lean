
/-
  The walk of the law FnExactUnitsDrop: it returns true for every input. (Printed by a program over the contracts of the two functions.)
-/
import Derived.Test.YtgdeaochfmakbaaUnitsD3
import Derived.Test.YtgdeaochfmakbaaCommon
namespace Go.Proofs.Ytgdeaochfmakbaa
open Go.RowKit

set_option maxRecDepth 100000 in
set_option maxHeartbeats 1000000 in
theorem fnExactUnitsDrop_walk (a0 : Option Addr) (cap0 : Nat) (z0 : List Int) (n1 : Int) (w : World) (h0 : InRow .i64 w a0 cap0 z0) (_h1 : (Lit.int .i64 n1).wf = true) :
    Calls Try.prog 4 #[.slice a0 z0.length cap0, .int .i64 n1] w fun e w' => e = .returned (.bool true) ∧ Below w.heap.size w w' := by
  have hfit0 := h0.fits
  have hlim0 := h0.lim
  unfold maxLen at hlim0
  have H0 := Lib.hid h0.row
  clear h0
  by_cases hl0 : 1048576 < z0.length
  · go_enter Try.func4, Try.ntmps4
    go_wp2_with fail
    go_ret
    exact ⟨rfl, Below.refl _ _⟩
  · skip
    have hm0 : z0.length ≤ 1048576 := by omega
    have hbd := unitsDrop_bd z0 n1
    generalize ht : unitsDrop z0 n1 = t at hbd
    have T := Lib.hid ht
    clear ht
    obtain ⟨r0, ok⟩ := t
    have hr0 : r0.length ≤ 1048576 := hbd
    clear hbd
    have B0 := Lib.hid (Below.refl w.heap.size w)
    go_enter Try.func4, Try.ntmps4
    go_wp2_with fail
    refine (toIntS_any _ _ _ _ (H0.out.below B0.out) hm0).mono ?_
    rintro e w1 ⟨ap0, cp0, rfl, o, b⟩
    have Op0_1 := Lib.hid o
    clear o
    have B1 := Lib.hid (B0.out.trans (b.mono B0.out.size))
    have s1 := b.size
    clear b B0
    go_wp2_with fail
    refine (specUnitsDrop_any _ _ _ _ Op0_1.out.row (by omega) Op0_1.out.cap_le Op0_1.out.cap_max _ r0 ok T.out).mono ?_
    rintro e w2 ⟨av0, cv0, rfl, ov0, b⟩
    have Ov0_2 := Lib.hid ov0
    clear ov0
    have Op0_2 := Lib.hid (Op0_1.out.below (b.mono Op0_1.out.lim))
    clear Op0_1
    have B2 := Lib.hid (B1.out.trans (b.mono B1.out.size))
    have s2 := b.size
    clear b B1
    clear Op0_2
    go_wp2_with fail
    refine (toIntS_any _ _ _ _ (H0.out.below B2.out) hm0).mono ?_
    rintro e w3 ⟨ax0, cx0, rfl, o, b⟩
    have Ox0_3 := Lib.hid o
    clear o
    have Ov0_3 := Lib.hid (Ov0_2.out.below (b.mono Ov0_2.out.lim))
    clear Ov0_2
    have B3 := Lib.hid (B2.out.trans (b.mono B2.out.size))
    have s3 := b.size
    clear b B2
    go_wp2_with fail
    refine (implUnitsDrop_any _ _ _ _ Ox0_3.out.row (by omega) _ r0 ok T.out).mono ?_
    rintro e w4 ⟨ag0, cg0, rfl, og0, b⟩
    have Og0_4 := Lib.hid og0
    clear og0
    have Ov0_4 := Lib.hid (Ov0_3.out.below (b.mono Ov0_3.out.lim))
    clear Ov0_3
    have Ox0_4 := Lib.hid (Ox0_3.out.below (b.mono Ox0_3.out.lim))
    clear Ox0_3
    have B4 := Lib.hid (B3.out.trans (b.mono B3.out.size))
    have s4 := b.size
    clear b B3
    go_wp2_with fail
    refine (eqIntS_same _ _ _ _ _ _ Og0_4.out.row Ov0_4.out.row hr0).mono ?_
    rintro e w5 ⟨rfl, b⟩
    have Ov0_5 := Lib.hid (Ov0_4.out.below (b.mono Ov0_4.out.lim))
    clear Ov0_4
    have Ox0_5 := Lib.hid (Ox0_4.out.below (b.mono Ox0_4.out.lim))
    clear Ox0_4
    have Og0_5 := Lib.hid (Og0_4.out.below (b.mono Og0_4.out.lim))
    clear Og0_4
    have B5 := Lib.hid (B4.out.trans (b.mono B4.out.size))
    have s5 := b.size
    clear b B4
    go_wp2_with fail
    refine (toIntS_any _ _ _ _ (H0.out.below B5.out) hm0).mono ?_
    rintro e w6 ⟨ay0, cy0, rfl, o, b⟩
    have Oy0_6 := Lib.hid o
    clear o
    have Ov0_6 := Lib.hid (Ov0_5.out.below (b.mono Ov0_5.out.lim))
    clear Ov0_5
    have Ox0_6 := Lib.hid (Ox0_5.out.below (b.mono Ox0_5.out.lim))
    clear Ox0_5
    have Og0_6 := Lib.hid (Og0_5.out.below (b.mono Og0_5.out.lim))
    clear Og0_5
    have B6 := Lib.hid (B5.out.trans (b.mono B5.out.size))
    have s6 := b.size
    clear b B5
    go_wp2_with fail
    refine (eqIntS_same _ _ _ _ _ _ Ox0_6.out.row Oy0_6.out.row hm0).mono ?_
    rintro e w7 ⟨rfl, b⟩
    have Ov0_7 := Lib.hid (Ov0_6.out.below (b.mono Ov0_6.out.lim))
    clear Ov0_6
    have Ox0_7 := Lib.hid (Ox0_6.out.below (b.mono Ox0_6.out.lim))
    clear Ox0_6
    have Og0_7 := Lib.hid (Og0_6.out.below (b.mono Og0_6.out.lim))
    clear Og0_6
    have Oy0_7 := Lib.hid (Oy0_6.out.below (b.mono Oy0_6.out.lim))
    clear Oy0_6
    have B7 := Lib.hid (B6.out.trans (b.mono B6.out.size))
    have s7 := b.size
    clear b B6
    clear Oy0_7
    go_wp2_with fail
    refine (markIntS_any _ _ _ _ _ _ _ Ox0_7.out (by omega) (by omega) (by omega)).mono ?_
    rintro e w8 ⟨rfl, om, tm⟩
    have Ov0_8 := Lib.hid (tm.own Ov0_7.out (by omega))
    clear Ov0_7
    have Og0_8 := Lib.hid (tm.own Og0_7.out (by omega))
    clear Og0_7
    have Ox0_8 := Lib.hid om
    clear om Ox0_7
    have q8 := B7.out.size
    have B8 := Lib.hid (B7.out.trans (tm.below (by omega) B7.out.size))
    have s8 := tm.size
    clear tm B7
    go_wp2_with fail
    refine (eqIntS_same _ _ _ _ _ _ Og0_8.out.row Ov0_8.out.row hr0).mono ?_
    rintro e w9 ⟨rfl, b⟩
    have Ov0_9 := Lib.hid (Ov0_8.out.below (b.mono Ov0_8.out.lim))
    clear Ov0_8
    have Ox0_9 := Lib.hid (Ox0_8.out.below (b.mono Ox0_8.out.lim))
    clear Ox0_8
    have Og0_9 := Lib.hid (Og0_8.out.below (b.mono Og0_8.out.lim))
    clear Og0_8
    have B9 := Lib.hid (B8.out.trans (b.mono B8.out.size))
    have s9 := b.size
    clear b B8
    clear Ox0_9
    go_wp2_with fail
    refine (markIntS_any _ _ _ _ _ _ _ Og0_9.out (by omega) (by omega) (by omega)).mono ?_
    rintro e w10 ⟨rfl, om, tm⟩
    have Ov0_10 := Lib.hid (tm.own Ov0_9.out (by omega))
    clear Ov0_9
    have Og0_10 := Lib.hid om
    clear om Og0_9
    have q10 := B9.out.size
    have B10 := Lib.hid (B9.out.trans (tm.below (by omega) B9.out.size))
    have s10 := tm.size
    clear tm B9
    go_wp2_with fail
    refine (heldIntS_any _ _ _ _ _ Og0_10.out.row (by omega) (by omega) (by omega)).mono ?_
    rintro e w' ⟨rfl, rfl⟩
    go_wp2_with fail
    refine (toIntS_any _ _ _ _ (H0.out.below B10.out) hm0).mono ?_
    rintro e w11 ⟨au0, cu0, rfl, o, b⟩
    have Ou0_11 := Lib.hid o
    clear o
    have Ov0_11 := Lib.hid (Ov0_10.out.below (b.mono Ov0_10.out.lim))
    clear Ov0_10
    have Og0_11 := Lib.hid (Og0_10.out.below (b.mono Og0_10.out.lim))
    clear Og0_10
    have B11 := Lib.hid (B10.out.trans (b.mono B10.out.size))
    have s11 := b.size
    clear b B10
    go_wp2_with fail
    refine (implUnitsDrop_any _ _ _ _ Ou0_11.out.row (by omega) _ r0 ok T.out).mono ?_
    rintro e w12 ⟨ah0, ch0, rfl, oh0, b⟩
    have Oh0_12 := Lib.hid oh0
    clear oh0
    have Ov0_12 := Lib.hid (Ov0_11.out.below (b.mono Ov0_11.out.lim))
    clear Ov0_11
    have Og0_12 := Lib.hid (Og0_11.out.below (b.mono Og0_11.out.lim))
    clear Og0_11
    have Ou0_12 := Lib.hid (Ou0_11.out.below (b.mono Ou0_11.out.lim))
    clear Ou0_11
    have B12 := Lib.hid (B11.out.trans (b.mono B11.out.size))
    have s12 := b.size
    clear b B11
    go_wp2_with fail
    refine (eqIntS_same _ _ _ _ _ _ Oh0_12.out.row Ov0_12.out.row hr0).mono ?_
    rintro e w13 ⟨rfl, b⟩
    have Ov0_13 := Lib.hid (Ov0_12.out.below (b.mono Ov0_12.out.lim))
    clear Ov0_12
    have Og0_13 := Lib.hid (Og0_12.out.below (b.mono Og0_12.out.lim))
    clear Og0_12
    have Ou0_13 := Lib.hid (Ou0_12.out.below (b.mono Ou0_12.out.lim))
    clear Ou0_12
    have Oh0_13 := Lib.hid (Oh0_12.out.below (b.mono Oh0_12.out.lim))
    clear Oh0_12
    have B13 := Lib.hid (B12.out.trans (b.mono B12.out.size))
    have s13 := b.size
    clear b B12
    go_wp2_with fail
    refine (heldIntS_any _ _ _ _ _ Og0_13.out.row (by omega) (by omega) (by omega)).mono ?_
    rintro e w' ⟨rfl, rfl⟩
    go_wp2_with fail
    go_ret
    exact ⟨rfl, B13.out⟩
end Go.Proofs.Ytgdeaochfmakbaa
