
/-
  The walk of the law FnExactUnitsSum: it returns true for every input. (Printed by a program over the contracts of the two functions.)
-/
import Derived.Test.YtgdeaochfmakbaaUnitsS
import Derived.Test.YtgdeaochfmakbaaCommon
namespace Go.Proofs.Ytgdeaochfmakbaa
open Go.RowKit

set_option maxRecDepth 100000 in
set_option maxHeartbeats 1000000 in
theorem fnExactUnitsSum_walk (a0 : Option Addr) (cap0 : Nat) (z0 : List Int) (w : World) (h0 : InRow .i64 w a0 cap0 z0) :
    Calls Try.prog 5 #[.slice a0 z0.length cap0] w fun e w' => e = .returned (.bool true) ∧ Below w.heap.size w w' := by
  have hfit0 := h0.fits
  have hlim0 := h0.lim
  unfold maxLen at hlim0
  have H0 := Lib.hid h0.row
  clear h0
  by_cases hl0 : 1048576 < z0.length
  · go_enter Try.func5, Try.ntmps5
    go_wp2_with fail
    go_ret
    exact ⟨rfl, Below.refl _ _⟩
  · skip
    have hm0 : z0.length ≤ 1048576 := by omega
    generalize ht : unitsSum z0 = t
    have T := Lib.hid ht
    clear ht
    obtain ⟨t0, t1, t2⟩ := t
    have B0 := Lib.hid (Below.refl w.heap.size w)
    go_enter Try.func5, Try.ntmps5
    go_wp2_with fail
    refine (toIntS_any _ _ _ _ (H0.out.below B0.out) hm0).mono ?_
    rintro e w1 ⟨ap0, cp0, rfl, o, b⟩
    have Op0_1 := Lib.hid o
    clear o
    have B1 := Lib.hid (B0.out.trans (b.mono B0.out.size))
    have s1 := b.size
    clear b B0
    go_wp2_with fail
    refine (specUnitsSum_any _ _ _ _ Op0_1.out.row (by omega)).mono ?_
    rintro e w' ⟨rfl, rfl⟩
    rw [T.out]
    unfold tri
    clear Op0_1
    go_wp2_with fail
    refine (toIntS_any _ _ _ _ (H0.out.below B1.out) hm0).mono ?_
    rintro e w2 ⟨ax0, cx0, rfl, o, b⟩
    have Ox0_2 := Lib.hid o
    clear o
    have B2 := Lib.hid (B1.out.trans (b.mono B1.out.size))
    have s2 := b.size
    clear b B1
    go_wp2_with fail
    refine (implUnitsSum_any _ _ _ _ Ox0_2.out.row (by omega)).mono ?_
    rintro e w3 ⟨rfl, b⟩
    have Ox0_3 := Lib.hid (Ox0_2.out.below (b.mono Ox0_2.out.lim))
    clear Ox0_2
    have B3 := Lib.hid (B2.out.trans (b.mono B2.out.size))
    have s3 := b.size
    clear b B2
    rw [T.out]
    unfold tri
    go_wp2_with fail
    refine (toIntS_any _ _ _ _ (H0.out.below B3.out) hm0).mono ?_
    rintro e w4 ⟨ay0, cy0, rfl, o, b⟩
    have Oy0_4 := Lib.hid o
    clear o
    have Ox0_4 := Lib.hid (Ox0_3.out.below (b.mono Ox0_3.out.lim))
    clear Ox0_3
    have B4 := Lib.hid (B3.out.trans (b.mono B3.out.size))
    have s4 := b.size
    clear b B3
    go_wp2_with fail
    refine (eqIntS_same _ _ _ _ _ _ Ox0_4.out.row Oy0_4.out.row hm0).mono ?_
    rintro e w5 ⟨rfl, b⟩
    have Ox0_5 := Lib.hid (Ox0_4.out.below (b.mono Ox0_4.out.lim))
    clear Ox0_4
    have Oy0_5 := Lib.hid (Oy0_4.out.below (b.mono Oy0_4.out.lim))
    clear Oy0_4
    have B5 := Lib.hid (B4.out.trans (b.mono B4.out.size))
    have s5 := b.size
    clear b B4
    clear Oy0_5
    go_wp2_with fail
    go_ret
    exact ⟨rfl, B5.out⟩
end Go.Proofs.Ytgdeaochfmakbaa
