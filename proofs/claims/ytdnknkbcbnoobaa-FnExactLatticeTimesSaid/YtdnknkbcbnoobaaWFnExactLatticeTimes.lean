
/-
  The walk of the law FnExactLatticeTimes: it returns true for every input. (Printed by a program over the contracts of the two functions.)
-/
import Derived.Test.YtdnknkbcbnoobaaLat2
import Derived.Test.YtdnknkbcbnoobaaCommon
namespace Go.Proofs.Ytdnknkbcbnoobaa
open Go.RowKit

set_option maxRecDepth 100000 in
set_option maxHeartbeats 1000000 in
theorem fnExactLatticeTimes_walk (a0 : Option Addr) (cap0 : Nat) (z0 : List Int) (a1 : Option Addr) (cap1 : Nat) (z1 : List Int) (w : World) (h0 : InRow .i64 w a0 cap0 z0) (h1 : InRow .i64 w a1 cap1 z1) :
    Calls Try.prog 6 #[.slice a0 z0.length cap0, .slice a1 z1.length cap1] w fun e w' => e = .returned (.bool true) ∧ Below w.heap.size w w' := by
  have hfit0 := h0.fits
  have hlim0 := h0.lim
  unfold maxLen at hlim0
  have H0 := Lib.hid h0.row
  clear h0
  have hfit1 := h1.fits
  have hlim1 := h1.lim
  unfold maxLen at hlim1
  have H1 := Lib.hid h1.row
  clear h1
  by_cases hl0 : 1048576 < z0.length
  · go_enter Try.func6, Try.ntmps6
    go_wp2_with fail
    go_ret
    exact ⟨rfl, Below.refl _ _⟩
  · skip
    have hm0 : z0.length ≤ 1048576 := by omega
    by_cases hl1 : 1048576 < z1.length
    · go_enter Try.func6, Try.ntmps6
      go_wp2_with fail
      go_ret
      exact ⟨rfl, Below.refl _ _⟩
    · skip
      have hm1 : z1.length ≤ 1048576 := by omega
      generalize ht : latTimes z0 z1 = t
      have T := Lib.hid ht
      clear ht
      have B0 := Lib.hid (Below.refl w.heap.size w)
      go_enter Try.func6, Try.ntmps6
      go_wp2_with fail
      refine (toIntS_any _ _ _ _ (H0.out.below B0.out) hm0).mono ?_
      rintro e w1 ⟨ap0, cp0, rfl, o, b⟩
      have Op0_1 := Lib.hid o
      clear o
      have B1 := Lib.hid (B0.out.trans (b.mono B0.out.size))
      have s1 := b.size
      clear b B0
      go_wp2_with fail
      refine (toIntS_any _ _ _ _ (H1.out.below B1.out) hm1).mono ?_
      rintro e w2 ⟨ap1, cp1, rfl, o, b⟩
      have Op1_2 := Lib.hid o
      clear o
      have Op0_2 := Lib.hid (Op0_1.out.below (b.mono Op0_1.out.lim))
      clear Op0_1
      have B2 := Lib.hid (B1.out.trans (b.mono B1.out.size))
      have s2 := b.size
      clear b B1
      go_wp2_with fail
      refine (specLatticeTimes_any _ _ _ _ Op0_2.out.row (by omega) _ _ _ Op1_2.out.row (by omega)).mono ?_
      rintro e w3 ⟨rfl, b⟩
      have Op0_3 := Lib.hid (Op0_2.out.below (b.mono Op0_2.out.lim))
      clear Op0_2
      have Op1_3 := Lib.hid (Op1_2.out.below (b.mono Op1_2.out.lim))
      clear Op1_2
      have B3 := Lib.hid (B2.out.trans (b.mono B2.out.size))
      have s3 := b.size
      clear b B2
      rw [T.out]
      clear Op0_3 Op1_3
      go_wp2_with fail
      refine (toIntS_any _ _ _ _ (H0.out.below B3.out) hm0).mono ?_
      rintro e w4 ⟨ax0, cx0, rfl, o, b⟩
      have Ox0_4 := Lib.hid o
      clear o
      have B4 := Lib.hid (B3.out.trans (b.mono B3.out.size))
      have s4 := b.size
      clear b B3
      go_wp2_with fail
      refine (toIntS_any _ _ _ _ (H1.out.below B4.out) hm1).mono ?_
      rintro e w5 ⟨ax1, cx1, rfl, o, b⟩
      have Ox1_5 := Lib.hid o
      clear o
      have Ox0_5 := Lib.hid (Ox0_4.out.below (b.mono Ox0_4.out.lim))
      clear Ox0_4
      have B5 := Lib.hid (B4.out.trans (b.mono B4.out.size))
      have s5 := b.size
      clear b B4
      go_wp2_with fail
      refine (implLatticeTimes_any _ _ _ _ Ox0_5.out.row (by omega) _ _ _ Ox1_5.out.row (by omega)).mono ?_
      rintro e w6 ⟨rfl, b⟩
      have Ox0_6 := Lib.hid (Ox0_5.out.below (b.mono Ox0_5.out.lim))
      clear Ox0_5
      have Ox1_6 := Lib.hid (Ox1_5.out.below (b.mono Ox1_5.out.lim))
      clear Ox1_5
      have B6 := Lib.hid (B5.out.trans (b.mono B5.out.size))
      have s6 := b.size
      clear b B5
      rw [T.out]
      go_wp2_with fail
      refine (toIntS_any _ _ _ _ (H0.out.below B6.out) hm0).mono ?_
      rintro e w7 ⟨ay0, cy0, rfl, o, b⟩
      have Oy0_7 := Lib.hid o
      clear o
      have Ox0_7 := Lib.hid (Ox0_6.out.below (b.mono Ox0_6.out.lim))
      clear Ox0_6
      have Ox1_7 := Lib.hid (Ox1_6.out.below (b.mono Ox1_6.out.lim))
      clear Ox1_6
      have B7 := Lib.hid (B6.out.trans (b.mono B6.out.size))
      have s7 := b.size
      clear b B6
      go_wp2_with fail
      refine (eqIntS_same _ _ _ _ _ _ Ox0_7.out.row Oy0_7.out.row hm0).mono ?_
      rintro e w8 ⟨rfl, b⟩
      have Ox0_8 := Lib.hid (Ox0_7.out.below (b.mono Ox0_7.out.lim))
      clear Ox0_7
      have Ox1_8 := Lib.hid (Ox1_7.out.below (b.mono Ox1_7.out.lim))
      clear Ox1_7
      have Oy0_8 := Lib.hid (Oy0_7.out.below (b.mono Oy0_7.out.lim))
      clear Oy0_7
      have B8 := Lib.hid (B7.out.trans (b.mono B7.out.size))
      have s8 := b.size
      clear b B7
      clear Oy0_8
      go_wp2_with fail
      refine (toIntS_any _ _ _ _ (H1.out.below B8.out) hm1).mono ?_
      rintro e w9 ⟨ay1, cy1, rfl, o, b⟩
      have Oy1_9 := Lib.hid o
      clear o
      have Ox0_9 := Lib.hid (Ox0_8.out.below (b.mono Ox0_8.out.lim))
      clear Ox0_8
      have Ox1_9 := Lib.hid (Ox1_8.out.below (b.mono Ox1_8.out.lim))
      clear Ox1_8
      have B9 := Lib.hid (B8.out.trans (b.mono B8.out.size))
      have s9 := b.size
      clear b B8
      go_wp2_with fail
      refine (eqIntS_same _ _ _ _ _ _ Ox1_9.out.row Oy1_9.out.row hm1).mono ?_
      rintro e w10 ⟨rfl, b⟩
      have Ox0_10 := Lib.hid (Ox0_9.out.below (b.mono Ox0_9.out.lim))
      clear Ox0_9
      have Ox1_10 := Lib.hid (Ox1_9.out.below (b.mono Ox1_9.out.lim))
      clear Ox1_9
      have Oy1_10 := Lib.hid (Oy1_9.out.below (b.mono Oy1_9.out.lim))
      clear Oy1_9
      have B10 := Lib.hid (B9.out.trans (b.mono B9.out.size))
      have s10 := b.size
      clear b B9
      clear Oy1_10
      go_wp2_with fail
      go_ret
      exact ⟨rfl, B10.out⟩
end Go.Proofs.Ytdnknkbcbnoobaa
