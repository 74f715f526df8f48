
/-
  The walk of the law FnExactBoardLay: it returns true for every input. (Printed by a program over the contracts of the two functions.)
-/
import Derived.Test.YtdappacmfpkhcaaBoard4
import Derived.Test.YtdappacmfpkhcaaCommon
namespace Go.Proofs.Ytdappacmfpkhcaa
open Go.RowKit

set_option maxRecDepth 100000 in
set_option maxHeartbeats 1000000 in
theorem fnExactBoardLay_walk (a0 : Option Addr) (cap0 : Nat) (z0 : List Int) (a1 : Option Addr) (cap1 : Nat) (z1 : List Int) (w : World) (h0 : InRow .i64 w a0 cap0 z0) (h1 : InRow .i64 w a1 cap1 z1) :
    Calls Try.prog 9 #[.slice a0 z0.length cap0, .slice a1 z1.length cap1] w fun e w' => e = .returned (.bool true) ∧ Below w.heap.size w w' := by
  have hfit0 := h0.fits
  have hlim0 := h0.lim
  unfold maxLen at hlim0
  have H0 := Lib.hid h0.row
  clear h0
  have hfit1 := h1.fits
  have hlim1 := h1.lim
  unfold maxLen at hlim1
  have H1 := Lib.hid h1.row
  clear h1
  by_cases hl0 : 1048576 < z0.length
  · go_enter Try.func9, Try.ntmps9
    go_wp2_with fail
    go_ret
    exact ⟨rfl, Below.refl _ _⟩
  · skip
    have hm0 : z0.length ≤ 1048576 := by omega
    by_cases hl1 : 1048576 < z1.length
    · go_enter Try.func9, Try.ntmps9
      go_wp2_with fail
      go_ret
      exact ⟨rfl, Below.refl _ _⟩
    · skip
      have hm1 : z1.length ≤ 1048576 := by omega
      have hbd := boardLay_bd z0 z1
      generalize ht : boardLay z0 z1 = t at hbd
      have T := Lib.hid ht
      clear ht
      obtain ⟨r0, ok⟩ := t
      have hr0 : r0.length ≤ 1048576 := hbd
      clear hbd
      have B0 := Lib.hid (Below.refl w.heap.size w)
      go_enter Try.func9, Try.ntmps9
      go_wp2_with fail
      refine (toIntS_any _ _ _ _ (H0.out.below B0.out) hm0).mono ?_
      rintro e w1 ⟨ap0, cp0, rfl, o, b⟩
      have Op0_1 := Lib.hid o
      clear o
      have B1 := Lib.hid (B0.out.trans (b.mono B0.out.size))
      have s1 := b.size
      clear b B0
      go_wp2_with fail
      refine (toIntS_any _ _ _ _ (H1.out.below B1.out) hm1).mono ?_
      rintro e w2 ⟨ap1, cp1, rfl, o, b⟩
      have Op1_2 := Lib.hid o
      clear o
      have Op0_2 := Lib.hid (Op0_1.out.below (b.mono Op0_1.out.lim))
      clear Op0_1
      have B2 := Lib.hid (B1.out.trans (b.mono B1.out.size))
      have s2 := b.size
      clear b B1
      go_wp2_with fail
      refine (specBoardLay_any _ _ _ _ Op0_2.out.row (by omega) _ _ _ Op1_2.out.row (by omega) r0 ok T.out).mono ?_
      rintro e w3 ⟨av0, cv0, rfl, ov0, b⟩
      have Ov0_3 := Lib.hid ov0
      clear ov0
      have Op0_3 := Lib.hid (Op0_2.out.below (b.mono Op0_2.out.lim))
      clear Op0_2
      have Op1_3 := Lib.hid (Op1_2.out.below (b.mono Op1_2.out.lim))
      clear Op1_2
      have B3 := Lib.hid (B2.out.trans (b.mono B2.out.size))
      have s3 := b.size
      clear b B2
      clear Op0_3 Op1_3
      go_wp2_with fail
      refine (toIntS_any _ _ _ _ (H0.out.below B3.out) hm0).mono ?_
      rintro e w4 ⟨ax0, cx0, rfl, o, b⟩
      have Ox0_4 := Lib.hid o
      clear o
      have Ov0_4 := Lib.hid (Ov0_3.out.below (b.mono Ov0_3.out.lim))
      clear Ov0_3
      have B4 := Lib.hid (B3.out.trans (b.mono B3.out.size))
      have s4 := b.size
      clear b B3
      go_wp2_with fail
      refine (toIntS_any _ _ _ _ (H1.out.below B4.out) hm1).mono ?_
      rintro e w5 ⟨ax1, cx1, rfl, o, b⟩
      have Ox1_5 := Lib.hid o
      clear o
      have Ov0_5 := Lib.hid (Ov0_4.out.below (b.mono Ov0_4.out.lim))
      clear Ov0_4
      have Ox0_5 := Lib.hid (Ox0_4.out.below (b.mono Ox0_4.out.lim))
      clear Ox0_4
      have B5 := Lib.hid (B4.out.trans (b.mono B4.out.size))
      have s5 := b.size
      clear b B4
      go_wp2_with fail
      refine (implBoardLay_any _ _ _ _ Ox0_5.out.row (by omega) _ _ _ Ox1_5.out.row (by omega) r0 ok T.out).mono ?_
      rintro e w6 ⟨ag0, cg0, rfl, og0, b⟩
      have Og0_6 := Lib.hid og0
      clear og0
      have Ov0_6 := Lib.hid (Ov0_5.out.below (b.mono Ov0_5.out.lim))
      clear Ov0_5
      have Ox0_6 := Lib.hid (Ox0_5.out.below (b.mono Ox0_5.out.lim))
      clear Ox0_5
      have Ox1_6 := Lib.hid (Ox1_5.out.below (b.mono Ox1_5.out.lim))
      clear Ox1_5
      have B6 := Lib.hid (B5.out.trans (b.mono B5.out.size))
      have s6 := b.size
      clear b B5
      go_wp2_with fail
      refine (eqIntS_same _ _ _ _ _ _ Og0_6.out.row Ov0_6.out.row hr0).mono ?_
      rintro e w7 ⟨rfl, b⟩
      have Ov0_7 := Lib.hid (Ov0_6.out.below (b.mono Ov0_6.out.lim))
      clear Ov0_6
      have Ox0_7 := Lib.hid (Ox0_6.out.below (b.mono Ox0_6.out.lim))
      clear Ox0_6
      have Ox1_7 := Lib.hid (Ox1_6.out.below (b.mono Ox1_6.out.lim))
      clear Ox1_6
      have Og0_7 := Lib.hid (Og0_6.out.below (b.mono Og0_6.out.lim))
      clear Og0_6
      have B7 := Lib.hid (B6.out.trans (b.mono B6.out.size))
      have s7 := b.size
      clear b B6
      go_wp2_with fail
      refine (toIntS_any _ _ _ _ (H0.out.below B7.out) hm0).mono ?_
      rintro e w8 ⟨ay0, cy0, rfl, o, b⟩
      have Oy0_8 := Lib.hid o
      clear o
      have Ov0_8 := Lib.hid (Ov0_7.out.below (b.mono Ov0_7.out.lim))
      clear Ov0_7
      have Ox0_8 := Lib.hid (Ox0_7.out.below (b.mono Ox0_7.out.lim))
      clear Ox0_7
      have Ox1_8 := Lib.hid (Ox1_7.out.below (b.mono Ox1_7.out.lim))
      clear Ox1_7
      have Og0_8 := Lib.hid (Og0_7.out.below (b.mono Og0_7.out.lim))
      clear Og0_7
      have B8 := Lib.hid (B7.out.trans (b.mono B7.out.size))
      have s8 := b.size
      clear b B7
      go_wp2_with fail
      refine (eqIntS_same _ _ _ _ _ _ Ox0_8.out.row Oy0_8.out.row hm0).mono ?_
      rintro e w9 ⟨rfl, b⟩
      have Ov0_9 := Lib.hid (Ov0_8.out.below (b.mono Ov0_8.out.lim))
      clear Ov0_8
      have Ox0_9 := Lib.hid (Ox0_8.out.below (b.mono Ox0_8.out.lim))
      clear Ox0_8
      have Ox1_9 := Lib.hid (Ox1_8.out.below (b.mono Ox1_8.out.lim))
      clear Ox1_8
      have Og0_9 := Lib.hid (Og0_8.out.below (b.mono Og0_8.out.lim))
      clear Og0_8
      have Oy0_9 := Lib.hid (Oy0_8.out.below (b.mono Oy0_8.out.lim))
      clear Oy0_8
      have B9 := Lib.hid (B8.out.trans (b.mono B8.out.size))
      have s9 := b.size
      clear b B8
      clear Oy0_9
      go_wp2_with fail
      refine (toIntS_any _ _ _ _ (H1.out.below B9.out) hm1).mono ?_
      rintro e w10 ⟨ay1, cy1, rfl, o, b⟩
      have Oy1_10 := Lib.hid o
      clear o
      have Ov0_10 := Lib.hid (Ov0_9.out.below (b.mono Ov0_9.out.lim))
      clear Ov0_9
      have Ox0_10 := Lib.hid (Ox0_9.out.below (b.mono Ox0_9.out.lim))
      clear Ox0_9
      have Ox1_10 := Lib.hid (Ox1_9.out.below (b.mono Ox1_9.out.lim))
      clear Ox1_9
      have Og0_10 := Lib.hid (Og0_9.out.below (b.mono Og0_9.out.lim))
      clear Og0_9
      have B10 := Lib.hid (B9.out.trans (b.mono B9.out.size))
      have s10 := b.size
      clear b B9
      go_wp2_with fail
      refine (eqIntS_same _ _ _ _ _ _ Ox1_10.out.row Oy1_10.out.row hm1).mono ?_
      rintro e w11 ⟨rfl, b⟩
      have Ov0_11 := Lib.hid (Ov0_10.out.below (b.mono Ov0_10.out.lim))
      clear Ov0_10
      have Ox0_11 := Lib.hid (Ox0_10.out.below (b.mono Ox0_10.out.lim))
      clear Ox0_10
      have Ox1_11 := Lib.hid (Ox1_10.out.below (b.mono Ox1_10.out.lim))
      clear Ox1_10
      have Og0_11 := Lib.hid (Og0_10.out.below (b.mono Og0_10.out.lim))
      clear Og0_10
      have Oy1_11 := Lib.hid (Oy1_10.out.below (b.mono Oy1_10.out.lim))
      clear Oy1_10
      have B11 := Lib.hid (B10.out.trans (b.mono B10.out.size))
      have s11 := b.size
      clear b B10
      clear Oy1_11
      go_wp2_with fail
      refine (markIntS_any _ _ _ _ _ _ _ Ox0_11.out (by omega) (by omega) (by omega)).mono ?_
      rintro e w12 ⟨rfl, om, tm⟩
      have Ov0_12 := Lib.hid (tm.own Ov0_11.out (by omega))
      clear Ov0_11
      have Ox1_12 := Lib.hid (tm.own Ox1_11.out (by omega))
      clear Ox1_11
      have Og0_12 := Lib.hid (tm.own Og0_11.out (by omega))
      clear Og0_11
      have Ox0_12 := Lib.hid om
      clear om Ox0_11
      have q12 := B11.out.size
      have B12 := Lib.hid (B11.out.trans (tm.below (by omega) B11.out.size))
      have s12 := tm.size
      clear tm B11
      go_wp2_with fail
      refine (markIntS_any _ _ _ _ _ _ _ Ox1_12.out (by omega) (by omega) (by omega)).mono ?_
      rintro e w13 ⟨rfl, om, tm⟩
      have Ov0_13 := Lib.hid (tm.own Ov0_12.out (by omega))
      clear Ov0_12
      have Ox0_13 := Lib.hid (tm.own Ox0_12.out (by omega))
      clear Ox0_12
      have Og0_13 := Lib.hid (tm.own Og0_12.out (by omega))
      clear Og0_12
      have Ox1_13 := Lib.hid om
      clear om Ox1_12
      have q13 := B12.out.size
      have B13 := Lib.hid (B12.out.trans (tm.below (by omega) B12.out.size))
      have s13 := tm.size
      clear tm B12
      go_wp2_with fail
      refine (eqIntS_same _ _ _ _ _ _ Og0_13.out.row Ov0_13.out.row hr0).mono ?_
      rintro e w14 ⟨rfl, b⟩
      have Ov0_14 := Lib.hid (Ov0_13.out.below (b.mono Ov0_13.out.lim))
      clear Ov0_13
      have Ox0_14 := Lib.hid (Ox0_13.out.below (b.mono Ox0_13.out.lim))
      clear Ox0_13
      have Ox1_14 := Lib.hid (Ox1_13.out.below (b.mono Ox1_13.out.lim))
      clear Ox1_13
      have Og0_14 := Lib.hid (Og0_13.out.below (b.mono Og0_13.out.lim))
      clear Og0_13
      have B14 := Lib.hid (B13.out.trans (b.mono B13.out.size))
      have s14 := b.size
      clear b B13
      clear Ox0_14 Ox1_14
      go_wp2_with fail
      refine (markIntS_any _ _ _ _ _ _ _ Og0_14.out (by omega) (by omega) (by omega)).mono ?_
      rintro e w15 ⟨rfl, om, tm⟩
      have Ov0_15 := Lib.hid (tm.own Ov0_14.out (by omega))
      clear Ov0_14
      have Og0_15 := Lib.hid om
      clear om Og0_14
      have q15 := B14.out.size
      have B15 := Lib.hid (B14.out.trans (tm.below (by omega) B14.out.size))
      have s15 := tm.size
      clear tm B14
      go_wp2_with fail
      refine (heldIntS_any _ _ _ _ _ Og0_15.out.row (by omega) (by omega) (by omega)).mono ?_
      rintro e w' ⟨rfl, rfl⟩
      go_wp2_with fail
      refine (toIntS_any _ _ _ _ (H0.out.below B15.out) hm0).mono ?_
      rintro e w16 ⟨au0, cu0, rfl, o, b⟩
      have Ou0_16 := Lib.hid o
      clear o
      have Ov0_16 := Lib.hid (Ov0_15.out.below (b.mono Ov0_15.out.lim))
      clear Ov0_15
      have Og0_16 := Lib.hid (Og0_15.out.below (b.mono Og0_15.out.lim))
      clear Og0_15
      have B16 := Lib.hid (B15.out.trans (b.mono B15.out.size))
      have s16 := b.size
      clear b B15
      go_wp2_with fail
      refine (toIntS_any _ _ _ _ (H1.out.below B16.out) hm1).mono ?_
      rintro e w17 ⟨au1, cu1, rfl, o, b⟩
      have Ou1_17 := Lib.hid o
      clear o
      have Ov0_17 := Lib.hid (Ov0_16.out.below (b.mono Ov0_16.out.lim))
      clear Ov0_16
      have Og0_17 := Lib.hid (Og0_16.out.below (b.mono Og0_16.out.lim))
      clear Og0_16
      have Ou0_17 := Lib.hid (Ou0_16.out.below (b.mono Ou0_16.out.lim))
      clear Ou0_16
      have B17 := Lib.hid (B16.out.trans (b.mono B16.out.size))
      have s17 := b.size
      clear b B16
      go_wp2_with fail
      refine (implBoardLay_any _ _ _ _ Ou0_17.out.row (by omega) _ _ _ Ou1_17.out.row (by omega) r0 ok T.out).mono ?_
      rintro e w18 ⟨ah0, ch0, rfl, oh0, b⟩
      have Oh0_18 := Lib.hid oh0
      clear oh0
      have Ov0_18 := Lib.hid (Ov0_17.out.below (b.mono Ov0_17.out.lim))
      clear Ov0_17
      have Og0_18 := Lib.hid (Og0_17.out.below (b.mono Og0_17.out.lim))
      clear Og0_17
      have Ou0_18 := Lib.hid (Ou0_17.out.below (b.mono Ou0_17.out.lim))
      clear Ou0_17
      have Ou1_18 := Lib.hid (Ou1_17.out.below (b.mono Ou1_17.out.lim))
      clear Ou1_17
      have B18 := Lib.hid (B17.out.trans (b.mono B17.out.size))
      have s18 := b.size
      clear b B17
      go_wp2_with fail
      refine (eqIntS_same _ _ _ _ _ _ Oh0_18.out.row Ov0_18.out.row hr0).mono ?_
      rintro e w19 ⟨rfl, b⟩
      have Ov0_19 := Lib.hid (Ov0_18.out.below (b.mono Ov0_18.out.lim))
      clear Ov0_18
      have Og0_19 := Lib.hid (Og0_18.out.below (b.mono Og0_18.out.lim))
      clear Og0_18
      have Ou0_19 := Lib.hid (Ou0_18.out.below (b.mono Ou0_18.out.lim))
      clear Ou0_18
      have Ou1_19 := Lib.hid (Ou1_18.out.below (b.mono Ou1_18.out.lim))
      clear Ou1_18
      have Oh0_19 := Lib.hid (Oh0_18.out.below (b.mono Oh0_18.out.lim))
      clear Oh0_18
      have B19 := Lib.hid (B18.out.trans (b.mono B18.out.size))
      have s19 := b.size
      clear b B18
      go_wp2_with fail
      refine (heldIntS_any _ _ _ _ _ Og0_19.out.row (by omega) (by omega) (by omega)).mono ?_
      rintro e w' ⟨rfl, rfl⟩
      go_wp2_with fail
      go_ret
      exact ⟨rfl, B19.out⟩
end Go.Proofs.Ytdappacmfpkhcaa
