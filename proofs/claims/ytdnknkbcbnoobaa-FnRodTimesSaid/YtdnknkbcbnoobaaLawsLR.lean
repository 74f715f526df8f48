
/-
  The walk of the law FnRodTimes: rods multiply by a digit: it returns true for every code.
-/
import Derived.Test.YtdnknkbcbnoobaaLawsL
import Derived.Test.YtdnknkbcbnoobaaLawsN
namespace Go.Proofs.Ytdnknkbcbnoobaa
open Go.RowKit

set_option maxRecDepth 100000 in
set_option maxHeartbeats 2000000 in
theorem fnRodTimes_walk (a : Option Addr) (cap : Nat) (zs : List Int) (w : World) (h : InRow .u8 w a cap zs) :
    Calls Try.prog 8 #[.slice a zs.length cap] w fun e w' => e = .returned (.bool true) ∧ Below w.heap.size w w' := by
  have hfit := h.fits
  have hlim := h.lim
  unfold maxLen at hlim
  have H := Lib.hid h
  clear h
  by_cases hl : 1048576 < zs.length
  · go_enter Try.func8, Try.ntmps8
    go_wp2_with fail
    go_ret
    exact ⟨rfl, Below.refl _ _⟩
  · go_enter Try.func8, Try.ntmps8
    go_wp2_with fail
    refine (drawRodTimes_any _ _ _ _ H.out).mono ?_
    rintro e w1 ⟨a1, c1, ys, t, rfl, _, hl7, t0, t1, o1, b1⟩
    have X1 := Lib.hid o1.row
    have B1 := Lib.hid b1
    clear o1 b1
    cases hn : isNum ys && inB t 0 9
    · have E := Lib.hid (show rodTimes ys t = -1 by unfold rodTimes; rw [hn]; rfl)
      clear hn
      go_wp2_with fail
      refine (implRodTimes_any _ _ _ _ X1.out (by omega) _).mono ?_
      rintro e w2 ⟨rfl, b2⟩
      rw [E.out]
      have B2 := Lib.hid (B1.out.trans (b2.mono B1.out.size))
      have X2 := Lib.hid (X1.out.below b2)
      clear b2
      go_wp2_with fail
      refine (specRodTimes_any _ _ _ _ X2.out (by omega) _).mono ?_
      rintro e w' ⟨rfl, rfl⟩
      rw [E.out]
      go_wp2_with fail
      go_ret
      exact ⟨rfl, B2.out⟩
    · obtain ⟨hnum, ht⟩ : isNum ys = true ∧ inB t 0 9 = true := by simpa using hn
      obtain ⟨hdg, hl1, hl6⟩ := isNum_parts hnum
      obtain ⟨tt0, tt9⟩ := inB_true ht
      have hv := val_bd6 hdg hl6
      have E := Lib.hid (rodTimes_yes hnum ht)
      have rb := rod_bd hv.1 hv.2 tt0 tt9
      have ES := Lib.hid (stripTimes_yes hnum ht)
      have VS := Lib.hid (strip_val' t ys)
      have DD := Lib.hid (strip_digits tt0 tt9 hdg)
      have LEN := Lib.hid (show ((stripR t ys).1 :: (stripR t ys).2).length = ys.length + 1 by simp [stripR_len])
      have NV := Lib.hid (numVal_yes hnum)
      have nt : isNum [t] = true := isNum_of (digs_of fun d hd => by have : d = t := by simpa using hd
                                                                     omega) (by simp) (by simp)
      have LT := Lib.hid (show latTimes ys [t] = val ys * t by rw [latTimes_yes hnum nt, latDig_val hdg (isNum_parts nt).1 hl6 (by simp), val_one])
      clear hn hnum ht hdg nt
      generalize (stripR t ys).1 :: (stripR t ys).2 = rs at *
      have rl : rs.length ≤ 7 := by rw [LEN.out]; omega
      generalize val ys = V at *
      go_wp2_with fail
      refine (implRodTimes_any _ _ _ _ X1.out (by omega) _).mono ?_
      rintro e w2 ⟨rfl, b2⟩
      rw [E.out]
      have B2 := Lib.hid (B1.out.trans (b2.mono B1.out.size))
      have X2 := Lib.hid (X1.out.below b2)
      clear b2
      go_wp2_with fail
      refine (specRodTimes_any _ _ _ _ X2.out (by omega) _).mono ?_
      rintro e w' ⟨rfl, rfl⟩
      rw [E.out]
      go_wp2_with fail
      refine (implStripTimes_any _ _ _ _ X2.out (by omega) _ rs true ES.out).mono ?_
      rintro e w3 ⟨a3, c3, rfl, o3, b3⟩
      have B3 := Lib.hid (B2.out.trans (b3.mono B2.out.size))
      have X3 := Lib.hid (X2.out.below b3)
      have O3 := Lib.hid o3
      clear b3 o3
      go_wp2_with fail
      refine (implNumeralValue_any _ _ _ _ X3.out (by omega)).mono ?_
      rintro e w4 ⟨rfl, b4⟩
      rw [NV.out]
      have B4 := Lib.hid (B3.out.trans (b4.mono B3.out.size))
      have X4 := Lib.hid (X3.out.below b4)
      have O4 := Lib.hid (O3.out.below (b4.mono O3.out.lim))
      have hs4 := B4.out.size
      clear b4
      go_wp2_with fail
      have LIT := Lib.hid (show Row .i64 (w4.alloc (.cells #[.int .i64 t] 3)) (some ⟨w4.heap.size, 0, none⟩) [t] from (own_lit w4 w.heap.size [t] hs4 (by simp)).row)
      have b5 := (Below.refl w4.heap.size w4).alloc (Nat.le_refl _) (.cells #[.int .i64 t] 3)
      have B5 := Lib.hid (B4.out.trans (b5.mono hs4))
      have X5 := Lib.hid (X4.out.below b5)
      have O5 := Lib.hid (O4.out.below (b5.mono O4.out.lim))
      clear b5
      refine (implLatticeTimes_any _ _ _ ys X5.out (by omega) _ _ [t] LIT.out (by simp)).mono ?_
      rintro e w6 ⟨rfl, b6⟩
      rw [LT.out]
      have B6 := Lib.hid (B5.out.trans (b6.mono B5.out.size))
      have O6 := Lib.hid (O5.out.below (b6.mono O5.out.lim))
      clear b6
      go_wp2_with fail
      refine (valueOf_any _ _ _ _ O6.out.row (by omega) DD.out).mono ?_
      rintro e w' ⟨rfl, rfl⟩
      rw [VS.out]
      generalize V * t = VT at *
      go_wp2_with fail
      go_ret
      exact ⟨rfl, B6.out⟩
end Go.Proofs.Ytdnknkbcbnoobaa
