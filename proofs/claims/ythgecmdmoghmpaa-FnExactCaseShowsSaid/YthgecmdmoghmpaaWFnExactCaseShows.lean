
/-
  The walk of the law FnExactCaseShows: it returns true for every input.
-/
import Derived.Test.YthgecmdmoghmpaaCase7
import Derived.Test.YthgecmdmoghmpaaRods2
import Derived.Test.YthgecmdmoghmpaaRods3
namespace Go.Proofs.Ythgecmdmoghmpaa
open Go.RowKit

set_option maxRecDepth 100000 in
set_option maxHeartbeats 1000000 in
theorem fnExactCaseShows_walk (a0 : Option Addr) (cap0 : Nat) (rs : List (List Int)) (a1 : Option Addr) (cap1 : Nat) (zs : List Int) (w : World) (h0 : InRods w a0 cap0 rs) (h1 : InRow .i64 w a1 cap1 zs) :
    Calls Try.prog 3 #[.slice a0 rs.length cap0, .slice a1 zs.length cap1] w fun e w' => e = .returned (.bool true) ∧ Below w.heap.size w w' := by
  generalize ht : caseShows rs zs = t
  have T := Lib.hid ht
  have R0 := Lib.hid h0.row
  have L0 := Lib.hid h1.row
  have hfit := h0.fits
  have hlim := h0.lim
  have lfit := h1.fits
  have llim := h1.lim
  clear ht h0 h1
  by_cases hbig : 1048576 < zs.length
  · unfold maxLen at llim
    go_enter Try.func3, Try.ntmps3
    go_wp2_with fail
    go_ret
    exact ⟨rfl, Below.refl _ _⟩
  · have hzl : zs.length ≤ 1048576 := by omega
    go_enter Try.func3, Try.ntmps3
    go_wp2_with fail
    refine (szRodS_any _ _ _ _ R0.out hfit hlim).mono ?_
    rintro e w1 ⟨⟨r, rfl, hr⟩, b1⟩
    have B1 := Lib.hid b1
    have R1 := Lib.hid (R0.out.below b1)
    have L1 := Lib.hid (L0.out.below b1)
    clear b1
    by_cases hneg : r < 0
    · go_wp2_with fail
      go_ret
      exact ⟨rfl, B1.out⟩
    · have hpos : 0 ≤ r := by omega
      have S := Lib.hid (hr hpos)
      clear hr
      go_wp2_with fail
      refine (toRodS_any _ _ _ _ R1.out S.out).mono ?_
      rintro e w2 ⟨a2, c2, rfl, q2, _, _, b2⟩
      have B2 := Lib.hid (B1.out.trans (b2.mono B1.out.size))
      have R2 := Lib.hid (R1.out.below b2)
      have L2 := Lib.hid (L1.out.below b2)
      have Q2 := Lib.hid q2
      clear b2 q2
      go_wp2_with fail
      refine (toIntS_any _ _ _ _ L2.out hzl).mono ?_
      rintro e w3 ⟨a3, c3, rfl, o3, b3⟩
      have B3 := Lib.hid (B2.out.trans (b3.mono B2.out.size))
      have R3 := Lib.hid (R2.out.below b3)
      have L3 := Lib.hid (L2.out.below b3)
      have Q3 := Lib.hid (Q2.out.below b3)
      have M3 := Lib.hid o3.row
      have m3 := o3.caps
      clear b3 o3
      go_wp2_with fail
      refine (specCaseShows_any _ _ _ _ _ _ _ Q3.out S.out M3.out hzl m3.1 m3.2).mono ?_
      rintro e w4 ⟨rfl, b4⟩
      rw [T.out]
      have B4 := Lib.hid (B3.out.trans (b4.mono B3.out.size))
      have R4 := Lib.hid (R3.out.below b4)
      have L4 := Lib.hid (L3.out.below b4)
      clear b4
      go_wp2_with fail
      refine (toRodS_any _ _ _ _ R4.out S.out).mono ?_
      rintro e w5 ⟨a5, c5, rfl, q5, _, _, b5⟩
      have B5 := Lib.hid (B4.out.trans (b5.mono B4.out.size))
      have R5 := Lib.hid (R4.out.below b5)
      have L5 := Lib.hid (L4.out.below b5)
      have Q5 := Lib.hid q5
      clear b5 q5
      go_wp2_with fail
      refine (toIntS_any _ _ _ _ L5.out hzl).mono ?_
      rintro e w6 ⟨a6, c6, rfl, o6, b6⟩
      have B6 := Lib.hid (B5.out.trans (b6.mono B5.out.size))
      have R6 := Lib.hid (R5.out.below b6)
      have L6 := Lib.hid (L5.out.below b6)
      have Q6 := Lib.hid (Q5.out.below b6)
      have M6 := Lib.hid o6.row
      clear b6 o6
      go_wp2_with fail
      refine (implCaseShows_any _ _ _ _ _ _ _ Q6.out S.out M6.out hzl).mono ?_
      rintro e w7 ⟨rfl, b7⟩
      rw [T.out]
      have B7 := Lib.hid (B6.out.trans (b7.mono B6.out.size))
      have R7 := Lib.hid (R6.out.below b7)
      have L7 := Lib.hid (L6.out.below b7)
      have Q7 := Lib.hid (Q6.out.below b7)
      have M7 := Lib.hid (M6.out.below b7)
      clear b7
      go_wp2_with fail
      refine (toRodS_any _ _ _ _ R7.out S.out).mono ?_
      rintro e w8 ⟨a8, c8, rfl, q8, _, _, b8⟩
      have B8 := Lib.hid (B7.out.trans (b8.mono B7.out.size))
      have L8 := Lib.hid (L7.out.below b8)
      have Q8 := Lib.hid (Q7.out.below b8)
      have M8 := Lib.hid (M7.out.below b8)
      have P8 := Lib.hid q8
      clear b8 q8
      go_wp2_with fail
      refine (eqRodS_same _ _ _ _ _ _ Q8.out P8.out S.out).mono ?_
      rintro e w9 ⟨rfl, b9⟩
      have B9 := Lib.hid (B8.out.trans (b9.mono B8.out.size))
      have L9 := Lib.hid (L8.out.below b9)
      have M9 := Lib.hid (M8.out.below b9)
      clear b9
      go_wp2_with fail
      refine (toIntS_any _ _ _ _ L9.out hzl).mono ?_
      rintro e w10 ⟨a10, c10, rfl, o10, b10⟩
      have B10 := Lib.hid (B9.out.trans (b10.mono B9.out.size))
      have M10 := Lib.hid (M9.out.below b10)
      have N10 := Lib.hid o10.row
      clear b10 o10
      go_wp2_with fail
      refine (eqIntS_same _ _ _ _ _ _ M10.out N10.out hzl).mono ?_
      rintro e w11 ⟨rfl, b11⟩
      have B11 := Lib.hid (B10.out.trans (b11.mono B10.out.size))
      clear b11
      go_wp2_with fail
      go_ret
      exact ⟨rfl, B11.out⟩
end Go.Proofs.Ythgecmdmoghmpaa
