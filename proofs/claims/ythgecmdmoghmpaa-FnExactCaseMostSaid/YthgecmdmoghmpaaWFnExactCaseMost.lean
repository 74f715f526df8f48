
/-
  The walk of the law FnExactCaseMost: it returns true for every input.
-/
import Derived.Test.YthgecmdmoghmpaaCase2
import Derived.Test.YthgecmdmoghmpaaRods2
import Derived.Test.YthgecmdmoghmpaaRods3
namespace Go.Proofs.Ythgecmdmoghmpaa
open Go.RowKit

set_option maxRecDepth 100000 in
set_option maxHeartbeats 1000000 in
theorem fnExactCaseMost_walk (a0 : Option Addr) (cap0 : Nat) (rs : List (List Int)) (w : World) (h0 : InRods w a0 cap0 rs) :
    Calls Try.prog 5 #[.slice a0 rs.length cap0] w fun e w' => e = .returned (.bool true) ∧ Below w.heap.size w w' := by
  generalize ht : caseMost rs = t
  have T := Lib.hid ht
  have R0 := Lib.hid h0.row
  have hfit := h0.fits
  have hlim := h0.lim
  clear ht h0
  go_enter Try.func5, Try.ntmps5
  go_wp2_with fail
  refine (szRodS_any _ _ _ _ R0.out hfit hlim).mono ?_
  rintro e w1 ⟨⟨r, rfl, hr⟩, b1⟩
  have B1 := Lib.hid b1
  have R1 := Lib.hid (R0.out.below b1)
  clear b1
  by_cases hneg : r < 0
  · go_wp2_with fail
    go_ret
    exact ⟨rfl, B1.out⟩
  · have hpos : 0 ≤ r := by omega
    have S := Lib.hid (hr hpos)
    clear hr
    go_wp2_with fail
    refine (toRodS_any _ _ _ _ R1.out S.out).mono ?_
    rintro e w2 ⟨a2, c2, rfl, q2, _, _, b2⟩
    have B2 := Lib.hid (B1.out.trans (b2.mono B1.out.size))
    have R2 := Lib.hid (R1.out.below b2)
    have Q2 := Lib.hid q2
    clear b2 q2
    go_wp2_with fail
    refine (specCaseMost_any _ _ _ _ Q2.out S.out).mono ?_
    rintro e w' ⟨rfl, rfl⟩
    rw [T.out]
    go_wp2_with fail
    refine (toRodS_any _ _ _ _ R2.out S.out).mono ?_
    rintro e w3 ⟨a3, c3, rfl, q3, _, _, b3⟩
    have B3 := Lib.hid (B2.out.trans (b3.mono B2.out.size))
    have R3 := Lib.hid (R2.out.below b3)
    have Q3 := Lib.hid q3
    clear b3 q3
    go_wp2_with fail
    refine (implCaseMost_any _ _ _ _ Q3.out S.out).mono ?_
    rintro e w4 ⟨rfl, b4⟩
    rw [T.out]
    have B4 := Lib.hid (B3.out.trans (b4.mono B3.out.size))
    have R4 := Lib.hid (R3.out.below b4)
    have Q4 := Lib.hid (Q3.out.below b4)
    clear b4
    go_wp2_with fail
    refine (toRodS_any _ _ _ _ R4.out S.out).mono ?_
    rintro e w5 ⟨a5, c5, rfl, q5, _, _, b5⟩
    have B5 := Lib.hid (B4.out.trans (b5.mono B4.out.size))
    have P5 := Lib.hid (Q4.out.below b5)
    have Q5 := Lib.hid q5
    clear b5 q5
    go_wp2_with fail
    refine (eqRodS_same _ _ _ _ _ _ P5.out Q5.out S.out).mono ?_
    rintro e w6 ⟨rfl, b6⟩
    have B6 := Lib.hid (B5.out.trans (b6.mono B5.out.size))
    clear b6
    go_wp2_with fail
    go_ret
    exact ⟨rfl, B6.out⟩
end Go.Proofs.Ythgecmdmoghmpaa
