/-
  The walks of the exact laws on numerals' validity and value: each returns true for every input.
-/
import Derived.Test.YtnncfobnemlioaaNum2
namespace Go.Proofs.Ytnncfobnemlioaa
open Go.RowKit

/-- What a law's walk shows: it returns true and nothing that was there has turned. -/
def Lawful (w : World) (e : Ending) (w' : World) : Prop := e = .returned (.bool true) ∧ Below w.heap.size w w'

theorem fnExactNumeralValid_walk (a : Option Addr) (cap : Nat) (zs : List Int) (w : World) (h : InRow .i64 w a cap zs) :
    Calls Try.prog 3 #[.slice a zs.length cap] w fun e w' => e = .returned (.bool true) ∧ Below w.heap.size w w' := by
  have hfit := h.fits
  have hlim := h.lim
  unfold maxLen at hlim
  have H := Lib.hid h.row
  clear h
  by_cases hl : 1048576 < zs.length
  · go_enter Try.func3, Try.ntmps3
    go_wp2_with fail
    go_ret
    exact ⟨rfl, Below.refl _ _⟩
  · have hl' : zs.length ≤ 1048576 := by omega
    generalize ht : isNum zs = t
    have T := Lib.hid ht
    clear ht
    go_enter Try.func3, Try.ntmps3
    go_wp2_with fail
    refine (toIntS_any _ _ _ _ H.out hl').mono ?_
    rintro e w1 ⟨a1, c1, rfl, o1, b1⟩
    have O1 := Lib.hid o1
    have B1 := Lib.hid b1
    clear o1 b1
    go_wp2_with fail
    refine (specNumeralValid_any _ _ _ _ O1.out.row (by omega)).mono ?_
    rintro e w' ⟨rfl, rfl⟩
    rw [T.out]
    go_wp2_with fail
    refine (toIntS_any _ _ _ _ (H.out.below B1.out) hl').mono ?_
    rintro e w2 ⟨a2, c2, rfl, o2, b2⟩
    have O2 := Lib.hid o2
    have B2 := Lib.hid (B1.out.trans (b2.mono B1.out.size))
    clear o2 b2
    go_wp2_with fail
    refine (implNumeralValid_any _ _ _ _ O2.out.row (by omega)).mono ?_
    rintro e w3 ⟨rfl, b3⟩
    have O3 := Lib.hid (O2.out.below b3)
    have B3 := Lib.hid (B2.out.trans (b3.mono B2.out.size))
    clear b3
    rw [T.out]
    go_wp2_with fail
    refine (toIntS_any _ _ _ _ (H.out.below B3.out) hl').mono ?_
    rintro e w4 ⟨a4, c4, rfl, o4, b4⟩
    have O4 := Lib.hid o4
    have P4 := Lib.hid (O3.out.below (b4.mono O3.out.lim))
    have B4 := Lib.hid (B3.out.trans (b4.mono B3.out.size))
    clear o4 b4
    go_wp2_with fail
    refine (eqIntS_same _ _ _ _ _ _ P4.out.row O4.out.row hl').mono ?_
    rintro e w5 ⟨rfl, n5, rfl⟩
    go_wp2_with fail
    go_ret
    exact ⟨rfl, below_drewN B4.out _⟩
end Go.Proofs.Ytnncfobnemlioaa
