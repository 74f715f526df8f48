
/-
  The walk of the law FnExactUnitsText: it returns true for every input, where the listed table of powers of ten reads as the program's text lays it.
-/
import Derived.Test.YtapcnpkaphdlkaaDoorTextUS
import Derived.Test.YtapcnpkaphdlkaaDoorTextUI
import Derived.Test.YtapcnpkaphdlkaaDoorCommon
namespace Go.Proofs.YtapcnpkaphdlkaaDoor
open Go.RowKit

set_option maxRecDepth 100000 in
set_option maxHeartbeats 1000000 in
theorem fnExactUnitsText_walk (a0 : Option Addr) (cap0 : Nat) (z0 : List Int) (w : World) (h0 : InRow .i64 w a0 cap0 z0) (hp : Pow10 w) :
    Calls Tryd.prog 4 #[.slice a0 z0.length cap0] w fun e w' => e = .returned (.bool true) ∧ Below w.heap.size w w' := by
  generalize ht : unitsText z0 = t
  have T := Lib.hid ht
  have HP := Lib.hid hp
  have L0 := Lib.hid h0.row
  have hfit := h0.fits
  have hlim := h0.lim
  unfold maxLen at hlim
  clear ht h0 hp
  by_cases hbig : 1048576 < z0.length
  · go_enter Tryd.func4, Tryd.ntmps4
    go_wp2_with fail
    go_ret
    exact ⟨rfl, Below.refl _ _⟩
  · have hzl : z0.length ≤ 1048576 := by omega
    go_enter Tryd.func4, Tryd.ntmps4
    go_wp2_with fail
    refine (toIntS_any _ _ _ _ L0.out hzl).mono ?_
    rintro e w1 ⟨a1, c1, rfl, o1, b1⟩
    have B1 := Lib.hid b1
    have L1 := Lib.hid (L0.out.below b1)
    have M1 := Lib.hid o1.row
    clear b1 o1
    go_wp2_with fail
    refine (specUnitsText_any _ _ _ _ M1.out hzl).mono ?_
    rintro e w2 ⟨rfl, b2⟩
    rw [T.out]
    have B2 := Lib.hid (B1.out.trans (b2.mono B1.out.size))
    have L2 := Lib.hid (L1.out.below b2)
    clear b2
    go_wp2_with fail
    refine (toIntS_any _ _ _ _ L2.out hzl).mono ?_
    rintro e w3 ⟨a3, c3, rfl, o3, b3⟩
    have B3 := Lib.hid (B2.out.trans (b3.mono B2.out.size))
    have L3 := Lib.hid (L2.out.below b3)
    have M3 := Lib.hid o3.row
    clear b3 o3
    go_wp2_with fail
    refine (implUnitsText_any _ _ _ _ M3.out hzl (pow10_below HP.out B3.out)).mono ?_
    rintro e w4 ⟨rfl, b4⟩
    rw [T.out]
    have B4 := Lib.hid (B3.out.trans (b4.mono B3.out.size))
    have L4 := Lib.hid (L3.out.below b4)
    have M4 := Lib.hid (M3.out.below b4)
    clear b4
    go_wp2_with fail
    refine (toIntS_any _ _ _ _ L4.out hzl).mono ?_
    rintro e w5 ⟨a5, c5, rfl, o5, b5⟩
    have B5 := Lib.hid (B4.out.trans (b5.mono B4.out.size))
    have M5 := Lib.hid (M4.out.below b5)
    have N5 := Lib.hid o5.row
    clear b5 o5
    go_wp2_with fail
    refine (eqIntS_same _ _ _ _ _ _ M5.out N5.out hzl).mono ?_
    rintro e w6 ⟨rfl, b6⟩
    have B6 := Lib.hid (B5.out.trans (b6.mono B5.out.size))
    clear b6
    go_wp2_with fail
    go_ret
    exact ⟨rfl, B6.out⟩
end Go.Proofs.YtapcnpkaphdlkaaDoor
