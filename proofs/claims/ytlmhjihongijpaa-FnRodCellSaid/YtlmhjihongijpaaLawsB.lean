/-
  The walks of two laws over drawn digits: a cell has two digits; a strip tells digit and carry: each returns true for every code.
-/
import Derived.Test.YtlmhjihongijpaaDig
import Derived.Test.YtlmhjihongijpaaDraw
namespace Go.Proofs.Ytlmhjihongijpaa
open Go.RowKit

def TwoDrawn (w : World) (lo hi : Int) (e : Ending) (w' : World) : Prop := ∃ x y : Int, e = .returned (.tuple #[.int .i64 x, .int .i64 y]) ∧ lo ≤ x ∧ x ≤ hi ∧ lo ≤ y ∧ y ≤ hi ∧ Below w.heap.size w w'
def ThreeDrawn (w : World) (lo hi : Int) (e : Ending) (w' : World) : Prop := ∃ x y z : Int, e = .returned (.tuple #[.int .i64 x, .int .i64 y, .int .i64 z]) ∧ lo ≤ x ∧ x ≤ hi ∧ lo ≤ y ∧ y ≤ hi ∧ lo ≤ z ∧ z ≤ hi ∧ Below w.heap.size w w'

theorem below_rd {w w1 w2 : World} (hb : Below w.heap.size w w1) (hg : w1.grownBy w2 (some w.heap.size)) : Below w.heap.size w w2 :=
  hb.grown hg hb.size (fun k hk => by injection hk with hk; omega)

theorem drawRodCell_any (w : World) (a : Option Addr) (cap : Nat) (zs : List Int) (h : InRow .u8 w a cap zs) :
    Calls Try.prog 12 #[.slice a zs.length cap] w (TwoDrawn w (-1) 10) := by
  have H := Lib.hid h
  clear h
  go_enter Try.func12, Try.ntmps12
  go_wp2_with fail
  refine (l6Open_any _ _ _ _ H.out).mono ?_
  rintro e w1 ⟨rfl, r1, b1⟩
  have R1 := Lib.hid r1
  have B1 := Lib.hid b1
  clear r1 b1
  go_wp2_with fail
  refine (l91Digit_any _ _ _ R1.out (by omega)).mono ?_
  rintro e w2 ⟨x, rfl, x0, x1, r2, g2⟩
  have R2 := Lib.hid r2
  have B2 := Lib.hid (below_rd B1.out g2)
  clear r2 g2
  go_wp2_with fail
  refine (l91Digit_any _ _ _ R2.out (by omega)).mono ?_
  rintro e w3 ⟨y, rfl, y0, y1, r3, g3⟩
  have B3 := Lib.hid (below_rd B2.out g3)
  clear r3 g3
  go_wp2_with fail
  go_ret2
  exact ⟨x, y, rfl, x0, x1, y0, y1, B3.out⟩

theorem drawStripStep_any (w : World) (a : Option Addr) (cap : Nat) (zs : List Int) (h : InRow .u8 w a cap zs) :
    Calls Try.prog 13 #[.slice a zs.length cap] w (ThreeDrawn w (-1) 10) := by
  have H := Lib.hid h
  clear h
  go_enter Try.func13, Try.ntmps13
  go_wp2_with fail
  refine (l6Open_any _ _ _ _ H.out).mono ?_
  rintro e w1 ⟨rfl, r1, b1⟩
  have R1 := Lib.hid r1
  have B1 := Lib.hid b1
  clear r1 b1
  go_wp2_with fail
  refine (l91Digit_any _ _ _ R1.out (by omega)).mono ?_
  rintro e w2 ⟨x, rfl, x0, x1, r2, g2⟩
  have R2 := Lib.hid r2
  have B2 := Lib.hid (below_rd B1.out g2)
  clear r2 g2
  go_wp2_with fail
  refine (l91Digit_any _ _ _ R2.out (by omega)).mono ?_
  rintro e w3 ⟨y, rfl, y0, y1, r3, g3⟩
  have R3 := Lib.hid r3
  have B3 := Lib.hid (below_rd B2.out g3)
  clear r3 g3
  go_wp2_with fail
  refine (l91Digit_any _ _ _ R3.out (by omega)).mono ?_
  rintro e w4 ⟨z, rfl, z0, z1, r4, g4⟩
  have B4 := Lib.hid (below_rd B3.out g4)
  clear r4 g4
  go_wp2_with fail
  go_ret3
  exact ⟨x, y, z, rfl, x0, x1, y0, y1, z0, z1, B4.out⟩

theorem rodCell_comm (a b : Int) : rodCell b a = rodCell a b := by
  unfold rodCell
  rw [Int.mul_comm b a, Bool.and_comm]

theorem fnRodCell_walk (a : Option Addr) (cap : Nat) (zs : List Int) (w : World) (h : InRow .u8 w a cap zs) :
    Calls Try.prog 6 #[.slice a zs.length cap] w fun e w' => e = .returned (.bool true) ∧ Below w.heap.size w w' := by
  have hfit := h.fits
  have hlim := h.lim
  unfold maxLen at hlim
  have H := Lib.hid h
  clear h
  by_cases hl : 1048576 < zs.length
  · go_enter Try.func6, Try.ntmps6
    go_wp2_with fail
    go_ret
    exact ⟨rfl, Below.refl _ _⟩
  · go_enter Try.func6, Try.ntmps6
    go_wp2_with fail
    refine (drawRodCell_any _ _ _ _ H.out).mono ?_
    rintro e w1 ⟨x, y, rfl, x0, x1, y0, y1, b1⟩
    have B1 := Lib.hid b1
    clear b1
    cases hr : inB x 0 9 && inB y 0 9
    · have e0 : rodCell x y = (0, 0, false) := by unfold rodCell; rw [hr]; rfl
      have E := Lib.hid e0
      clear e0 hr
      go_wp2_with fail
      refine (implRodCell_any _ _ _).mono ?_
      rintro e w' ⟨rfl, rfl⟩
      rw [E.out]
      unfold tri
      go_wp2_with fail
      refine (specRodCell_any _ _ _).mono ?_
      rintro e w' ⟨rfl, rfl⟩
      rw [E.out]
      unfold tri
      go_wp2_with fail
      go_ret
      exact ⟨rfl, B1.out⟩
    · have e0 : rodCell x y = (x * y / 10, x * y % 10, true) := by unfold rodCell; rw [hr]; rfl
      have E := Lib.hid e0
      obtain ⟨hx, hy⟩ : inB x 0 9 = true ∧ inB y 0 9 = true := by simpa using hr
      obtain ⟨l0, u0⟩ := inB_true hx
      obtain ⟨l1, u1⟩ := inB_true hy
      obtain ⟨m0, m9⟩ := mul_digits l0 u0 l1 u1
      clear e0 hr hx hy
      go_wp2_with fail
      refine (implRodCell_any _ _ _).mono ?_
      rintro e w' ⟨rfl, rfl⟩
      rw [E.out]
      unfold tri
      go_wp2_with fail
      refine (specRodCell_any _ _ _).mono ?_
      rintro e w' ⟨rfl, rfl⟩
      rw [E.out]
      unfold tri
      go_wp2_with fail
      refine (implRodCell_any _ _ _).mono ?_
      rintro e w' ⟨rfl, rfl⟩
      rw [rodCell_comm, E.out]
      unfold tri
      have q1 : 10 * (x * y / 10) + x * y % 10 = x * y := by omega
      have q2 : ((10 * (x * y / 10) + x * y % 10) == x * y) = true := by simp [q1]
      clear q1
      go_wp2_with fail
      go_ret
      exact ⟨rfl, B1.out⟩

theorem fnStripStep_walk (a : Option Addr) (cap : Nat) (zs : List Int) (w : World) (h : InRow .u8 w a cap zs) :
    Calls Try.prog 7 #[.slice a zs.length cap] w fun e w' => e = .returned (.bool true) ∧ Below w.heap.size w w' := by
  have hfit := h.fits
  have hlim := h.lim
  unfold maxLen at hlim
  have H := Lib.hid h
  clear h
  by_cases hl : 1048576 < zs.length
  · go_enter Try.func7, Try.ntmps7
    go_wp2_with fail
    go_ret
    exact ⟨rfl, Below.refl _ _⟩
  · go_enter Try.func7, Try.ntmps7
    go_wp2_with fail
    refine (drawStripStep_any _ _ _ _ H.out).mono ?_
    rintro e w1 ⟨x, y, z, rfl, x0, x1, y0, y1, z0, z1, b1⟩
    have B1 := Lib.hid b1
    clear b1
    cases hr : inB x 0 9 && inB y 0 9 && inB z 0 9
    · have e0 : stripStep x y z = (0, 0, false) := by unfold stripStep; rw [hr]; rfl
      have E := Lib.hid e0
      clear e0 hr
      go_wp2_with fail
      refine (implStripStep_any _ _ _ _).mono ?_
      rintro e w' ⟨rfl, rfl⟩
      rw [E.out]
      unfold tri
      go_wp2_with fail
      refine (specStripStep_any _ _ _ _).mono ?_
      rintro e w' ⟨rfl, rfl⟩
      rw [E.out]
      unfold tri
      go_wp2_with fail
      go_ret
      exact ⟨rfl, B1.out⟩
    · have e0 : stripStep x y z = ((x * y + z) % 10, (x * y + z) / 10, true) := by unfold stripStep; rw [hr]; rfl
      have E := Lib.hid e0
      obtain ⟨⟨hx, hy⟩, hz⟩ : (inB x 0 9 = true ∧ inB y 0 9 = true) ∧ inB z 0 9 = true := by simpa using hr
      obtain ⟨l0, u0⟩ := inB_true hx
      obtain ⟨l1, u1⟩ := inB_true hy
      obtain ⟨l2, u2⟩ := inB_true hz
      obtain ⟨m0, m9⟩ := mul_digits l0 u0 l1 u1
      clear e0 hr hx hy hz
      go_wp2_with fail
      refine (implStripStep_any _ _ _ _).mono ?_
      rintro e w' ⟨rfl, rfl⟩
      rw [E.out]
      unfold tri
      go_wp2_with fail
      refine (specStripStep_any _ _ _ _).mono ?_
      rintro e w' ⟨rfl, rfl⟩
      rw [E.out]
      unfold tri
      have q1 : 10 * ((x * y + z) / 10) + (x * y + z) % 10 = x * y + z := by omega
      have q2 : ((10 * ((x * y + z) / 10) + (x * y + z) % 10) == x * y + z) = true := by simp [q1]
      have q3 : decide ((x * y + z) / 10 ≤ 9) = true := decide_eq_true (by omega)
      clear q1
      go_wp2_with fail
      go_ret
      exact ⟨rfl, B1.out⟩
end Go.Proofs.Ytlmhjihongijpaa
