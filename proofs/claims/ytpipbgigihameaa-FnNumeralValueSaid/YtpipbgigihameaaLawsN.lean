
/-
  The walks of the laws over drawn numerals: a numeral has its value; places are worth ten times as much; strips need no sums: each returns true for every code.
-/
import Derived.Test.YtpipbgigihameaaDrawN
import Derived.Test.YtpipbgigihameaaNum2
import Derived.Test.YtpipbgigihameaaNumOf
import Derived.Test.YtpipbgigihameaaStrip
import Derived.Test.YtpipbgigihameaaRod
import Derived.Test.YtpipbgigihameaaNumL
import Derived.Deep.RegionHeld3
import Derived.Deep.RegionWith
import Derived.IntWalk
namespace Go.Proofs.Ytpipbgigihameaa
open Go.RowKit

theorem below_rd' {w w1 w2 : World} (hb : Below w.heap.size w w1) (hg : w1.grownBy w2 (some w.heap.size)) : Below w.heap.size w w2 :=
  hb.grown hg hb.size (fun k hk => by injection hk with hk; omega)

/-- A number drawn from a code. -/
def OneDrawn (w : World) (lo hi : Int) (e : Ending) (w' : World) : Prop := ∃ x : Int, e = .returned (.int .i64 x) ∧ lo ≤ x ∧ x ≤ hi ∧ Below w.heap.size w w'

theorem drawNumeralOf_any (w : World) (a : Option Addr) (cap : Nat) (zs : List Int) (h : InRow .u8 w a cap zs) :
    Calls Try.prog 23 #[.slice a zs.length cap] w (OneDrawn w (-1) 1000000) := by
  have H := Lib.hid h
  clear h
  go_enter Try.func23, Try.ntmps23
  go_wp2_with fail
  refine (l6Open_any _ _ _ _ H.out).mono ?_
  rintro e w1 ⟨rfl, r1, b1⟩
  have R1 := Lib.hid r1
  have B1 := Lib.hid b1
  have s1 := r1.lt
  clear r1 b1
  go_wp2_with fail
  refine (pick_ok _ _ _ _ R1.out (by omega) (by omega)).mono ?_
  rintro e w2 ⟨x, rfl, x0, x1, r2, g2⟩
  have s2 := g2.size
  have R2 := Lib.hid r2
  have B2 := Lib.hid (below_rd' B1.out g2)
  clear r2 g2
  by_cases hx : x = 0
  · subst hx
    go_wp2_with fail
    refine (pick_ok _ _ _ _ (R2.out.alloc _) (by omega) (by omega)).mono ?_
    rintro e w3 ⟨y, rfl, y0, y1, r3, g3⟩
    have e0 := g3.cell (a := ⟨w2.heap.size, 0, none⟩) (v := .int .i64 (-1)) ((cell_new _ _ _ _).trans rfl) (by simp; omega)
    have e1 := g3.cell (a := ⟨w2.heap.size, 1, none⟩) (v := .int .i64 0) ((cell_new _ _ _ _).trans rfl) (by simp; omega)
    have e2 := g3.cell (a := ⟨w2.heap.size, 2, none⟩) (v := .int .i64 999999) ((cell_new _ _ _ _).trans rfl) (by simp; omega)
    have e3 := g3.cell (a := ⟨w2.heap.size, 3, none⟩) (v := .int .i64 1000000) ((cell_new _ _ _ _).trans rfl) (by simp; omega)
    have B3 := Lib.hid (below_rd' (B2.out.alloc B2.out.size _) g3)
    clear r3 g3
    obtain rfl | rfl | rfl | rfl : y = 0 ∨ y = 1 ∨ y = 2 ∨ y = 3 := by omega
    all_goals
      go_wp2_with fail
      go_ret
      exact ⟨_, rfl, by omega, by omega, B3.out⟩
  · have hx' : (x == 0) = false := beq_eq_false_iff_ne.2 hx
    go_wp2_with fail
    refine (pick_ok _ _ _ _ R2.out (by omega) (by omega)).mono ?_
    rintro e w3 ⟨y, rfl, y0, y1, r3, g3⟩
    have R3 := Lib.hid r3
    have B3 := Lib.hid (below_rd' B2.out g3)
    clear r3 g3
    go_wp2_with fail
    refine (pick_ok _ _ _ _ R3.out (by omega) (by omega)).mono ?_
    rintro e w4 ⟨z, rfl, z0, z1, r4, g4⟩
    have B4 := Lib.hid (below_rd' B3.out g4)
    have m0 : 0 ≤ y * (1 + z) := Int.mul_nonneg y0 (by omega)
    have m1 : y * (1 + z) ≤ 1000000 := by
      have h1 : y * (1 + z) ≤ 1000 * (1 + z) := Int.mul_le_mul_of_nonneg_right (by omega) (by omega)
      omega
    clear r4 g4
    go_wp2_with fail
    go_ret
    exact ⟨_, rfl, by omega, by omega, B4.out⟩

theorem Own.cap_le {w : World} {lo hi : Nat} {a : Option Addr} {n c : Nat} {zs : List Int} (h : Own w lo hi (.slice a n c) zs) : zs.length ≤ c ∧ c ≤ maxLen := by
  rcases h.owns.2 with ⟨e, h0⟩ | ⟨g, cap, cur, e, _, _, h3, h4, _⟩
  · injection e with _ _ e3
    subst e3
    exact ⟨by omega, by unfold maxLen; omega⟩
  · injection e with _ _ e3
    subst e3
    exact ⟨h3, h4⟩
/-- A list drawn from a code. -/
def ListDrawn (w : World) (lo hi : Int) (m : Nat) (e : Ending) (w' : World) : Prop :=
  ∃ a cap zs, e = .returned (.slice a zs.length cap) ∧ Within lo hi zs ∧ zs.length ≤ m ∧ Own w' w.heap.size w'.heap.size (.slice a zs.length cap) zs ∧ Below w.heap.size w w'
/-- A list and a number. -/
def ListIntDrawn (w : World) (lo hi : Int) (m : Nat) (e : Ending) (w' : World) : Prop :=
  ∃ a cap zs, ∃ x : Int, e = .returned (.tuple #[.slice a zs.length cap, .int .i64 x]) ∧ Within lo hi zs ∧ zs.length ≤ m ∧ -1 ≤ x ∧ x ≤ 10 ∧ Own w' w.heap.size w'.heap.size (.slice a zs.length cap) zs ∧ Below w.heap.size w w'

theorem drawNumeralValue_any (w : World) (a : Option Addr) (cap : Nat) (zs : List Int) (h : InRow .u8 w a cap zs) :
    Calls Try.prog 27 #[.slice a zs.length cap] w (ListDrawn w (-1) 10 7) := by
  have H := Lib.hid h
  clear h
  go_enter Try.func27, Try.ntmps27
  go_wp2_with fail
  refine (l6Open_any _ _ _ _ H.out).mono ?_
  rintro e w1 ⟨rfl, r1, b1⟩
  have R1 := Lib.hid r1
  have B1 := Lib.hid b1
  clear r1 b1
  go_wp2_with fail
  refine (l91Numeral_any _ _ _ 6 R1.out (by omega) (by omega) (by omega)).mono ?_
  rintro e w2 ⟨a2, c2, ys, rfl, hwi, hlen, o2, r2, g2⟩
  have B2 := Lib.hid (below_rd' B1.out g2)
  have O2 := Lib.hid (o2.mono B1.out.size (Nat.le_refl _) (Nat.le_refl _))
  have HW := Lib.hid hwi
  clear o2 r2 g2 hwi
  go_wp2_with fail
  go_ret
  exact ⟨a2, c2, ys, rfl, HW.out, hlen, O2.out, B2.out⟩
theorem drawRodTimes_any (w : World) (a : Option Addr) (cap : Nat) (zs : List Int) (h : InRow .u8 w a cap zs) :
    Calls Try.prog 43 #[.slice a zs.length cap] w (ListIntDrawn w (-1) 10 7) := by
  have H := Lib.hid h
  clear h
  go_enter Try.func43, Try.ntmps43
  go_wp2_with fail
  refine (l6Open_any _ _ _ _ H.out).mono ?_
  rintro e w1 ⟨rfl, r1, b1⟩
  have R1 := Lib.hid r1
  have B1 := Lib.hid b1
  have s1 := r1.lt
  clear r1 b1
  go_wp2_with fail
  refine (l91Numeral_any _ _ _ 6 R1.out (by omega) (by omega) (by omega)).mono ?_
  rintro e w2 ⟨a2, c2, ys, rfl, hwi, hlen, o2, r2, g2⟩
  have B2 := Lib.hid (below_rd' B1.out g2)
  have O2 := Lib.hid o2
  have R2 := Lib.hid r2
  have HW := Lib.hid hwi
  clear o2 r2 g2 hwi
  go_wp2_with fail
  refine (l91Digit_any _ _ _ R2.out (by omega)).mono ?_
  rintro e w3 ⟨x, rfl, x0, x1, r3, g3⟩
  have B3 := Lib.hid (below_rd' B2.out g3)
  have O3 := Lib.hid ((O2.out.rd g3 s1).mono B1.out.size O2.out.lim (Nat.le_trans O2.out.lim g3.size))
  have O4 := Lib.hid (O3.out.mono (Nat.le_refl _) O3.out.lim (Nat.le_refl _))
  clear r3 g3
  go_wp2_with fail
  go_ret2
  exact ⟨a2, c2, ys, x, rfl, HW.out, hlen, x0, x1, O4.out, B3.out⟩
theorem drawStripTimes_any (w : World) (a : Option Addr) (cap : Nat) (zs : List Int) (h : InRow .u8 w a cap zs) :
    Calls Try.prog 29 #[.slice a zs.length cap] w (ListIntDrawn w (-1) 10 7) := by
  have H := Lib.hid h
  clear h
  go_enter Try.func29, Try.ntmps29
  go_wp2_with fail
  refine (drawRodTimes_any _ _ _ _ H.out).mono ?_
  rintro e w1 ⟨a1, c1, ys, x, rfl, hw, hl, x0, x1, o1, b1⟩
  have O1 := Lib.hid o1
  have B1 := Lib.hid b1
  have HW := Lib.hid hw
  clear o1 b1 hw
  go_wp2_with fail
  go_ret2
  exact ⟨a1, c1, ys, x, rfl, HW.out, hl, x0, x1, O1.out, B1.out⟩

theorem valueOf_any (w : World) (a : Option Addr) (cap : Nat) (zs : List Int) (h : Row .i64 w a zs) (hl : zs.length ≤ 12) (hd : digs zs = true) :
    Calls Try.prog 28 #[.slice a zs.length cap] w fun e w' => e = .returned (.int .i64 (val zs)) ∧ w = w' := by
  have H := Lib.hid h
  have HD := Lib.hid hd
  clear h hd
  go_enter Try.func28, Try.ntmps28
  go_wp2_with fail
  go_loop [3, 4] (fun v i => ∃ k : Nat, k ≤ zs.length ∧ i = .int .i64 k ∧ v = .int .i64 (val (zs.take k))) (fun _ i => zs.length - (intOf i).toNat)
  case atStart => exact ⟨0, Nat.zero_le _, rfl, rfl⟩
  case round =>
    obtain ⟨k, hk, rfl, rfl⟩ := hrel
    have hv := val_take_bd12 HD.out hl k
    by_cases hlt : k < zs.length
    · have hn := digs_nth HD.out hlt
      obtain ⟨b, off, rfl, _, hc⟩ := H.out.at_ hlt
      have e := Lib.hid (val_take_succ (zs := zs) (k := k) hlt)
      go_wp2_with fail
      go_round
      case rel => exact ⟨k + 1, by omega, by go_num, by rw [e.out]⟩
      case measure => simp [intOf]; omega
    · have e := Lib.hid (show val (zs.take k) = val zs by rw [List.take_of_length_le (by omega)])
      go_wp2_with fail
      go_ret
      exact ⟨by rw [← e.out]; rfl, rfl⟩

end Go.Proofs.Ytpipbgigihameaa
