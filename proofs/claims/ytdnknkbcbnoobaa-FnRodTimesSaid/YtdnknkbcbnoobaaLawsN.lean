
/-
  The walks of the laws over drawn numerals: a numeral has its value; places are worth ten times as much; strips need no sums: each returns true for every code.
-/
import Derived.Test.YtdnknkbcbnoobaaDrawN
import Derived.Test.YtdnknkbcbnoobaaNum2
import Derived.Test.YtdnknkbcbnoobaaNumOf
import Derived.Test.YtdnknkbcbnoobaaStrip
import Derived.Test.YtdnknkbcbnoobaaRod
import Derived.Test.YtdnknkbcbnoobaaNumL
import Derived.Deep.RegionHeld3
import Derived.Deep.RegionWith
import Derived.IntWalk
namespace Go.Proofs.Ytdnknkbcbnoobaa
open Go.RowKit

theorem below_rd' {w w1 w2 : World} (hb : Below w.heap.size w w1) (hg : w1.grownBy w2 (some w.heap.size)) : Below w.heap.size w w2 :=
  hb.grown hg hb.size (fun k hk => by injection hk with hk; omega)

/-- A number drawn from a code. -/
def OneDrawn (w : World) (lo hi : Int) (e : Ending) (w' : World) : Prop := ∃ x : Int, e = .returned (.int .i64 x) ∧ lo ≤ x ∧ x ≤ hi ∧ Below w.heap.size w w'

theorem Own.cap_le {w : World} {lo hi : Nat} {a : Option Addr} {n c : Nat} {zs : List Int} (h : Own w lo hi (.slice a n c) zs) : zs.length ≤ c ∧ c ≤ maxLen := by
  rcases h.owns.2 with ⟨e, h0⟩ | ⟨g, cap, cur, e, _, _, h3, h4, _⟩
  · injection e with _ _ e3
    subst e3
    exact ⟨by omega, by unfold maxLen; omega⟩
  · injection e with _ _ e3
    subst e3
    exact ⟨h3, h4⟩
/-- A list drawn from a code. -/
def ListDrawn (w : World) (lo hi : Int) (m : Nat) (e : Ending) (w' : World) : Prop :=
  ∃ a cap zs, e = .returned (.slice a zs.length cap) ∧ Within lo hi zs ∧ zs.length ≤ m ∧ Own w' w.heap.size w'.heap.size (.slice a zs.length cap) zs ∧ Below w.heap.size w w'
/-- A list and a number. -/
def ListIntDrawn (w : World) (lo hi : Int) (m : Nat) (e : Ending) (w' : World) : Prop :=
  ∃ a cap zs, ∃ x : Int, e = .returned (.tuple #[.slice a zs.length cap, .int .i64 x]) ∧ Within lo hi zs ∧ zs.length ≤ m ∧ -1 ≤ x ∧ x ≤ 10 ∧ Own w' w.heap.size w'.heap.size (.slice a zs.length cap) zs ∧ Below w.heap.size w w'

theorem drawRodTimes_any (w : World) (a : Option Addr) (cap : Nat) (zs : List Int) (h : InRow .u8 w a cap zs) :
    Calls Try.prog 24 #[.slice a zs.length cap] w (ListIntDrawn w (-1) 10 7) := by
  have H := Lib.hid h
  clear h
  go_enter Try.func24, Try.ntmps24
  go_wp2_with fail
  refine (l6Open_any _ _ _ _ H.out).mono ?_
  rintro e w1 ⟨rfl, r1, b1⟩
  have R1 := Lib.hid r1
  have B1 := Lib.hid b1
  have s1 := r1.lt
  clear r1 b1
  go_wp2_with fail
  refine (l91Numeral_any _ _ _ 6 R1.out (by omega) (by omega) (by omega)).mono ?_
  rintro e w2 ⟨a2, c2, ys, rfl, hwi, hlen, o2, r2, g2⟩
  have B2 := Lib.hid (below_rd' B1.out g2)
  have O2 := Lib.hid o2
  have R2 := Lib.hid r2
  have HW := Lib.hid hwi
  clear o2 r2 g2 hwi
  go_wp2_with fail
  refine (l91Digit_any _ _ _ R2.out (by omega)).mono ?_
  rintro e w3 ⟨x, rfl, x0, x1, r3, g3⟩
  have B3 := Lib.hid (below_rd' B2.out g3)
  have O3 := Lib.hid ((O2.out.rd g3 s1).mono B1.out.size O2.out.lim (Nat.le_trans O2.out.lim g3.size))
  have O4 := Lib.hid (O3.out.mono (Nat.le_refl _) O3.out.lim (Nat.le_refl _))
  clear r3 g3
  go_wp2_with fail
  go_ret2
  exact ⟨a2, c2, ys, x, rfl, HW.out, hlen, x0, x1, O4.out, B3.out⟩
theorem valueOf_any (w : World) (a : Option Addr) (cap : Nat) (zs : List Int) (h : Row .i64 w a zs) (hl : zs.length ≤ 12) (hd : digs zs = true) :
    Calls Try.prog 28 #[.slice a zs.length cap] w fun e w' => e = .returned (.int .i64 (val zs)) ∧ w = w' := by
  have H := Lib.hid h
  have HD := Lib.hid hd
  clear h hd
  go_enter Try.func28, Try.ntmps28
  go_wp2_with fail
  go_loop [3, 4] (fun v i => ∃ k : Nat, k ≤ zs.length ∧ i = .int .i64 k ∧ v = .int .i64 (val (zs.take k))) (fun _ i => zs.length - (intOf i).toNat)
  case atStart => exact ⟨0, Nat.zero_le _, rfl, rfl⟩
  case round =>
    obtain ⟨k, hk, rfl, rfl⟩ := hrel
    have hv := val_take_bd12 HD.out hl k
    by_cases hlt : k < zs.length
    · have hn := digs_nth HD.out hlt
      obtain ⟨b, off, rfl, _, hc⟩ := H.out.at_ hlt
      have e := Lib.hid (val_take_succ (zs := zs) (k := k) hlt)
      go_wp2_with fail
      go_round
      case rel => exact ⟨k + 1, by omega, by go_num, by rw [e.out]⟩
      case measure => simp [intOf]; omega
    · have e := Lib.hid (show val (zs.take k) = val zs by rw [List.take_of_length_le (by omega)])
      go_wp2_with fail
      go_ret
      exact ⟨by rw [← e.out]; rfl, rfl⟩

end Go.Proofs.Ytdnknkbcbnoobaa
