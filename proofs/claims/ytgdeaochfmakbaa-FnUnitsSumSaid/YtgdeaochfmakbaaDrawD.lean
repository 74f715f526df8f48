
/-
  Contracts of the draws of two factors. No condition but that fewer than some hundred thousand picks came before.
-/
import Derived.Test.YtgdeaochfmakbaaDraw
import Derived.Deep.RegionWith
import Derived.Deep.RegionHeld3
import Derived.IntWalk
namespace Go.Proofs.Ytgdeaochfmakbaa
open Go.RowKit

/-- Two numbers drawn. -/
def DrewTwo (w : World) (g q : Nat) (e : Ending) (w' : World) : Prop := ∃ x y : Int, e = .returned (.tuple #[.int .i64 x, .int .i64 y]) ∧ -1 ≤ x ∧ x ≤ 100001 ∧ -1 ≤ y ∧ y ≤ 100001 ∧ RdOk w' g q ∧ w.grownBy w' (some g)

theorem RdOk.drew {w : World} {g q : Nat} (h : RdOk w g q) : RdOk w.drew g q := h.drewN 1
theorem grown_drewW {a w : World} {row : Option Nat} (h : a.grownBy w row) : a.grownBy w.drew row := ⟨h.os, h.tape, h.output, h.size, h.block⟩
/-- The four numbers that are seldom drawn. -/
def odd4 : List Int := [0, -1, 100001, 100000]
theorem odd4_bd {y : Nat} (h : y < 4) : -1 ≤ nth odd4 y ∧ nth odd4 y ≤ 100001 := by
  match y, h with
  | 0, _ => decide
  | 1, _ => decide
  | 2, _ => decide
  | 3, _ => decide
theorem odd4_at {y : Nat} (h : y < 4) : (#[Value.int .i64 0, .int .i64 (-1), .int .i64 100001, .int .i64 100000] : Array Value)[y]? = some (.int .i64 (nth odd4 y)) := by
  match y, h with
  | 0, _ => rfl
  | 1, _ => rfl
  | 2, _ => rfl
  | 3, _ => rfl
theorem odd4_cell (W : World) {y : Nat} (h : y < 4) : (W.alloc (.cells #[.int .i64 0, .int .i64 (-1), .int .i64 100001, .int .i64 100000] 3)).cell? ⟨W.heap.size, y, none⟩ = some (.int .i64 (nth odd4 y)) := (cell_new W _ _ y).trans (odd4_at h)
theorem cell_over {W W' : World} {g b y : Nat} {v : Value} (hg : W.grownBy W' (some g)) (hc : W.cell? ⟨b, y, none⟩ = some v) (hb : b ≠ g) : W'.cell? ⟨b, y, none⟩ = some v :=
  hg.cell (a := ⟨b, y, none⟩) hc (fun e => hb (by simpa using e))

/-- Two factors drawn from a code. -/
def FacsDrawn (w : World) (e : Ending) (w' : World) : Prop := ∃ x y : Int, e = .returned (.tuple #[.int .i64 x, .int .i64 y]) ∧ -1 ≤ x ∧ x ≤ 100001 ∧ -1 ≤ y ∧ y ≤ 100001 ∧ Below w.heap.size w w'
theorem below_rdD {w w1 w2 : World} (hb : Below w.heap.size w w1) (hg : w1.grownBy w2 (some w.heap.size)) : Below w.heap.size w w2 :=
  hb.grown hg hb.size (fun k hk => by injection hk with hk; omega)
end Go.Proofs.Ytgdeaochfmakbaa
