
/-
  The rows of a duplation as a function that is ranged over: it hands on each row, with its index. No condition.
-/
import Derived.RangeFuncNested
import Derived.RangeFuncBound
import Derived.RangeFuncCalls
import Derived.RangeFuncLeaves
import Derived.RangeFuncBox
import Derived.Shelf.Abstract
import Derived.Shelf.RegionOpen
import Derived.OwnWalkIn
import Derived.TacticsInMore
import Derived.LoopNIn
import Derived.LoopIn
import Derived.Maps.OwnIn
import Derived.Test.YtlnfajpjkhhplaaDupR
namespace Go.Proofs.Ytlnfajpjkhhplaa
open Go.RowKit Go.Shelf
attribute [local go_sem] Oper.semAt_some

/-- A row and its index. -/
abbrev R3 := { x : Nat × Nat × Nat // x.1 ≤ 40 ∧ x.2.1 ≤ 100000 ∧ x.2.2 ≤ 20000000000 }
def row3 (n m i : Nat) : R3 := ⟨(min i 40, min (n / 2 ^ i) 100000, min (m * 2 ^ i) 20000000000), by simp only; omega⟩
theorem row3_eq {n m i : Nat} (hn : n ≤ 100000) (hm : m ≤ 100000) (hi : i ≤ 17) : (row3 n m i).1 = (i, n / 2 ^ i, m * 2 ^ i) := by
  have h1 : n / 2 ^ i ≤ n := Nat.div_le_self _ _
  have h2 := right_bd hm hi
  simp only [row3, Prod.mk.injEq]
  omega
def rows3 (n m k : Nat) : List R3 := (List.range k).map (row3 n m)
theorem rows3_len (n m k : Nat) : (rows3 n m k).length = k := by simp [rows3]
theorem rows3_succ (n m k : Nat) : rows3 n m (k + 1) = rows3 n m k ++ [row3 n m k] := by simp [rows3, List.range_succ]
/-- All rows; none where a factor is not in its range. -/
def rowsOf (a b : Int) : List R3 := if isFac a && isFac b then rows3 a.toNat b.toNat (bl a.toNat) else []
theorem rowsOf_no {a b : Int} (h : (isFac a && isFac b) = false) : rowsOf a b = [] := by simp only [rowsOf, h]; rfl
theorem rowsOf_yes {n m : Nat} (n1 : 1 ≤ n) (n2 : n ≤ 100000) (m1 : 1 ≤ m) (m2 : m ≤ 100000) : rowsOf (n : Int) (m : Int) = rows3 n m (bl n) := by
  simp [rowsOf, fac_nat n1 n2, fac_nat m1 m2]

/-- Each variable that holds a row lies as it lay. -/
def KR (W W' : World) : Prop := ∀ (b : Nat) (cs : Array Value) (z : Nat × Nat), W.heap[b]? = some (.cells cs 44 z) → W'.heap[b]? = some (.cells cs 44 z)
theorem KR.refl (W : World) : KR W W := fun _ _ _ h => h
theorem KR.trans {A B C : World} (h : KR A B) (k : KR B C) : KR A C := fun b cs z hb => k b cs z (h b cs z hb)
theorem KR.alloc (W : World) (o : Obj) : KR W (W.alloc o) := fun b _ _ h => (Below.heap_alloc W o b (Array.getElem?_eq_some_iff.1 h).1).trans h
theorem KR.put (W : World) (l : Nat) (o o' : Obj) (h : W.heap[l]? = some o) (hc : o.isCells = false) : KR W (W.putObj l o') := fun b cs z hb => by
  have hne : b ≠ l := by
    rintro rfl
    rw [h] at hb
    cases hb
    cases hc
  exact ((grownBy_putObj' W l o').block b (Array.getElem?_eq_some_iff.1 hb).1 (fun e => hne (by injection e))).trans hb
theorem KR.grown {W W' : World} {row : Option Nat} (hg : W.grownBy W' row) (h : ∀ r, row = some r → ∀ cs z, W.heap[r]? ≠ some (.cells cs 44 z)) : KR W W' := fun b cs z hb => by
  refine (hg.block b (Array.getElem?_eq_some_iff.1 hb).1 (fun e => ?_)).trans hb
  exact h b e.symm cs z hb
end Go.Proofs.Ytlnfajpjkhhplaa
