
/-
  Plain texts of boards: the decimals of their numbers with bars between. No program text is walked here.
-/
import Derived.Test.YtapcnpkaphdlkaaDoorDec
import Derived.Lib.Join
namespace Go.Proofs.YtapcnpkaphdlkaaDoor
open Go.RowKit

/-- A number's decimals. -/
def dec (d : Int) : List UInt8 := Lib.decDigits d.toNat
theorem join_two (x y : List UInt8) (r : List (List UInt8)) (sep : List UInt8) : Lib.join (x :: y :: r) sep = x ++ (sep ++ Lib.join (y :: r) sep) := by
  rw [Lib.join_cons, Lib.join_cons]
  simp [Lib.joinTail]
theorem join_snoc : ∀ (a : List (List UInt8)) (b sep : List UInt8), Lib.join (a ++ [b]) sep = (a.map (· ++ sep)).flatten ++ b
  | [], b, sep => by simp [Lib.join_one]
  | [x], b, sep => by
    show Lib.join (x :: b :: []) sep = _
    rw [join_two, Lib.join_one]
    simp
  | x :: y :: r, b, sep => by
    have ih := join_snoc (y :: r) b sep
    show Lib.join (x :: y :: (r ++ [b])) sep = _
    rw [join_two]
    have e : y :: (r ++ [b]) = (y :: r) ++ [b] := rfl
    rw [e, ih]
    simp
/-- The first texts of a list with separators behind; none behind the n-th. -/
def pre (f : Nat → List UInt8) (sep : List UInt8) (n : Nat) : Nat → List UInt8
  | 0 => []
  | k + 1 => pre f sep n k ++ f k ++ (if k + 1 < n then sep else [])
theorem pre_flat (f : Nat → List UInt8) (sep : List UInt8) (n : Nat) : ∀ k, k < n → pre f sep n k = (((List.range k).map f).map (· ++ sep)).flatten
  | 0, _ => rfl
  | k + 1, h => by
    rw [pre, pre_flat f sep n k (by omega), if_pos h, List.range_succ]
    simp
theorem pre_all (f : Nat → List UInt8) (sep : List UInt8) (n : Nat) (hn : 1 ≤ n) : pre f sep n n = Lib.join ((List.range n).map f) sep := by
  obtain ⟨m, rfl⟩ : ∃ m, n = m + 1 := ⟨n - 1, by omega⟩
  rw [pre, if_neg (by omega), pre_flat f sep (m + 1) m (by omega), List.range_succ, List.map_append, List.append_nil]
  exact (join_snoc _ _ _).symm
theorem pre_len {f : Nat → List UInt8} {sep : List UInt8} {n m : Nat} (h : ∀ k, (f k).length + sep.length ≤ m) : ∀ k, (pre f sep n k).length ≤ k * m
  | 0 => by simp [pre]
  | k + 1 => by
    have h1 := pre_len (f := f) (sep := sep) (n := n) h k
    have h2 := h k
    rw [pre, List.length_append, List.length_append, Nat.add_mul, Nat.one_mul]
    split
    · omega
    · simp; omega
end Go.Proofs.YtapcnpkaphdlkaaDoor
