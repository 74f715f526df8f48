
/-
  Contracts of the two functions that write the numeral of a value. No condition.
-/
import Derived.Test.YtdnknkbcbnoobaaDig
import Derived.Test.YtdnknkbcbnoobaaNumOfP
import Derived.Test.YtdnknkbcbnoobaaOwn
import Derived.Test.YtdnknkbcbnoobaaCommon
namespace Go.Proofs.Ytdnknkbcbnoobaa
open Go.RowKit

theorem numOf_no {v : Int} (h : inB v 0 999999 = false) : numOf v = ([], false) := by unfold numOf; rw [h]; rfl
theorem numOf_yes {n : Nat} (h : n ≤ 999999) : numOf (n : Int) = (decs (dsize n) n, true) := by
  have : inB (n : Int) 0 999999 = true := inB_mk (by omega) (by omega)
  unfold numOf
  rw [this]
  rfl

theorem freshOk_nil (w : World) (b : Bool) : FreshOk w [] b (.returned (.tuple #[.slice none 0 0, .bool b])) w := ⟨none, 0, rfl, Own.nil_ w _, Below.refl _ _⟩
/-- An empty list that is not nil. -/
theorem own_empty (W : World) (lo : Nat) (h : lo ≤ W.heap.size) : Own (W.alloc (.cells #[] 3)) lo (W.heap.size + 1) (.slice (some ⟨W.heap.size, 0, none⟩) 0 0) [] := by
  have h1 : (W.alloc (.cells #[] 3)).ownsRow lo 3 1 (.slice (some ⟨W.heap.size, 0, none⟩) 0 0) 0 [] := World.ownsRow_lit W #[] 0 h (by unfold maxLen; omega) rfl
  have := Own.of (zs := []) h1
  simpa using this

/-- How far the digits are written: t digits of m are still to come in front of out. -/
def Wrote (n t m : Nat) (out : List Int) : Prop := decs (dsize n) n = decs t m ++ out ∧ m ≤ 999999 ∧ (out = [] ∧ t = dsize n ∧ m = n ∨ 0 < out.length ∧ t = dcount m)
theorem Wrote.start {n : Nat} (h : n ≤ 999999) : Wrote n (dsize n) n [] := ⟨by simp, h, .inl ⟨rfl, rfl, rfl⟩⟩
theorem Wrote.next {n t m : Nat} {out : List Int} (h : Wrote n t m out) (hc : 0 < m ∨ out.length = 0) : Wrote n (dcount (m / 10)) (m / 10) (((m % 10 : Nat) : Int) :: out) := by
  obtain ⟨h1, h2, h3⟩ := h
  have ht : t = dcount (m / 10) + 1 := by
    rcases h3 with ⟨_, rfl, rfl⟩ | ⟨h4, rfl⟩
    · unfold dsize; omega
    · exact dcount_pos (by omega)
  refine ⟨?_, by omega, .inr ⟨by simp, rfl⟩⟩
  rw [h1, ht, decs, List.append_assoc]
  rfl
theorem Wrote.done {n t m : Nat} {out : List Int} (h : Wrote n t m out) (h0 : m = 0) (h1 : 0 < out.length) : decs (dsize n) n = out := by
  obtain ⟨e, _, h3⟩ := h
  rcases h3 with ⟨rfl, _⟩ | ⟨_, rfl⟩
  · simp at h1
  · rw [e, h0, dcount_zero]; rfl
theorem Wrote.len {n t m : Nat} {out : List Int} (h : Wrote n t m out) (hn : n ≤ 999999) : out.length ≤ 6 := by
  have := congrArg List.length h.1
  rw [List.length_append, decs_len, decs_len] at this
  have := dsize_le hn
  omega
theorem Wrote.le {n t m : Nat} {out : List Int} (h : Wrote n t m out) : m ≤ 999999 := h.2.1

end Go.Proofs.Ytdnknkbcbnoobaa
