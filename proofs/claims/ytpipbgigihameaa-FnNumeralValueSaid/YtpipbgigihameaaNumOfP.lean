
/-
  Plain arithmetic of the digits of a number. No program text is walked here.
-/
import Derived.Test.YtpipbgigihameaaNumP
namespace Go.Proofs.Ytpipbgigihameaa
open Go.RowKit

/-- The last k digits of v, the greatest place first. -/
def decs : Nat → Nat → List Int
  | 0, _ => []
  | k + 1, v => decs k (v / 10) ++ [((v % 10 : Nat) : Int)]
/-- How many digits a number has, none for 0. -/
def dcount (v : Nat) : Nat := if v = 0 then 0 else dcount (v / 10) + 1
decreasing_by omega
def dsize (v : Nat) : Nat := 1 + dcount (v / 10)
/-- The numeral of a value. -/
def numOf (v : Int) : List Int × Bool := if inB v 0 999999 then (decs (dsize v.toNat) v.toNat, true) else ([], false)

theorem decs_len (k v : Nat) : (decs k v).length = k := by
  induction k generalizing v with
  | zero => rfl
  | succ k ih => simp [decs, ih]
theorem dcount_zero : dcount 0 = 0 := by rw [dcount]; rfl
theorem dcount_pos {v : Nat} (h : 0 < v) : dcount v = dcount (v / 10) + 1 := by rw [dcount, if_neg (by omega)]
theorem dcount_le : ∀ (k v : Nat), v < 10 ^ k → dcount v ≤ k := by
  intro k
  induction k with
  | zero => intro v h; have : v = 0 := by simpa using h
            subst this; rw [dcount_zero]; exact Nat.le_refl _
  | succ k ih =>
    intro v h
    by_cases h0 : v = 0
    · subst h0; rw [dcount_zero]; omega
    · rw [dcount_pos (by omega)]
      have := ih (v / 10) (by rw [Nat.pow_succ] at h; omega)
      omega
theorem dsize_le {v : Nat} (h : v ≤ 999999) : dsize v ≤ 6 := by
  have := dcount_le 5 (v / 10) (by omega)
  unfold dsize
  omega
theorem dsize_ge (v : Nat) : 1 ≤ dsize v := by unfold dsize; omega
theorem numOf_bd (v : Int) : (numOf v).1.length ≤ 1048576 := by
  unfold numOf
  cases h : inB v 0 999999
  · simp
  · obtain ⟨h0, h1⟩ := inB_true h
    have := dsize_le (v := v.toNat) (by omega)
    simp [decs_len]
    omega
theorem decs_digs (k v : Nat) : digs (decs k v) = true := by
  induction k generalizing v with
  | zero => rfl
  | succ k ih =>
    have h := ih (v / 10)
    refine digs_of fun d hd => ?_
    rw [decs] at hd
    rcases List.mem_append.1 hd with hd | hd
    · exact digs_mem h d hd
    · have : d = ((v % 10 : Nat) : Int) := by simpa using hd
      omega
theorem decs_val (k v : Nat) : v < 10 ^ k → val (decs k v) = v := by
  induction k generalizing v with
  | zero => intro h; have : v = 0 := by simpa using h
            subst this; rfl
  | succ k ih =>
    intro h
    rw [decs, val_snoc, ih (v / 10) (by rw [Nat.pow_succ] at h; omega)]
    omega
theorem lt_pow_dcount (v : Nat) : v < 10 ^ dcount v := by
  induction v using Nat.strongRecOn with
  | ind v ih =>
    by_cases h : v = 0
    · subst h; rw [dcount_zero]; decide
    · rw [dcount_pos (by omega), Nat.pow_succ]
      have := ih (v / 10) (by omega)
      omega
theorem lt_pow_dsize (v : Nat) : v < 10 ^ dsize v := by
  have := lt_pow_dcount (v / 10)
  unfold dsize
  rw [Nat.add_comm, Nat.pow_succ]
  omega
theorem rep_set (t : Nat) (x : Int) (out : List Int) : (List.replicate (t + 1) (0 : Int) ++ out).set t x = List.replicate t 0 ++ (x :: out) := by
  rw [List.replicate_succ', List.append_assoc, List.set_append_right _ _ (by simp)]
  simp
end Go.Proofs.Ytpipbgigihameaa
