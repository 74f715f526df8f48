
/-
  Plain laws of numerals: the value of a numeral's digits, of one with a zero ahead, of a part; strips. No program text is walked here.
-/
import Derived.Test.YtpipbgigihameaaNumOfP
import Derived.Test.YtpipbgigihameaaStripP
namespace Go.Proofs.Ytpipbgigihameaa
open Go.RowKit

theorem val_fold (xs : List Int) : ∀ a : Int, xs.foldl (fun n d => 10 * n + d) a = a * 10 ^ xs.length + val xs := by
  induction xs with
  | nil => intro a; simp [val]
  | cons x xs ih =>
    intro a
    have e : val (x :: xs) = xs.foldl (fun n d => 10 * n + d) (10 * 0 + x) := rfl
    rw [e, ih, List.foldl_cons, ih, List.length_cons, Int.pow_succ]
    generalize (10 : Int) ^ xs.length = P
    grind
theorem val_one (x : Int) : val [x] = x := by simp [val]
theorem val_cons (x : Int) (xs : List Int) : val (x :: xs) = x * 10 ^ xs.length + val xs := by
  have := val_fold xs (10 * 0 + x)
  have e : val (x :: xs) = xs.foldl (fun n d => 10 * n + d) (10 * 0 + x) := rfl
  rw [e, this]
  grind
theorem val_zero_cons (xs : List Int) : val (0 :: xs) = val xs := by rw [val_cons]; simp
theorem decs_head {v : Nat} (h : 0 < v) : 0 < nth (decs (dcount v) v) 0 := by
  induction v using Nat.strongRecOn with
  | ind v ih =>
    rw [dcount_pos h, decs]
    by_cases h0 : v / 10 = 0
    · rw [h0, dcount_zero]
      simp [nth, decs]
      omega
    · have h1 := ih (v / 10) (by omega) (by omega)
      have hl : 0 < (decs (dcount (v / 10)) (v / 10)).length := by rw [decs_len, dcount_pos (by omega)]; omega
      have e : nth (decs (dcount (v / 10)) (v / 10) ++ [((v % 10 : Nat) : Int)]) 0 = nth (decs (dcount (v / 10)) (v / 10)) 0 := by
        rw [nth_of _ _ (by rw [List.length_append]; omega), nth_of _ _ hl, List.getElem_append_left hl]
      rw [e]
      exact h1
theorem dsize_pos {v : Nat} (h : 0 < v) : dsize v = dcount v := by rw [dcount_pos h, dsize]; omega
theorem dsize_zero : dsize 0 = 1 := by rw [dsize]; simp [dcount_zero]
/-- The numeral of a value begins with no zero, but for that of 0. -/
theorem numeral_head (v : Nat) : 0 < nth (decs (dsize v) v) 0 ∨ v = 0 ∧ dsize v = 1 := by
  by_cases h : v = 0
  · exact .inr ⟨h, by rw [h]; exact dsize_zero⟩
  · left
    rw [dsize_pos (by omega)]
    exact decs_head (by omega)
theorem dsize_small {v n : Nat} (h : v < 10 ^ n) (hn : 1 ≤ n) : dsize v ≤ n := by
  by_cases h0 : v = 0
  · rw [h0, dsize_zero]; exact hn
  · rw [dsize_pos (by omega)]
    exact dcount_le n v h
theorem isNum_decs {v : Nat} (h : v ≤ 999999) : isNum (decs (dsize v) v) = true :=
  isNum_of (decs_digs _ _) (by rw [decs_len]; exact dsize_ge v) (by rw [decs_len]; exact dsize_le h)
theorem isNum_zero_cons {zs : List Int} (h : isNum zs = true) (hl : zs.length ≠ 6) : isNum (0 :: zs) = true := by
  obtain ⟨h1, h2, h3⟩ := isNum_parts h
  refine isNum_of (digs_of fun d hd => ?_) (by simp) (by simp; omega)
  rcases List.mem_cons.1 hd with rfl | hd
  · omega
  · exact digs_mem h1 d hd
theorem numVal_decs {v : Nat} (h : v ≤ 999999) : numVal (decs (dsize v) v) = v := by rw [numVal_yes (isNum_decs h), decs_val _ _ (lt_pow_dsize v)]
theorem isNum_take {zs : List Int} (h : isNum zs = true) {k : Nat} (hk : 1 ≤ k) : isNum (zs.take k) = true := by
  obtain ⟨h1, h2, h3⟩ := isNum_parts h
  exact isNum_of (digs_take h1 k) (by rw [List.length_take]; omega) (by rw [List.length_take]; omega)
theorem isNum_drop {zs : List Int} (h : isNum zs = true) {k : Nat} (hk : k < zs.length) : isNum (zs.drop k) = true := by
  obtain ⟨h1, h2, h3⟩ := isNum_parts h
  exact isNum_of (digs_drop h1 k) (by rw [List.length_drop]; omega) (by rw [List.length_drop]; omega)
theorem val_last {zs : List Int} (h : 1 ≤ zs.length) : val zs = 10 * val (zs.take (zs.length - 1)) + nth zs (zs.length - 1) := by
  have := val_take_succ (zs := zs) (k := zs.length - 1) (by omega)
  rw [show zs.length - 1 + 1 = zs.length by omega, List.take_length] at this
  exact this
/-- The digits that strips tell are those of the product. -/
theorem strip_val (d : Int) (zs : List Int) : (stripR d zs).1 * 10 ^ zs.length + val (stripR d zs).2 = val zs * d := by
  induction zs with
  | nil => simp [stripR, val]
  | cons x xs ih =>
    rw [stripR]
    simp only [val_cons, stripR_len, List.length_cons]
    have e : (x * 10 ^ xs.length + val xs) * d = (x * d) * 10 ^ xs.length + val xs * d := by
      rw [Int.add_mul, Int.mul_assoc, Int.mul_comm (10 ^ xs.length) d, ← Int.mul_assoc]
    rw [e, ← ih]
    have hpow : (10 : Int) ^ (xs.length + 1) = 10 ^ xs.length * 10 := Int.pow_succ _ _
    rw [hpow]
    generalize (stripR d xs).1 = c at *
    generalize val (stripR d xs).2 = V at *
    generalize (10 : Int) ^ xs.length = P at *
    have hdm : x * d + c = 10 * ((x * d + c) / 10) + (x * d + c) % 10 := by omega
    generalize (x * d + c) / 10 = Q at *
    generalize (x * d + c) % 10 = R at *
    grind
theorem strip_val' (d : Int) (zs : List Int) : val ((stripR d zs).1 :: (stripR d zs).2) = val zs * d := by
  rw [val_cons, stripR_len, strip_val]
end Go.Proofs.Ytpipbgigihameaa
