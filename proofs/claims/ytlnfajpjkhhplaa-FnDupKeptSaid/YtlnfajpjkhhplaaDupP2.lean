
/-
  Plain arithmetic of the rows of a duplation: halves, doubles, kept rows, and their sum. No program text is walked here.
-/
import Derived.Test.YtlnfajpjkhhplaaDupP
namespace Go.Proofs.Ytlnfajpjkhhplaa
open Go.RowKit

/-- How many rows there are. -/
def bl (a : Nat) : Nat := if a = 0 then 0 else a.log2 + 1
theorem lt_bl (a k : Nat) : k < bl a ↔ 2 ^ k ≤ a := by
  unfold bl
  by_cases h : a = 0
  · subst h
    have := Nat.one_le_two_pow (n := k)
    simp
  · rw [if_neg h, ← Nat.le_log2 h]
    omega
theorem lt_bl_div (a k : Nat) : k < bl a ↔ 1 ≤ a / 2 ^ k := by
  rw [lt_bl, Nat.le_div_iff_mul_le (Nat.two_pow_pos k), Nat.one_mul]
theorem bl_lt (a : Nat) : a < 2 ^ bl a := by
  have := lt_bl a (bl a)
  omega
theorem bl_le {a : Nat} (h : a ≤ 100000) : bl a ≤ 17 := by
  have := lt_bl a 17
  omega
theorem bl_pos {a : Nat} (h : 1 ≤ a) : 1 ≤ bl a := by
  have := lt_bl a 0
  simp at this
  omega
theorem div_zero_bl {a k : Nat} (h : bl a ≤ k) : a / 2 ^ k = 0 := by
  have := lt_bl_div a k
  generalize a / 2 ^ k = X at *
  omega
theorem pow_row {k : Nat} (h : k ≤ 17) : 2 ^ k ≤ 131072 := by
  have : 2 ^ k ≤ 2 ^ 17 := Nat.pow_le_pow_right (by omega) h
  simpa using this
theorem right_bd {b k : Nat} (hb : b ≤ 100000) (h : k ≤ 17) : b * 2 ^ k ≤ 13107200000 := by
  have h1 := pow_row h
  calc b * 2 ^ k ≤ 100000 * 131072 := Nat.mul_le_mul hb h1
    _ = 13107200000 := by omega
theorem left_step (a k : Nat) : a / 2 ^ k / 2 = a / 2 ^ (k + 1) := by rw [Nat.div_div_eq_div_mul, Nat.pow_succ]
theorem right_step (b k : Nat) : 2 * (b * 2 ^ k) = b * 2 ^ (k + 1) := (dbl_step b k).symm

/-- The left numbers of the first k rows. -/
def hl (a k : Nat) : List Int := (List.range k).map fun i => ((a / 2 ^ i : Nat) : Int)
theorem hl_len (a k : Nat) : (hl a k).length = k := by simp [hl]
theorem hl_succ (a k : Nat) : hl a k ++ [((a / 2 ^ k : Nat) : Int)] = hl a (k + 1) := by simp [hl, List.range_succ]
theorem hl_nth {a k i : Nat} (h : i < k) : nth (hl a k) i = ((a / 2 ^ i : Nat) : Int) := by simp [nth, hl, h]

/-- The indexes of the kept rows among the first k. -/
def kept (a k : Nat) : List Int := ((List.range k).filter fun i => a / 2 ^ i % 2 == 1).map fun i => ((i : Nat) : Int)
theorem kept_hit {a k : Nat} (h : a / 2 ^ k % 2 = 1) : kept a (k + 1) = kept a k ++ [((k : Nat) : Int)] := by simp [kept, List.range_succ, List.filter_append, h]
theorem kept_miss {a k : Nat} (h : a / 2 ^ k % 2 ≠ 1) : kept a (k + 1) = kept a k := by
  have : (a / 2 ^ k % 2 == 1) = false := beq_eq_false_iff_ne.2 h
  simp [kept, List.range_succ, List.filter_append, this]
theorem kept_len_le (a k : Nat) : (kept a k).length ≤ k := by
  have := List.length_filter_le (fun i => a / 2 ^ i % 2 == 1) (List.range k)
  simpa [kept] using this
theorem kept_mem {a k : Nat} {x : Int} (h : x ∈ kept a k) : ∃ i : Nat, x = i ∧ i < k := by
  simp only [kept, List.mem_map, List.mem_filter, List.mem_range] at h
  obtain ⟨i, ⟨h1, _⟩, h2⟩ := h
  exact ⟨i, h2.symm, h1⟩
theorem kept_top {a : Nat} (h : 1 ≤ a) : kept a (bl a) = kept a (bl a - 1) ++ [((bl a - 1 : Nat) : Int)] := by
  have hp := bl_pos h
  have h1 := (lt_bl_div a (bl a - 1)).1 (by omega)
  have h2 : a / 2 ^ (bl a - 1) / 2 = 0 := by rw [left_step]; exact div_zero_bl (by omega)
  have h3 : a / 2 ^ (bl a - 1) % 2 = 1 := by omega
  have := kept_hit h3
  rw [show bl a - 1 + 1 = bl a by omega] at this
  exact this

/-- The sum of the right numbers of the kept rows among the first k. -/
def sumK (a b k : Nat) : Nat := a % 2 ^ k * b
theorem sumK_zero (a b : Nat) : sumK a b 0 = 0 := by simp [sumK, Nat.mod_one]
theorem mod_hit {a k : Nat} (h : a / 2 ^ k % 2 = 1) : a % 2 ^ (k + 1) = a % 2 ^ k + 2 ^ k := by rw [Nat.mod_pow_succ, h, Nat.mul_one]
theorem mod_miss {a k : Nat} (h : a / 2 ^ k % 2 ≠ 1) : a % 2 ^ (k + 1) = a % 2 ^ k := by
  have : a / 2 ^ k % 2 = 0 := by omega
  rw [Nat.mod_pow_succ, this, Nat.mul_zero, Nat.add_zero]
theorem sumK_hit {a k : Nat} (b : Nat) (h : a / 2 ^ k % 2 = 1) : sumK a b (k + 1) = sumK a b k + b * 2 ^ k := by
  unfold sumK
  rw [mod_hit h, Nat.add_mul, Nat.mul_comm (2 ^ k) b]
theorem sumK_miss {a k : Nat} (b : Nat) (h : a / 2 ^ k % 2 ≠ 1) : sumK a b (k + 1) = sumK a b k := by
  unfold sumK
  rw [mod_miss h]
theorem sumK_all (a b : Nat) : sumK a b (bl a) = a * b := by rw [sumK, Nat.mod_eq_of_lt (bl_lt a)]
theorem sumK_le (a b k : Nat) : sumK a b k ≤ a * b := Nat.mul_le_mul_right _ (Nat.mod_le _ _)
theorem mul_bd {a b : Nat} (ha : a ≤ 100000) (hb : b ≤ 100000) : a * b ≤ 10000000000 := by
  calc a * b ≤ 100000 * 100000 := Nat.mul_le_mul ha hb
    _ = 10000000000 := by omega
/-- The sum of the right numbers at the first j kept indexes, where kept = pre ++ ..; said of a list of indexes. -/
def pick (b : Nat) (zs : List Int) : Nat := (zs.map fun x => b * 2 ^ x.toNat).sum
theorem pick_snoc (b : Nat) (zs : List Int) (x : Int) : pick b (zs ++ [x]) = pick b zs + b * 2 ^ x.toNat := by simp [pick]
theorem pick_kept (a b k : Nat) : pick b (kept a k) = sumK a b k := by
  induction k with
  | zero => simp [pick, kept, sumK_zero]
  | succ k ih =>
    by_cases h : a / 2 ^ k % 2 = 1
    · rw [kept_hit h, pick_snoc, ih, sumK_hit b h]; simp
    · rw [kept_miss h, sumK_miss b h, ih]
theorem pick_take_le (b : Nat) (zs : List Int) (j : Nat) : pick b (zs.take j) ≤ pick b zs := by
  have h : pick b zs = pick b (zs.take j) + pick b (zs.drop j) := by
    conv => lhs; rw [← List.take_append_drop j zs]
    unfold pick
    rw [List.map_append, List.sum_append]
  omega
theorem pick_take_succ (b : Nat) (zs : List Int) {j : Nat} (h : j < zs.length) : pick b (zs.take (j + 1)) = pick b (zs.take j) + b * 2 ^ (nth zs j).toNat := by rw [take_snoc zs j h, pick_snoc]

/-- The kept rows are as many as the ones of the left factor. -/
theorem kept_len_shift (a k : Nat) : (kept a (k + 1)).length = a % 2 + (kept (a / 2) k).length := by
  have e : (kept a (k + 1)).length = ((List.range (k + 1)).filter fun i => a / 2 ^ i % 2 == 1).length := by simp [kept]
  have e2 : (kept (a / 2) k).length = ((List.range k).filter fun i => a / 2 / 2 ^ i % 2 == 1).length := by simp [kept]
  rw [e, e2, List.range_succ_eq_map, List.filter_cons, List.filter_map]
  have hf : ((fun i => a / 2 ^ i % 2 == 1) ∘ Nat.succ) = fun i => a / 2 / 2 ^ i % 2 == 1 := by
    funext i
    show (a / 2 ^ (i + 1) % 2 == 1) = (a / 2 / 2 ^ i % 2 == 1)
    rw [Nat.div_div_eq_div_mul, Nat.pow_succ, Nat.mul_comm 2]
  rw [hf]
  simp only [Nat.pow_zero, Nat.div_one]
  by_cases h : a % 2 = 1
  · simp [h]; omega
  · have h0 : a % 2 = 0 := by omega
    simp [h0]
theorem kept_len (k : Nat) : ∀ a, a < 2 ^ k → (kept a k).length = popc a := by
  induction k with
  | zero =>
    intro a h
    have : a = 0 := by simpa using h
    subst this
    simp [kept, popc_zero]
  | succ k ih =>
    intro a h
    rw [kept_len_shift, ih (a / 2) (by rw [Nat.pow_succ] at h; omega)]
    by_cases h0 : a = 0
    · subst h0; simp [popc_zero]
    · conv => rhs; rw [popc, if_neg h0]

def dupRows (a b : Int) : List Int × List Int × Bool := if isFac a && isFac b then (hl a.toNat (bl a.toNat), dl b.toNat (bl a.toNat), true) else ([], [], false)
def dupKept (a b : Int) : List Int := if isFac a && isFac b then kept a.toNat (bl a.toNat) else []
def dupTimes (a b : Int) : Int := if isFac a && isFac b then ((a.toNat * b.toNat : Nat) : Int) else -1
theorem dupRows_yes {n m : Nat} (n1 : 1 ≤ n) (n2 : n ≤ 100000) (m1 : 1 ≤ m) (m2 : m ≤ 100000) : dupRows (n : Int) (m : Int) = (hl n (bl n), dl m (bl n), true) := by
  simp [dupRows, fac_nat n1 n2, fac_nat m1 m2]
theorem dupKept_yes {n m : Nat} (n1 : 1 ≤ n) (n2 : n ≤ 100000) (m1 : 1 ≤ m) (m2 : m ≤ 100000) : dupKept (n : Int) (m : Int) = kept n (bl n) := by
  simp [dupKept, fac_nat n1 n2, fac_nat m1 m2]
theorem dupTimes_yes {n m : Nat} (n1 : 1 ≤ n) (n2 : n ≤ 100000) (m1 : 1 ≤ m) (m2 : m ≤ 100000) : dupTimes (n : Int) (m : Int) = ((n * m : Nat) : Int) := by
  simp [dupTimes, fac_nat n1 n2, fac_nat m1 m2]
theorem dupRows_no {a b : Int} (h : (isFac a && isFac b) = false) : dupRows a b = ([], [], false) := by simp only [dupRows, h]; rfl
theorem dupKept_no {a b : Int} (h : (isFac a && isFac b) = false) : dupKept a b = [] := by simp only [dupKept, h]; rfl
theorem dupTimes_no {a b : Int} (h : (isFac a && isFac b) = false) : dupTimes a b = -1 := by simp only [dupTimes, h]; rfl
theorem dupRows_bd (a b : Int) : (dupRows a b).1.length ≤ 1048576 ∧ (dupRows a b).2.1.length ≤ 1048576 := by
  cases h : isFac a && isFac b
  · rw [dupRows_no h]; simp
  · obtain ⟨n, m, rfl, rfl, h1, h2, h3, h4⟩ := facs h
    rw [dupRows_yes h1 h2 h3 h4]
    have := bl_le h2
    simp only [hl_len, dl_len]
    omega
theorem dupKept_bd (a b : Int) : (dupKept a b).length ≤ 1048576 := by
  cases h : isFac a && isFac b
  · rw [dupKept_no h]; simp
  · obtain ⟨n, m, rfl, rfl, h1, h2, h3, h4⟩ := facs h
    rw [dupKept_yes h1 h2 h3 h4]
    have := bl_le h2
    have := kept_len_le n (bl n)
    omega
end Go.Proofs.Ytlnfajpjkhhplaa
