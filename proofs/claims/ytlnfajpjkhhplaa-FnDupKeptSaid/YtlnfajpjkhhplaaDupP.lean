
/-
  Plain arithmetic of division by doubling. No program text is walked here.
-/
import Derived.Test.YtlnfajpjkhhplaaBase
namespace Go.Proofs.Ytlnfajpjkhhplaa
open Go.RowKit

/-- How many ones a number has in twos. -/
def popc (n : Nat) : Nat := if n = 0 then 0 else n % 2 + popc (n / 2)
decreasing_by omega
theorem popc_zero : popc 0 = 0 := by rw [popc]; rfl
theorem popc_even (q : Nat) : popc (2 * q) = popc q := by
  by_cases h : q = 0
  · subst h; rfl
  · rw [popc, if_neg (by omega), show 2 * q % 2 = 0 by omega, show 2 * q / 2 = q by omega, Nat.zero_add]
theorem popc_odd (q : Nat) : popc (2 * q + 1) = popc q + 1 := by
  rw [popc, if_neg (by omega), show (2 * q + 1) % 2 = 1 by omega, show (2 * q + 1) / 2 = q by omega, Nat.add_comm]
theorem popc_le (n : Nat) : popc n ≤ n := by
  induction n using Nat.strongRecOn with
  | ind n ih =>
    by_cases h : n = 0
    · subst h; rw [popc_zero]; exact Nat.le_refl _
    · rw [popc, if_neg h]
      have := ih (n / 2) (by omega)
      omega

/-- p is a power of two, and B is b times p. -/
def Dbl (b p B : Nat) : Prop := ∃ k, p = 2 ^ k ∧ B = b * 2 ^ k
theorem Dbl.one (b : Nat) : Dbl b 1 b := ⟨0, rfl, by simp⟩
theorem Dbl.two {b p B : Nat} (h : Dbl b p B) : Dbl b (2 * p) (2 * B) := by
  obtain ⟨k, rfl, rfl⟩ := h
  exact ⟨k + 1, by rw [Nat.pow_succ]; omega, by rw [Nat.pow_succ, ← Nat.mul_assoc b, Nat.mul_comm]⟩
theorem Dbl.pos {b p B : Nat} (h : Dbl b p B) : 1 ≤ p := by
  obtain ⟨k, rfl, rfl⟩ := h
  exact Nat.one_le_two_pow
theorem Dbl.le {b p B : Nat} (h : Dbl b p B) (hb : 1 ≤ b) : p ≤ B := by
  obtain ⟨k, rfl, rfl⟩ := h
  exact Nat.le_mul_of_pos_left _ hb
theorem Dbl.mul {b p B : Nat} (h : Dbl b p B) : B = p * b := by
  obtain ⟨k, rfl, rfl⟩ := h
  exact Nat.mul_comm _ _
theorem Dbl.half {b p B : Nat} (h : Dbl b p B) : p = 1 ∧ B = b ∨ 1 < p ∧ Dbl b (p / 2) (B / 2) ∧ p = 2 * (p / 2) ∧ B = 2 * (B / 2) := by
  obtain ⟨k, rfl, rfl⟩ := h
  cases k with
  | zero => left; simp
  | succ k =>
    right
    have hp := Nat.one_le_two_pow (n := k)
    have e1 : 2 ^ (k + 1) = 2 * 2 ^ k := by rw [Nat.pow_succ]; omega
    have e2 : b * 2 ^ (k + 1) = 2 * (b * 2 ^ k) := by rw [e1, ← Nat.mul_assoc, Nat.mul_comm b 2, Nat.mul_assoc]
    rw [e2, e1]
    refine ⟨by omega, ⟨k, by omega, by omega⟩, by omega, by omega⟩

/-- Where a division stands: r is left, B and p are next, q is found, m are taken. -/
def DivSt (a b r B p q m : Nat) : Prop :=
  (p = 0 ∧ q * b + r = a ∧ r < b ∧ m = popc q) ∨ (Dbl b p B ∧ r < 2 * B ∧ q * b + r = a ∧ ∃ Q, q = Q * (2 * p) ∧ m = popc Q)
theorem DivSt.start {a b p B : Nat} (h : Dbl b p B) (ha : a < 2 * B) : DivSt a b a B p 0 0 := .inr ⟨h, ha, by simp, 0, by simp, by rw [popc_zero]⟩
theorem DivSt.le {a b r B p q m : Nat} (h : DivSt a b r B p q m) (hb : 1 ≤ b) : q ≤ a ∧ r ≤ a ∧ m ≤ a := by
  have hq : q * b + r = a := by rcases h with ⟨_, h, _⟩ | ⟨_, _, h, _⟩ <;> exact h
  have h1 : q ≤ q * b := Nat.le_mul_of_pos_right q hb
  refine ⟨by omega, by omega, ?_⟩
  rcases h with ⟨_, _, _, rfl⟩ | ⟨hd, _, _, Q, hQ, rfl⟩
  · have := popc_le q
    omega
  · have h2 := popc_le Q
    have h3 := hd.pos
    have h4 : Q ≤ Q * (2 * p) := Nat.le_mul_of_pos_right Q (by omega)
    omega
theorem DivSt.dbl {a b r B p q m : Nat} (h : DivSt a b r B p q m) (hp : 0 < p) : Dbl b p B := by
  rcases h with ⟨h, _⟩ | ⟨h, _⟩
  · omega
  · exact h
theorem DivSt.next {a b r B p q Q m : Nat} (hd : Dbl b p B) (hr : r < B) (hq : q * b + r = a) (hQ : q = Q * p) (hm : m = popc Q) : DivSt a b r (B / 2) (p / 2) q m := by
  rcases hd.half with ⟨rfl, rfl⟩ | ⟨h1, h2, h3, h4⟩
  · left
    refine ⟨by omega, hq, hr, ?_⟩
    rw [hm, hQ, Nat.mul_one]
  · right
    refine ⟨h2, by omega, hq, Q, ?_, hm⟩
    rw [← h3]
    exact hQ
theorem DivSt.take_ {a b r B p q m : Nat} (h : DivSt a b r B p q m) (hp : 0 < p) (hB : B ≤ r) : DivSt a b (r - B) (B / 2) (p / 2) (q + p) (m + 1) := by
  rcases h with ⟨h, _⟩ | ⟨hd, h1, h2, Q, h3, h4⟩
  · omega
  · have e := hd.mul
    refine DivSt.next (Q := 2 * Q + 1) hd (by omega) ?_ ?_ ?_
    · rw [Nat.add_mul, ← e]; omega
    · rw [h3, Nat.add_mul, Nat.one_mul, Nat.mul_comm 2 Q, Nat.mul_assoc]
    · rw [popc_odd, h4]
theorem DivSt.skip_ {a b r B p q m : Nat} (h : DivSt a b r B p q m) (hp : 0 < p) (hB : r < B) : DivSt a b r (B / 2) (p / 2) q m := by
  rcases h with ⟨h, _⟩ | ⟨hd, h1, h2, Q, h3, h4⟩
  · omega
  · refine DivSt.next (Q := 2 * Q) hd hB h2 ?_ ?_
    · rw [h3, Nat.mul_comm 2 Q, Nat.mul_assoc]
    · rw [popc_even, h4]
theorem div_unique {a b q r : Nat} (h : q * b + r = a) (hr : r < b) : q = a / b ∧ r = a % b := by
  have hb : 0 < b := by omega
  have h1 : a / b = q := by rw [← h, Nat.mul_comm, Nat.mul_add_div hb, Nat.div_eq_of_lt hr]; rfl
  have h2 : a % b = r := by rw [← h, Nat.mul_comm, Nat.mul_add_mod, Nat.mod_eq_of_lt hr]
  exact ⟨h1.symm, h2.symm⟩
theorem DivSt.done {a b r B q m : Nat} (h : DivSt a b r B 0 q m) : q = a / b ∧ r = a % b ∧ m = popc (a / b) := by
  rcases h with ⟨_, h1, h2, h3⟩ | ⟨hd, _⟩
  · have := div_unique h1 h2
    exact ⟨this.1, this.2, by rw [h3, ← this.1]⟩
  · have := hd.pos
    omega

/-- The doubled numbers b, 2 b, 4 b .. -/
def dl (b n : Nat) : List Int := (List.range n).map fun i => ((b * 2 ^ i : Nat) : Int)
theorem dl_len (b n : Nat) : (dl b n).length = n := by simp [dl]
theorem dl_succ (b n : Nat) : dl b n ++ [((b * 2 ^ n : Nat) : Int)] = dl b (n + 1) := by simp [dl, List.range_succ]
theorem dl_nth {b n i : Nat} (h : i < n) : nth (dl b n) i = ((b * 2 ^ i : Nat) : Int) := by simp [nth, dl, h]
theorem pow_gt (n : Nat) : n < 2 ^ n := Nat.lt_two_pow_self
/-- Where the second way of division stands: t doubled numbers are still to be looked at. -/
def TakeSt (a b t r q m : Nat) : Prop := q * (b * 2 ^ t) + r = a ∧ r < b * 2 ^ t ∧ m = popc q
theorem TakeSt.start {a b n : Nat} (h : a < b * 2 ^ n) : TakeSt a b n a 0 0 := ⟨by simp, h, by rw [popc_zero]⟩
theorem two_step (q b t : Nat) : q * (b * 2 ^ (t + 1)) = (2 * q) * (b * 2 ^ t) := by
  rw [Nat.pow_succ, Nat.mul_comm 2 q, Nat.mul_assoc, Nat.mul_comm (2 ^ t) 2, ← Nat.mul_assoc b 2, Nat.mul_comm b 2, Nat.mul_assoc 2 b]
theorem dbl_step (b t : Nat) : b * 2 ^ (t + 1) = 2 * (b * 2 ^ t) := by rw [Nat.pow_succ, ← Nat.mul_assoc, Nat.mul_comm]
theorem TakeSt.take_ {a b t r q m : Nat} (h : TakeSt a b (t + 1) r q m) (hB : b * 2 ^ t ≤ r) : TakeSt a b t (r - b * 2 ^ t) (2 * q + 1) (m + 1) := by
  obtain ⟨h1, h2, h3⟩ := h
  rw [two_step] at h1
  rw [dbl_step] at h2
  refine ⟨?_, by omega, by rw [popc_odd, h3]⟩
  rw [Nat.add_mul, Nat.one_mul]
  omega
theorem TakeSt.skip_ {a b t r q m : Nat} (h : TakeSt a b (t + 1) r q m) (hB : r < b * 2 ^ t) : TakeSt a b t r (2 * q) m := by
  obtain ⟨h1, h2, h3⟩ := h
  rw [two_step] at h1
  exact ⟨h1, hB, by rw [popc_even, h3]⟩
theorem TakeSt.le {a b t r q m : Nat} (h : TakeSt a b t r q m) (hb : 1 ≤ b) : q ≤ a ∧ r ≤ a ∧ m ≤ a := by
  obtain ⟨h1, h2, h3⟩ := h
  have hp : 1 ≤ b * 2 ^ t := Nat.mul_pos hb Nat.one_le_two_pow
  have : q ≤ q * (b * 2 ^ t) := Nat.le_mul_of_pos_right q hp
  have := popc_le q
  omega
theorem TakeSt.done {a b r q m : Nat} (h : TakeSt a b 0 r q m) : q = a / b ∧ r = a % b ∧ m = popc (a / b) := by
  obtain ⟨h1, h2, h3⟩ := h
  simp only [Nat.pow_zero, Nat.mul_one] at h1 h2
  have := div_unique h1 h2
  exact ⟨this.1, this.2, by rw [h3, ← this.1]⟩

def isFac (n : Int) : Bool := inB n 1 100000
def dupDivide (a b : Int) : Int × Int × Bool := if isFac a && isFac b then (((a.toNat / b.toNat : Nat) : Int), ((a.toNat % b.toNat : Nat) : Int), true) else (0, 0, false)
def dupBits (a b : Int) : Int := if isFac a && isFac b then ((popc (a.toNat / b.toNat) : Nat) : Int) else -1
theorem facs {a b : Int} (h : (isFac a && isFac b) = true) : ∃ n m : Nat, a = n ∧ b = m ∧ 1 ≤ n ∧ n ≤ 100000 ∧ 1 ≤ m ∧ m ≤ 100000 := by
  have h' : isFac a = true ∧ isFac b = true := by simpa using h
  have h1 := inB_true h'.1
  have h2 := inB_true h'.2
  exact ⟨a.toNat, b.toNat, by omega, by omega, by omega, by omega, by omega, by omega⟩
theorem fac_nat {n : Nat} (h1 : 1 ≤ n) (h2 : n ≤ 100000) : isFac (n : Int) = true := inB_mk (by omega) (by omega)
end Go.Proofs.Ytlnfajpjkhhplaa
