
/-
  Plain laws of lattices: the diagonals add up to the product, the digits tell it, both factors may be exchanged. No program text is walked here.
-/
import Derived.Test.YtdnknkbcbnoobaaNumL
import Derived.Test.YtdnknkbcbnoobaaLat2
namespace Go.Proofs.Ytdnknkbcbnoobaa
open Go.RowKit

theorem sumN_mul (c : Int) (n : Nat) (g : Nat → Int) : c * sumN n g = sumN n (fun q => c * g q) := by
  induction n with
  | zero => simp [sumN]
  | succ n ih => rw [sumN, sumN, Int.mul_add, ih]
theorem sumN_zero (n : Nat) : sumN n (fun _ => 0) = 0 := by
  induction n with
  | zero => rfl
  | succ n ih => rw [sumN, ih]; rfl
theorem sumN_swap (n m : Nat) (f : Nat → Nat → Int) : sumN n (fun p => sumN m (fun q => f p q)) = sumN m (fun q => sumN n (fun p => f p q)) := by
  induction n with
  | zero => simp only [sumN]; rw [sumN_zero]
  | succ n ih =>
    simp only [sumN]
    rw [ih, ← sumN_add]
theorem sumN_one (L k : Nat) (x : Nat → Int) : sumN L (fun m => if m = k then x m else 0) = if k < L then x k else 0 := by
  induction L with
  | zero => simp [sumN]
  | succ L ih =>
    rw [sumN, ih]
    by_cases h1 : k < L
    · rw [if_pos h1, if_neg (by omega), if_pos (by omega)]; omega
    · by_cases h2 : L = k
      · subst h2; simp
      · rw [if_neg h1, if_neg h2, if_neg (by omega)]; rfl
theorem sumN_le {n : Nat} {g : Nat → Int} {B : Int} (h : ∀ q, q < n → g q ≤ B) : sumN n g ≤ n * B := by
  induction n with
  | zero => simp [sumN]
  | succ n ih =>
    have h1 := ih (fun q hq => h q (by omega))
    have h2 := h n (by omega)
    rw [sumN]
    have e : ((n + 1 : Nat) : Int) * B = n * B + B := by rw [Int.natCast_add, Int.add_mul]; simp
    omega
theorem val_sum (xs : List Int) : val xs = sumN xs.length (fun p => 10 ^ p * nth xs (xs.length - 1 - p)) := by
  induction xs with
  | nil => rfl
  | cons x xs ih =>
    rw [val_cons, List.length_cons, sumN]
    have e1 : nth (x :: xs) (xs.length + 1 - 1 - xs.length) = x := by simp [nth]
    have e2 : sumN xs.length (fun p => 10 ^ p * nth (x :: xs) (xs.length + 1 - 1 - p)) = sumN xs.length (fun p => 10 ^ p * nth xs (xs.length - 1 - p)) := by
      refine sumN_congr fun p hp => ?_
      have : xs.length + 1 - 1 - p = (xs.length - 1 - p) + 1 := by omega
      rw [this]
      simp [nth]
    rw [e1, e2, ← ih]
    grind
theorem cell_sum (c : Int) (L p q : Nat) (h : p + q + 1 < L) :
    sumN L (fun m => 10 ^ m * ((if m = p + q then c % 10 else 0) + (if m = p + q + 1 then c / 10 else 0))) = 10 ^ (p + q) * c := by
  have e : (fun m : Nat => (10 : Int) ^ m * ((if m = p + q then c % 10 else 0) + (if m = p + q + 1 then c / 10 else 0))) = fun m => (if m = p + q then (10 : Int) ^ m * (c % 10) else 0) + (if m = p + q + 1 then (10 : Int) ^ m * (c / 10) else 0) := by
    funext m
    split <;> split <;> grind
  rw [e, sumN_add, sumN_one L (p + q) (fun m => 10 ^ m * (c % 10)), sumN_one L (p + q + 1) (fun m => 10 ^ m * (c / 10)), if_pos (by omega), if_pos h, Int.pow_succ]
  have hdm : c = 10 * (c / 10) + c % 10 := by omega
  generalize (10 : Int) ^ (p + q) = P
  generalize c / 10 = Q at *
  generalize c % 10 = R at *
  subst hdm
  grind
/-- The diagonals, each with its worth, add up to the product. -/
theorem lat_product (xs ys : List Int) : sumN (xs.length + ys.length) (fun m => 10 ^ m * nth (latTab xs ys) m) = val xs * val ys := by
  have e1 : sumN (xs.length + ys.length) (fun m => 10 ^ m * nth (latTab xs ys) m) = sumN (xs.length + ys.length) (fun m => sumN xs.length fun p => sumN ys.length fun q => 10 ^ m * latF xs ys p q m) := by
    refine sumN_congr fun m hm => ?_
    rw [latTab, tab_nth _ hm, sumN_mul]
    refine sumN_congr fun p _ => ?_
    rw [sumN_mul]
  rw [e1, sumN_swap]
  have e2 : sumN xs.length (fun p => sumN (xs.length + ys.length) fun m => sumN ys.length fun q => 10 ^ m * latF xs ys p q m) = sumN xs.length (fun p => (10 ^ p * nth xs (xs.length - 1 - p)) * val ys) := by
    refine sumN_congr fun p hp => ?_
    rw [sumN_swap, val_sum ys, sumN_mul]
    refine sumN_congr fun q hq => ?_
    have := cell_sum (nth xs (xs.length - 1 - p) * nth ys (ys.length - 1 - q)) (xs.length + ys.length) p q (by omega)
    unfold latF
    rw [this, Int.pow_add]
    grind
  rw [e2, val_sum xs, Int.mul_comm, sumN_mul]
  refine sumN_congr fun p _ => ?_
  rw [Int.mul_comm]
theorem car_val (ss : List Int) (k : Nat) : (car ss k).1 * 10 ^ k + val (car ss k).2 = sumN k (fun m => 10 ^ m * nth ss m) := by
  induction k with
  | zero => simp [car, val, sumN]
  | succ k ih =>
    rw [car, sumN, ← ih]
    simp only [val_cons, car_len]
    rw [Int.pow_succ]
    generalize (car ss k).1 = c at *
    generalize val (car ss k).2 = V at *
    generalize (10 : Int) ^ k = P at *
    generalize nth ss k = s at *
    have hdm : c + s = 10 * ((c + s) / 10) + (c + s) % 10 := by omega
    generalize (c + s) / 10 = Q at *
    generalize (c + s) % 10 = R at *
    grind
/-- The digits tell the product. -/
theorem latDig_val {xs ys : List Int} (dx : digs xs = true) (dy : digs ys = true) (x6 : xs.length ≤ 6) (y6 : ys.length ≤ 6) : val (latDig xs ys) = val xs * val ys := by
  have h1 := car_val (latTab xs ys) (xs.length + ys.length)
  rw [lat_product] at h1
  have hc := car_bd (latTab_bd dx dy x6 y6) (xs.length + ys.length) (by rw [latTab_len]; exact Nat.le_refl _)
  have hv := val_bd _ (latDig xs ys) rfl (car_digs _ _)
  have hx := val_bd _ xs rfl dx
  have hy := val_bd _ ys rfl dy
  have hp : val xs * val ys < 10 ^ (xs.length + ys.length) := by
    rw [Int.pow_add]
    have hX : (0 : Int) < 10 ^ xs.length := Int.pow_pos (by decide)
    have h2 : val xs * val ys ≤ val xs * (10 ^ ys.length - 1) := Int.mul_le_mul_of_nonneg_left (by omega) hx.1
    have hY : (0 : Int) < 10 ^ ys.length := Int.pow_pos (by decide)
    have h3 : val xs * (10 ^ ys.length - 1) ≤ 10 ^ xs.length * (10 ^ ys.length - 1) := Int.mul_le_mul_of_nonneg_right (by omega) (by omega)
    rw [Int.mul_sub (10 ^ xs.length), Int.mul_one] at h3
    omega
  have hP : (0 : Int) < 10 ^ (xs.length + ys.length) := Int.pow_pos (by decide)
  change (car (latTab xs ys) (xs.length + ys.length)).1 * 10 ^ (xs.length + ys.length) + val (latDig xs ys) = val xs * val ys at h1
  generalize (car (latTab xs ys) (xs.length + ys.length)).1 = c at *
  generalize (10 : Int) ^ (xs.length + ys.length) = P at *
  have h0 : c = 0 := by
    rcases Int.lt_or_le c 1 with h | h
    · omega
    · have : P ≤ c * P := by
        have := Int.mul_le_mul_of_nonneg_right h (Int.le_of_lt hP)
        omega
      omega
  subst h0
  omega
theorem latTab_comm (xs ys : List Int) : latTab ys xs = latTab xs ys := by
  unfold latTab
  rw [Nat.add_comm]
  refine tab_congr fun m _ => ?_
  rw [sumN_swap]
  refine sumN_congr fun p _ => sumN_congr fun q _ => ?_
  unfold latF
  rw [Int.mul_comm, Nat.add_comm]
theorem latSums_comm (xs ys : List Int) : latSums ys xs = latSums xs ys := by
  unfold latSums
  rw [latTab_comm, Bool.and_comm]
theorem latTab_row {xs ys : List Int} (dx : digs xs = true) (dy : digs ys = true) {m : Nat} (h : m < xs.length + ys.length) : nth (latTab xs ys) m ≤ 18 * xs.length := by
  rw [latTab, tab_nth _ h]
  have : sumN xs.length (fun p => sumN ys.length fun q => latF xs ys p q m) ≤ xs.length * 18 := by
    refine sumN_le fun p _ => ?_
    have hq : ∀ q, 0 ≤ nth xs (xs.length - 1 - p) * nth ys (ys.length - 1 - q) ∧ nth xs (xs.length - 1 - p) * nth ys (ys.length - 1 - q) ≤ 81 := fun q => by
      have h1 := nth_digit dx (xs.length - 1 - p)
      have h2 := nth_digit dy (ys.length - 1 - q)
      exact mul_digits h1.1 h1.2 h2.1 h2.2
    have e : sumN ys.length (fun q => latF xs ys p q m) = sumN ys.length (fun q => if q = m - p then (if p ≤ m then nth xs (xs.length - 1 - p) * nth ys (ys.length - 1 - q) % 10 else 0) else 0) + sumN ys.length (fun q => if q = m - p - 1 then (if p + 1 ≤ m then nth xs (xs.length - 1 - p) * nth ys (ys.length - 1 - q) / 10 else 0) else 0) := by
      rw [← sumN_add]
      refine sumN_congr fun q _ => ?_
      unfold latF
      congr 1
      · by_cases hh : m = p + q
        · rw [if_pos hh, if_pos (by omega), if_pos (by omega)]
        · rw [if_neg hh]
          by_cases h2 : q = m - p
          · rw [if_pos h2, if_neg (by omega)]
          · rw [if_neg h2]
      · by_cases hh : m = p + q + 1
        · rw [if_pos hh, if_pos (by omega), if_pos (by omega)]
        · rw [if_neg hh]
          by_cases h2 : q = m - p - 1
          · rw [if_pos h2, if_neg (by omega)]
          · rw [if_neg h2]
    rw [e, sumN_one ys.length (m - p) (fun q => if p ≤ m then nth xs (xs.length - 1 - p) * nth ys (ys.length - 1 - q) % 10 else 0), sumN_one ys.length (m - p - 1) (fun q => if p + 1 ≤ m then nth xs (xs.length - 1 - p) * nth ys (ys.length - 1 - q) / 10 else 0)]
    have h1 := hq (m - p)
    have h2 := hq (m - p - 1)
    generalize nth xs (xs.length - 1 - p) * nth ys (ys.length - 1 - (m - p)) = c1 at *
    generalize nth xs (xs.length - 1 - p) * nth ys (ys.length - 1 - (m - p - 1)) = c2 at *
    have r1 : (if m - p < ys.length then (if p ≤ m then c1 % 10 else 0) else 0) ≤ 9 := by split <;> (try split) <;> omega
    have r2 : (if m - p - 1 < ys.length then (if p + 1 ≤ m then c2 / 10 else 0) else 0) ≤ 9 := by split <;> (try split) <;> omega
    omega
  omega
theorem latTab_min {xs ys : List Int} (dx : digs xs = true) (dy : digs ys = true) {m : Nat} (h : m < xs.length + ys.length) : nth (latTab xs ys) m ≤ 18 * min xs.length ys.length := by
  have h1 := latTab_row dx dy h
  have h2 := latTab_row dy dx (m := m) (by omega)
  rw [latTab_comm] at h2
  omega
/-- The last digit is that of the product of the last digits. -/
theorem car_last (ss : List Int) (k : Nat) (h : 1 ≤ k) : nth (car ss k).2 (k - 1) = nth ss 0 % 10 := by
  induction k with
  | zero => omega
  | succ k ih =>
    by_cases h0 : k = 0
    · subst h0
      simp [car, nth]
    · have := ih (by omega)
      rw [car]
      have e : k + 1 - 1 = (k - 1) + 1 := by omega
      rw [e]
      show nth (_ :: (car ss k).2) ((k - 1) + 1) = _
      have e2 : ∀ (x : Int) (zs : List Int) (i : Nat), nth (x :: zs) (i + 1) = nth zs i := fun x zs i => by simp [nth]
      rw [e2]
      exact this
theorem latTab_zero {xs ys : List Int} (hx : 1 ≤ xs.length) (hy : 1 ≤ ys.length) : nth (latTab xs ys) 0 = nth xs (xs.length - 1) * nth ys (ys.length - 1) % 10 := by
  rw [latTab, tab_nth _ (by omega)]
  have e : sumN xs.length (fun p => sumN ys.length fun q => latF xs ys p q 0) = sumN xs.length (fun p => if p = 0 then nth xs (xs.length - 1 - p) * nth ys (ys.length - 1 - 0) % 10 else 0) := by
    refine sumN_congr fun p _ => ?_
    by_cases hp : p = 0
    · subst hp
      rw [if_pos rfl]
      have e2 : sumN ys.length (fun q => latF xs ys 0 q 0) = sumN ys.length (fun q => if q = 0 then nth xs (xs.length - 1 - 0) * nth ys (ys.length - 1 - q) % 10 else 0) := by
        refine sumN_congr fun q _ => ?_
        unfold latF
        by_cases hq : q = 0
        · subst hq; simp
        · rw [if_neg (by omega), if_neg (by omega), if_neg hq]; rfl
      rw [e2, sumN_one ys.length 0 (fun q => nth xs (xs.length - 1 - 0) * nth ys (ys.length - 1 - q) % 10), if_pos (by omega)]
    · rw [if_neg hp]
      have e2 : sumN ys.length (fun q => latF xs ys p q 0) = sumN ys.length (fun _ => 0) := by
        refine sumN_congr fun q _ => ?_
        unfold latF
        rw [if_neg (by omega), if_neg (by omega)]; rfl
      rw [e2, sumN_zero]
  rw [e, sumN_one xs.length 0 (fun p => nth xs (xs.length - 1 - p) * nth ys (ys.length - 1 - 0) % 10), if_pos (by omega)]
  rfl
theorem latDig_last {xs ys : List Int} (hx : 1 ≤ xs.length) (hy : 1 ≤ ys.length) : nth (latDig xs ys) (xs.length + ys.length - 1) = nth xs (xs.length - 1) * nth ys (ys.length - 1) % 10 := by
  rw [latDig, car_last _ _ (by omega), latTab_zero hx hy]
  omega
end Go.Proofs.Ytdnknkbcbnoobaa
