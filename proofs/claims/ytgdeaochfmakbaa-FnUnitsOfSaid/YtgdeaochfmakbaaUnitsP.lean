
/-
  Plain arithmetic of unit fractions: sums in lowest terms, the greedy units of a fraction. No program text is walked here.
-/
import Derived.Test.YtgdeaochfmakbaaUnits
namespace Go.Proofs.Ytgdeaochfmakbaa
open Go.RowKit

theorem gcd_step (a b : Nat) : Nat.gcd a b = Nat.gcd b (a % b) := by
  rw [Nat.gcd_comm a b, Nat.gcd_rec b a, Nat.gcd_comm]
/-- A fraction in lowest terms. -/
def lowU (u l : Nat) : Nat := u / Nat.gcd u l
def lowL (u l : Nat) : Nat := l / Nat.gcd u l
theorem gcd_pos' {u l : Nat} (h : 1 ≤ l) : 1 ≤ Nat.gcd u l := Nat.gcd_pos_of_pos_right u h
theorem lowU_mul (u l : Nat) : Nat.gcd u l * lowU u l = u := Nat.mul_div_cancel' (Nat.gcd_dvd_left u l)
theorem lowL_mul (u l : Nat) : Nat.gcd u l * lowL u l = l := Nat.mul_div_cancel' (Nat.gcd_dvd_right u l)
theorem lowU_le (u l : Nat) : lowU u l ≤ u := Nat.div_le_self _ _
theorem lowL_le (u l : Nat) : lowL u l ≤ l := Nat.div_le_self _ _
theorem lowL_pos {u l : Nat} (h : 1 ≤ l) : 1 ≤ lowL u l := by
  have h1 := lowL_mul u l
  rcases Nat.eq_zero_or_pos (lowL u l) with e | e
  · rw [e] at h1; omega
  · exact e
theorem lowU_zero (l : Nat) : lowU 0 l = 0 := by simp [lowU]
theorem lowL_zero {l : Nat} (h : 1 ≤ l) : lowL 0 l = 1 := by rw [lowL, Nat.gcd_zero_left, Nat.div_self h]
theorem lowU_eq_zero {u l : Nat} (h : lowU u l = 0) : u = 0 := by
  have := lowU_mul u l
  rw [h] at this
  omega
theorem low_coprime {u l : Nat} (h : 1 ≤ l) : Nat.gcd (lowU u l) (lowL u l) = 1 := by
  unfold lowU lowL
  rw [Nat.gcd_div (Nat.gcd_dvd_left u l) (Nat.gcd_dvd_right u l), Nat.div_self (gcd_pos' h)]
theorem low_cross (u l : Nat) : lowU u l * l = u * lowL u l := by
  have h1 := lowU_mul u l
  have h2 := lowL_mul u l
  generalize Nat.gcd u l = g at *
  generalize lowU u l = a at *
  generalize lowL u l = b at *
  subst h1 h2
  rw [Nat.mul_comm g a, Nat.mul_assoc]

/-- The sum of unit fractions, one by one, in lowest terms. -/
def usum : Nat → Nat → List Int → Int × Int × Bool
  | u, l, [] => ((u : Int), (l : Int), true)
  | u, l, d :: ds =>
    if lowU (u * d.toNat + l) (l * d.toNat) ≤ 1000000000 ∧ lowL (u * d.toNat + l) (l * d.toNat) ≤ 1000000000 then usum (lowU (u * d.toNat + l) (l * d.toNat)) (lowL (u * d.toNat + l) (l * d.toNat)) ds
    else (0, 0, false)
def unitsSum (zs : List Int) : Int × Int × Bool := if isUnits zs then usum 0 1 zs else (0, 0, false)
theorem usum_nil (u l : Nat) : usum u l [] = ((u : Int), (l : Int), true) := rfl
theorem usum_yes {u l : Nat} {d : Nat} {ds : List Int} (h1 : lowU (u * d + l) (l * d) ≤ 1000000000) (h2 : lowL (u * d + l) (l * d) ≤ 1000000000) :
    usum u l ((d : Int) :: ds) = usum (lowU (u * d + l) (l * d)) (lowL (u * d + l) (l * d)) ds := by
  show (if lowU (u * d + l) (l * d) ≤ 1000000000 ∧ lowL (u * d + l) (l * d) ≤ 1000000000 then _ else _) = _
  rw [if_pos ⟨h1, h2⟩]
  rfl
theorem usum_no {u l : Nat} {d : Nat} {ds : List Int} (h : 1000000000 < lowU (u * d + l) (l * d) ∨ 1000000000 < lowL (u * d + l) (l * d)) : usum u l ((d : Int) :: ds) = (0, 0, false) := by
  show (if lowU (u * d + l) (l * d) ≤ 1000000000 ∧ lowL (u * d + l) (l * d) ≤ 1000000000 then _ else _) = _
  rw [if_neg (by omega)]
theorem unitsSum_no {zs : List Int} (h : isUnits zs = false) : unitsSum zs = (0, 0, false) := by simp [unitsSum, h]
theorem unitsSum_yes {zs : List Int} (h : isUnits zs = true) : unitsSum zs = usum 0 1 zs := by simp [unitsSum, h]

/-- The product of the denominators, and the sum of the products without one. -/
def prodU : List Int → Nat
  | [] => 1
  | d :: ds => d.toNat * prodU ds
def sumU : List Int → Nat
  | [] => 0
  | d :: ds => prodU ds + d.toNat * sumU ds
theorem prodU_pos : ∀ {zs : List Int}, (∀ d ∈ zs, 1 ≤ d) → 1 ≤ prodU zs
  | [], _ => Nat.le_refl _
  | d :: ds, h => by
    have h1 := h d (by simp)
    have h2 := prodU_pos (zs := ds) (fun x hx => h x (by simp [hx]))
    show 1 ≤ d.toNat * prodU ds
    exact Nat.mul_pos (by omega) h2
theorem sumU_le : ∀ {zs : List Int}, (∀ d ∈ zs, 1 ≤ d) → sumU zs ≤ zs.length * prodU zs
  | [], _ => by simp [sumU]
  | d :: ds, h => by
    have h1 := h d (by simp)
    have h2 := sumU_le (zs := ds) (fun x hx => h x (by simp [hx]))
    show prodU ds + d.toNat * sumU ds ≤ (ds.length + 1) * (d.toNat * prodU ds)
    have h3 : d.toNat * sumU ds ≤ d.toNat * (ds.length * prodU ds) := Nat.mul_le_mul_left _ h2
    have h4 : prodU ds ≤ d.toNat * prodU ds := Nat.le_mul_of_pos_left _ (by omega)
    have h5 : (ds.length + 1) * (d.toNat * prodU ds) = d.toNat * (ds.length * prodU ds) + d.toNat * prodU ds := by
      rw [Nat.add_mul, Nat.one_mul]
      congr 1
      rw [← Nat.mul_assoc, ← Nat.mul_assoc, Nat.mul_comm ds.length]
    omega
theorem cross_up {x y l u' l' P S g : Nat} (h : x * (l' * P) = y * (u' * P + l' * S)) : x * (g * l' * P) = y * (g * u' * P + g * l' * S) := by
  have e1 : x * (g * l' * P) = g * (x * (l' * P)) := by
    rw [Nat.mul_assoc g, ← Nat.mul_assoc x, Nat.mul_comm x g, Nat.mul_assoc]
  have e2 : y * (g * u' * P + g * l' * S) = g * (y * (u' * P + l' * S)) := by
    rw [Nat.mul_assoc g, Nat.mul_assoc g, ← Nat.mul_add, ← Nat.mul_assoc y, Nat.mul_comm y g, Nat.mul_assoc]
  rw [e1, e2, h]
theorem usum_cross : ∀ {zs : List Int} {u l x y : Nat}, usum u l zs = ((x : Int), (y : Int), true) → x * (l * prodU zs) = y * (u * prodU zs + l * sumU zs)
  | [], u, l, x, y, h => by
    rw [usum_nil] at h
    injection h with h1 h2
    injection h2 with h2 h3
    have : u = x := by omega
    have : l = y := by omega
    subst u l
    simp [prodU, sumU, Nat.mul_comm]
  | d :: ds, u, l, x, y, h => by
    unfold usum at h
    split at h
    · have ih := usum_cross h
      have := cross_up (g := Nat.gcd (u * d.toNat + l) (l * d.toNat)) (l := l) ih
      rw [lowU_mul, lowL_mul] at this
      show x * (l * (d.toNat * prodU ds)) = y * (u * (d.toNat * prodU ds) + l * (prodU ds + d.toNat * sumU ds))
      rw [← Nat.mul_assoc l, this]
      congr 1
      rw [Nat.add_mul, Nat.mul_add l, ← Nat.mul_assoc u, ← Nat.mul_assoc l]
      omega
    · injection h with h1 h2
      injection h2 with h2 h3
      cases h3
theorem usum_form : ∀ {zs : List Int} {u l : Nat}, (1 ≤ l) → (∀ d ∈ zs, 1 ≤ d) → usum u l zs = (0, 0, false) ∨ ∃ x y : Nat, usum u l zs = ((x : Int), (y : Int), true) ∧ 1 ≤ y ∧ (zs ≠ [] → x ≤ 1000000000 ∧ y ≤ 1000000000 ∧ Nat.gcd x y = 1)
  | [], u, l, hl, _ => .inr ⟨u, l, rfl, hl, fun h => absurd rfl h⟩
  | d :: ds, u, l, hl, hd => by
    have h1 := hd d (by simp)
    have hld : 1 ≤ l * d.toNat := Nat.mul_pos hl (by omega)
    unfold usum
    split
    · rename_i hc
      rcases usum_form (zs := ds) (u := lowU (u * d.toNat + l) (l * d.toNat)) (l := lowL (u * d.toNat + l) (l * d.toNat)) (lowL_pos hld) (fun x hx => hd x (by simp [hx])) with h | ⟨x, y, h, hy, hp⟩
      · exact .inl h
      · refine .inr ⟨x, y, h, hy, fun _ => ?_⟩
        by_cases hn : ds = []
        · subst hn
          rw [usum_nil] at h
          injection h with h1 h2
          injection h2 with h2 h3
          have e1 : lowU (u * d.toNat + l) (l * d.toNat) = x := by omega
          have e2 : lowL (u * d.toNat + l) (l * d.toNat) = y := by omega
          have := low_coprime (u := u * d.toNat + l) hld
          rw [e1, e2] at this hc
          exact ⟨hc.1, hc.2, this⟩
        · exact hp hn
    · exact .inl rfl
theorem usum_snoc : ∀ {zs : List Int} {u l : Nat} {d x y : Nat}, usum u l (zs ++ [(d : Int)]) = ((x : Int), (y : Int), true) → ∃ u' l' : Nat, usum u l zs = ((u' : Int), (l' : Int), true) ∧ x = lowU (u' * d + l') (l' * d) ∧ y = lowL (u' * d + l') (l' * d)
  | [], u, l, d, x, y, h => by
    rw [List.nil_append] at h
    unfold usum at h
    split at h
    · rw [usum_nil] at h
      injection h with h1 h2
      injection h2 with h2 h3
      simp only [Int.toNat_natCast] at h1 h2
      exact ⟨u, l, rfl, by omega, by omega⟩
    · injection h with h1 h2
      injection h2 with h2 h3
      cases h3
  | c :: cs, u, l, d, x, y, h => by
    rw [List.cons_append] at h
    unfold usum at h
    split at h
    · rename_i hc
      obtain ⟨u', l', h1, h2, h3⟩ := usum_snoc h
      refine ⟨u', l', ?_, h2, h3⟩
      unfold usum
      rw [if_pos hc]
      exact h1
    · injection h with h1 h2
      injection h2 with h2 h3
      cases h3

/-- The greedy units of u over l, behind those that are found. -/
def cdiv (l u : Nat) : Nat := (l + u - 1) / u
def greedy (u l : Nat) (out : List Int) : List Int × Bool :=
  if h : u = 0 then (out, true)
  else if 1000000000 < l ∨ out.length = 8 then ([], false)
  else if h2 : lowU (u * cdiv l u - l) (l * cdiv l u) < u then greedy (lowU (u * cdiv l u - l) (l * cdiv l u)) (lowL (u * cdiv l u - l) (l * cdiv l u)) (out ++ [((cdiv l u : Nat) : Int)])
  else ([], false)
termination_by u
theorem cdiv_lo {l u : Nat} (hu : 1 ≤ u) (hl : 1 ≤ l) : l ≤ u * cdiv l u := by
  have h := Nat.div_add_mod (l + u - 1) u
  have h2 := Nat.mod_lt (l + u - 1) (show u > 0 by omega)
  unfold cdiv
  omega
theorem cdiv_hi {l u : Nat} (hu : 1 ≤ u) (hl : 1 ≤ l) : u * cdiv l u < l + u := by
  have h := Nat.div_add_mod (l + u - 1) u
  unfold cdiv
  omega
theorem cdiv_pos {l u : Nat} (hu : 1 ≤ u) (hl : 1 ≤ l) : 1 ≤ cdiv l u := by
  have := cdiv_lo hu hl
  rcases Nat.eq_zero_or_pos (cdiv l u) with e | e
  · rw [e] at this; omega
  · exact e
theorem cdiv_le {l u : Nat} (hu : 1 ≤ u) (hl : 1 ≤ l) : cdiv l u ≤ l := by
  unfold cdiv
  have h1 : l + u - 1 < (l + 1) * u := by
    have : (l + 1) * u = l * u + u := by rw [Nat.add_mul, Nat.one_mul]
    have : l ≤ l * u := Nat.le_mul_of_pos_right l hu
    omega
  have := (Nat.div_lt_iff_lt_mul hu).2 h1
  omega
theorem cdiv_gt {l u k : Nat} (hu : 1 ≤ u) (hl : 1 ≤ l) (h : k * u < l) : k < cdiv l u := by
  have h1 := cdiv_lo hu hl
  rcases Nat.lt_or_ge k (cdiv l u) with h2 | h2
  · exact h2
  · have : u * cdiv l u ≤ u * k := Nat.mul_le_mul_left u h2
    rw [Nat.mul_comm u k] at this
    omega
theorem cdiv_low {l u : Nat} (hu : 1 ≤ u) (hl : 1 ≤ l) : cdiv (lowL u l) (lowU u l) = cdiv l u := by
  have e1 := lowU_mul u l
  have e2 := lowL_mul u l
  have hg := gcd_pos' (u := u) hl
  have hL := lowL_pos (u := u) hl
  have hU : 1 ≤ lowU u l := by
    rcases Nat.eq_zero_or_pos (lowU u l) with e | e
    · have := lowU_eq_zero e; omega
    · exact e
  generalize Nat.gcd u l = g at *
  generalize lowU u l = a at *
  generalize lowL u l = b at *
  have h1 := cdiv_lo hU hL
  have h2 := cdiv_hi hU hL
  have h3 := cdiv_lo hu hl
  have h4 := cdiv_hi hu hl
  generalize cdiv b a = x at *
  generalize cdiv l u = y at *
  subst e1 e2
  have h3' : b ≤ a * y := by
    rw [Nat.mul_assoc] at h3
    exact Nat.le_of_mul_le_mul_left h3 hg
  have h4' : a * y < b + a := by
    rw [Nat.mul_assoc, ← Nat.mul_add] at h4
    exact Nat.lt_of_mul_lt_mul_left h4
  rcases Nat.lt_trichotomy x y with h | h | h
  · have : a * (x + 1) ≤ a * y := Nat.mul_le_mul_left a h
    rw [Nat.mul_add, Nat.mul_one] at this
    omega
  · exact h
  · have : a * (y + 1) ≤ a * x := Nat.mul_le_mul_left a h
    rw [Nat.mul_add, Nat.mul_one] at this
    omega
theorem step_lt {u l : Nat} (hu : 1 ≤ u) (hl : 1 ≤ l) : lowU (u * cdiv l u - l) (l * cdiv l u) < u := by
  have h1 := cdiv_hi hu hl
  have h2 := lowU_le (u * cdiv l u - l) (l * cdiv l u)
  omega
theorem greedy_zero (l : Nat) (out : List Int) : greedy 0 l out = (out, true) := by rw [greedy]; simp
theorem greedy_no {u l : Nat} {out : List Int} (hu : 1 ≤ u) (h : 1000000000 < l ∨ out.length = 8) : greedy u l out = ([], false) := by
  rw [greedy, dif_neg (by omega), if_pos h]
theorem greedy_step {u l : Nat} {out : List Int} (hu : 1 ≤ u) (hl : 1 ≤ l) (h1 : l ≤ 1000000000) (h2 : out.length ≠ 8) :
    greedy u l out = greedy (lowU (u * cdiv l u - l) (l * cdiv l u)) (lowL (u * cdiv l u - l) (l * cdiv l u)) (out ++ [((cdiv l u : Nat) : Int)]) := by
  rw [greedy, dif_neg (by omega), if_neg (by omega), dif_pos (step_lt hu hl)]
end Go.Proofs.Ytgdeaochfmakbaa
