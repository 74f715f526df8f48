
/-
  Plain arithmetic of the greedy units of a fraction: they ascend fast, and add up to the fraction. No program text is walked here.
-/
import Derived.Test.YtgdeaochfmakbaaUnitsS
namespace Go.Proofs.Ytgdeaochfmakbaa
open Go.RowKit

theorem low_scale {g a b : Nat} (hg : 1 ≤ g) : lowU (g * a) (g * b) = lowU a b ∧ lowL (g * a) (g * b) = lowL a b := by
  unfold lowU lowL
  rw [Nat.gcd_mul_left]
  exact ⟨Nat.mul_div_mul_left _ _ hg, Nat.mul_div_mul_left _ _ hg⟩
/-- The first step is the same for a fraction in lowest terms. -/
theorem greedy_low {u l : Nat} (hl : 1 ≤ l) (h9 : l ≤ 1000000000) : greedy u l [] = greedy (lowU u l) (lowL u l) [] := by
  by_cases h0 : u = 0
  · subst h0
    rw [lowU_zero, greedy_zero, greedy_zero]
  · have hu : 1 ≤ u := by omega
    have hL := lowL_pos (u := u) hl
    have hU : 1 ≤ lowU u l := by
      rcases Nat.eq_zero_or_pos (lowU u l) with e | e
      · have := lowU_eq_zero e; omega
      · exact e
    have hLl := lowL_le u l
    rw [greedy_step hu hl h9 (by simp), greedy_step hU hL (by omega) (by simp), cdiv_low hu hl]
    have e1 := lowU_mul u l
    have e2 := lowL_mul u l
    have hg := gcd_pos' (u := u) hl
    generalize Nat.gcd u l = g at *
    generalize cdiv l u = d at *
    generalize lowU u l = a at *
    generalize lowL u l = b at *
    subst e1 e2
    have e3 : g * a * d - g * b = g * (a * d - b) := by rw [Nat.mul_assoc, Nat.mul_sub]
    have e4 : g * b * d = g * (b * d) := Nat.mul_assoc _ _ _
    rw [e3, e4, (low_scale hg).1, (low_scale hg).2]
def unitsOfF (up low : Int) : List Int × Bool := if inB low 1 10000 && inB up 0 (low - 1) then greedy (lowU up.toNat low.toNat) (lowL up.toNat low.toNat) [] else ([], false)
theorem unitsOfF_yes {u l : Nat} (h1 : 1 ≤ l) (h2 : l ≤ 10000) (h3 : u < l) : unitsOfF (u : Int) (l : Int) = greedy (lowU u l) (lowL u l) [] := by
  have e1 : inB (l : Int) 1 10000 = true := inB_mk (by omega) (by omega)
  have e2 : inB (u : Int) 0 ((l : Int) - 1) = true := inB_mk (by omega) (by omega)
  simp [unitsOfF, e1, e2]
theorem unitsOfF_no1 {up low : Int} (h : inB low 1 10000 = false) : unitsOfF up low = ([], false) := by simp [unitsOfF, h]
theorem unitsOfF_no2 {up low : Int} (h : inB up 0 (low - 1) = false) : unitsOfF up low = ([], false) := by simp [unitsOfF, h]

theorem prodU_snoc (zs : List Int) (d : Int) : prodU (zs ++ [d]) = prodU zs * d.toNat := by
  induction zs with
  | nil => simp [prodU]
  | cons x xs ih => simp only [List.cons_append, prodU, ih]; rw [Nat.mul_assoc]
theorem sumU_snoc (zs : List Int) (d : Int) : sumU (zs ++ [d]) = sumU zs * d.toNat + prodU zs := by
  induction zs with
  | nil => simp [sumU, prodU]
  | cons x xs ih =>
    simp only [List.cons_append, sumU, prodU, ih, prodU_snoc]
    grind
theorem good_snoc : ∀ {zs : List Int} {d : Int}, good zs = true → 2 ≤ d → d ≤ 1000000000 → (∀ i, i + 1 = zs.length → nth zs i < d) → good (zs ++ [d]) = true
  | [], d, _, h1, h2, _ => by simp [good, under, inB_mk h1 h2]
  | [x], d, h, h1, h2, h3 => by
    have hx : x < d := by have := h3 0 rfl; simpa [nth] using this
    rw [good] at h
    simp only [Bool.and_eq_true] at h
    show good (x :: ([] ++ [d])) = true
    simp [good, under, inB_mk h1 h2, h.1.1, hx]
  | x :: y :: zs, d, h, h1, h2, h3 => by
    rw [good] at h
    simp only [Bool.and_eq_true] at h
    have ih := good_snoc (zs := y :: zs) (d := d) h.2 h1 h2 (fun i hi => by
      have := h3 (i + 1) (by simp at hi ⊢; omega)
      simpa [nth] using this)
    show good (x :: ((y :: zs) ++ [d])) = true
    rw [good, ih]
    have hu : under x (y :: zs ++ [d]) = under x (y :: zs) := rfl
    rw [hu, h.1.1, h.1.2]
    rfl

/-- Where the greedy search stands: out is found, u over l is left of u0 over l0. -/
structure GI (u0 l0 : Nat) (out : List Int) (u l : Nat) : Prop where
  good : good out = true
  len : out.length ≤ 8
  l1 : 1 ≤ l
  ul : u < l
  next : ∀ i, i + 1 = out.length → ((nth out i).toNat - 1) * (nth out i).toNat * u < l
  far : ∀ i, i + 1 < out.length → nth out i * (nth out i - 1) < nth out (i + 1)
  cnt : out.length + u ≤ u0
  frac : u0 * (l * prodU out) = l0 * (l * sumU out + u * prodU out)
theorem GI.start {u l : Nat} (h1 : 1 ≤ l) (h2 : u < l) : GI u l [] u l :=
  ⟨rfl, by simp, h1, h2, fun i hi => by simp at hi, fun i hi => by simp at hi, by simp, by simp [prodU, sumU, Nat.mul_comm]⟩
theorem nth_snoc_lt {zs : List Int} {d : Int} {i : Nat} (h : i < zs.length) : nth (zs ++ [d]) i = nth zs i := by
  rw [nth_of _ _ (by simp; omega), nth_of _ _ h, List.getElem_append_left h]
theorem nth_snoc_eq (zs : List Int) (d : Int) : nth (zs ++ [d]) zs.length = d := by
  rw [nth_of _ _ (by simp)]
  simp
theorem GI.d2 {u0 l0 u l : Nat} {out : List Int} (h : GI u0 l0 out u l) (hu : 1 ≤ u) : 2 ≤ cdiv l u := cdiv_gt hu h.l1 (by have := h.ul; omega)
theorem GI.last {u0 l0 u l : Nat} {out : List Int} (h : GI u0 l0 out u l) (hu : 1 ≤ u) {i : Nat} (hi : i + 1 = out.length) : nth out i * (nth out i - 1) < (cdiv l u : Nat) ∧ nth out i < (cdiv l u : Nat) := by
  have h1 := h.next i hi
  have h2 := cdiv_gt hu h.l1 h1
  have h3 := good_mem h.good _ (nth_mem out i (by omega))
  obtain ⟨x, hx⟩ : ∃ x : Nat, nth out i = (x : Int) + 2 := ⟨(nth out i - 2).toNat, by omega⟩
  rw [hx] at h2 ⊢
  have e : ((x : Int) + 2).toNat = x + 2 := by omega
  rw [e] at h2
  have e2 : (x + 2 - 1) * (x + 2) = (x + 1) * (x + 2) := by rw [show x + 2 - 1 = x + 1 by omega]
  rw [e2] at h2
  have e3 : ((x : Int) + 2) * ((x : Int) + 2 - 1) = (((x + 1) * (x + 2) : Nat) : Int) := by
    rw [Int.natCast_mul]
    have : (((x + 2 : Nat)) : Int) = (x : Int) + 2 := by omega
    have : (((x + 1 : Nat)) : Int) = (x : Int) + 1 := by omega
    grind
  have e4 : x + 2 ≤ (x + 1) * (x + 2) := Nat.le_mul_of_pos_left _ (by omega)
  rw [e3]
  omega
theorem step_frac {u l d e g u' l' : Nat} (he : u * d = l + e) (h1 : g * u' = e) (h2 : g * l' = l * d) (hg : 1 ≤ g) (hd : 2 ≤ d) (hl : 1 ≤ l) (hk : u * d < l + u) :
    (d - 1) * d * u' < l' ∧ u' < u := by
  obtain ⟨c, rfl⟩ : ∃ c, d = c + 1 := ⟨d - 1, by omega⟩
  have hcu : c * u < l := by
    have : u * (c + 1) = c * u + u := by rw [Nat.mul_add, Nat.mul_one, Nat.mul_comm]
    omega
  have heu : e < u := by omega
  have hce : c * e < l := by
    have a1 : c * (u * (c + 1)) = c * l + c * e := by rw [he, Nat.mul_add]
    have a2 : c * (u * (c + 1)) = (c * u) * c + c * u := by rw [← Nat.mul_assoc, Nat.mul_add, Nat.mul_one]
    have a3 : (c * u) * c ≤ (l - 1) * c := Nat.mul_le_mul_right c (by omega)
    have a4 : (l - 1) * c + c = l * c := by
      rw [Nat.sub_mul, Nat.one_mul]
      have : c ≤ l * c := Nat.le_mul_of_pos_left c hl
      omega
    have a5 : c * l = l * c := Nat.mul_comm _ _
    omega
  constructor
  · have b1 : g * ((c + 1 - 1) * (c + 1) * u') = (c + 1) * (c * e) := by
      rw [← h1, Nat.add_sub_cancel]
      grind
    have b2 : (c + 1) * (c * e) < (c + 1) * l := Nat.mul_lt_mul_of_pos_left hce (by omega)
    have b3 : (c + 1) * l = g * l' := by rw [h2, Nat.mul_comm]
    exact Nat.lt_of_mul_lt_mul_left (a := g) (by omega)
  · have : u' ≤ g * u' := Nat.le_mul_of_pos_left u' hg
    omega
theorem GI.step {u0 l0 u l : Nat} {out : List Int} (h : GI u0 l0 out u l) (hu : 1 ≤ u) (h7 : out.length ≤ 7) (h9 : l ≤ 1000000000) :
    GI u0 l0 (out ++ [((cdiv l u : Nat) : Int)]) (lowU (u * cdiv l u - l) (l * cdiv l u)) (lowL (u * cdiv l u - l) (l * cdiv l u)) := by
  have hd := h.d2 hu
  have hlo := cdiv_lo hu h.l1
  have hhi := cdiv_hi hu h.l1
  have hle := cdiv_le hu h.l1
  have hlast := fun i hi => h.last hu (i := i) hi
  have hld : 1 ≤ l * cdiv l u := Nat.mul_pos h.l1 (by omega)
  have hL := lowL_pos (u := u * cdiv l u - l) hld
  have e1 := lowU_mul (u * cdiv l u - l) (l * cdiv l u)
  have e2 := lowL_mul (u * cdiv l u - l) (l * cdiv l u)
  have hg := gcd_pos' (u := u * cdiv l u - l) hld
  generalize hd' : cdiv l u = d at *
  obtain ⟨e, he⟩ : ∃ e, u * d = l + e := ⟨u * d - l, by omega⟩
  have hee : u * d - l = e := by omega
  rw [hee] at e1 e2 hL hg ⊢
  generalize Nat.gcd e (l * d) = g at *
  generalize lowU e (l * d) = u' at *
  generalize lowL e (l * d) = l' at *
  obtain ⟨s1, s2⟩ := step_frac he e1 e2 hg hd h.l1 hhi
  have hlen : (out ++ [(d : Int)]).length = out.length + 1 := by simp
  refine ⟨good_snoc h.good (by omega) (by omega) (fun i hi => (hlast i hi).2), by omega, hL, ?_, ?_, ?_, ?_, ?_⟩
  · have : u' ≤ (d - 1) * d * u' := Nat.le_mul_of_pos_left u' (Nat.mul_pos (by omega) (by omega))
    omega
  · intro i hi
    have : i = out.length := by omega
    subst this
    rw [nth_snoc_eq]
    exact s1
  · intro i hi
    by_cases hh : i + 1 = out.length
    · rw [nth_snoc_lt (by omega), hh, nth_snoc_eq]
      exact (hlast i hh).1
    · rw [nth_snoc_lt (by omega), nth_snoc_lt (by omega)]
      exact h.far i (by omega)
  · have := h.cnt
    omega
  · rw [prodU_snoc, sumU_snoc, Int.toNat_natCast]
    have hf := h.frac
    generalize prodU out = P at *
    generalize sumU out = S at *
    have key : g * (u0 * (l' * (P * d))) = g * (l0 * (l' * (S * d + P) + u' * (P * d))) := by
      have a1 : g * (u0 * (l' * (P * d))) = (u0 * (l * P)) * (d * d) := by grind
      have a2 : g * (l0 * (l' * (S * d + P) + u' * (P * d))) = l0 * ((g * l') * (S * d + P) + (g * u') * (P * d)) := by grind
      have a3 : (l * d) * (S * d + P) + e * (P * d) = (l * S + u * P) * (d * d) := by
        have : (l * S + u * P) * (d * d) = l * S * (d * d) + (u * d) * (P * d) := by grind
        rw [this, he]
        grind
      rw [a1, a2, e1, e2, a3, hf]
      grind
    exact Nat.eq_of_mul_eq_mul_left hg key
/-- What the greedy search hands back. -/
theorem greedy_all (n : Nat) : ∀ {u0 l0 u l : Nat} {out : List Int}, u ≤ n → GI u0 l0 out u l → greedy u l out = ([], false) ∨ ∃ rs l', greedy u l out = (rs, true) ∧ GI u0 l0 rs 0 l' := by
  induction n with
  | zero =>
    intro u0 l0 u l out hn h
    obtain rfl : u = 0 := by omega
    exact .inr ⟨out, l, greedy_zero l out, h⟩
  | succ n ih =>
    intro u0 l0 u l out hn h
    by_cases h0 : u = 0
    · subst h0
      exact .inr ⟨out, l, greedy_zero l out, h⟩
    · by_cases hbad : 1000000000 < l ∨ out.length = 8
      · exact .inl (greedy_no (by omega) hbad)
      · have hlt := step_lt (u := u) (l := l) (by omega) h.l1
        have hl := h.len
        rw [greedy_step (by omega) h.l1 (by omega) (by omega)]
        exact ih (by omega) (h.step (by omega) (by omega) (by omega))
theorem unitsOfF_bd (up low : Int) : (unitsOfF up low).1.length ≤ 1048576 := by
  cases h1 : inB low 1 10000
  · rw [unitsOfF_no1 h1]; simp
  · cases h2 : inB up 0 (low - 1)
    · rw [unitsOfF_no2 h2]; simp
    · have a1 := inB_true h1
      have a2 := inB_true h2
      obtain ⟨l, rfl⟩ : ∃ l : Nat, low = l := ⟨low.toNat, by omega⟩
      obtain ⟨u, rfl⟩ : ∃ u : Nat, up = u := ⟨up.toNat, by omega⟩
      have hul : u < l := by omega
      have hl : 1 ≤ l := by omega
      rw [unitsOfF_yes hl (by omega) hul]
      have hlow : lowU u l < lowL u l := by
        have e1 := lowU_mul u l
        have e2 := lowL_mul u l
        exact Nat.lt_of_mul_lt_mul_left (a := Nat.gcd u l) (by omega)
      rcases greedy_all (lowU u l) (Nat.le_refl _) (GI.start (lowL_pos hl) hlow) with e | ⟨rs, l', e, hg⟩
      · rw [e]; simp
      · rw [e]
        have := hg.len
        show rs.length ≤ 1048576
        omega
end Go.Proofs.Ytgdeaochfmakbaa
