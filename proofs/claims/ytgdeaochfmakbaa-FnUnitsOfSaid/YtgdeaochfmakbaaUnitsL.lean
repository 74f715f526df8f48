
/-
  Plain laws of unit fractions: the greedy units tell the fraction; units are added one by one. No program text is walked here.
-/
import Derived.Test.YtgdeaochfmakbaaUnitsD
namespace Go.Proofs.Ytgdeaochfmakbaa
open Go.RowKit

theorem usum_bd {zs : List Int} (h : good zs = true) : usum 0 1 zs = (0, 0, false) ∨ ∃ x y : Nat, usum 0 1 zs = ((x : Int), (y : Int), true) ∧ 1 ≤ y ∧ x ≤ 1000000000 ∧ y ≤ 1000000000 ∧ Nat.gcd x y = 1 := by
  cases zs with
  | nil => exact .inr ⟨0, 1, rfl, by omega, by omega, by omega, by simp⟩
  | cons d ds =>
    rcases usum_form (u := 0) (l := 1) (Nat.le_refl _) (good_pos h) with e | ⟨x, y, e, hy, hp⟩
    · exact .inl e
    · have := hp (by simp)
      exact .inr ⟨x, y, e, hy, this.1, this.2.1, this.2.2⟩

/-- The greedy units of a fraction. -/
structure Told (u l : Nat) (rs : List Int) : Prop where
  good : good rs = true
  len : rs.length ≤ 8
  cnt : rs.length ≤ u / Nat.gcd u l
  far : ∀ i, i + 1 < rs.length → nth rs i * (nth rs i - 1) < nth rs (i + 1)
  sum : unitsSum rs = (0, 0, false) ∨ ∃ x y : Nat, unitsSum rs = ((x : Int), (y : Int), true) ∧ x ≤ 1000000000 ∧ y ≤ 1000000000 ∧ x * l = u * y
theorem unitsOf_told {up low : Int} {rs : List Int} (hr : unitsOfF up low = (rs, true)) : ∃ u l : Nat, up = u ∧ low = l ∧ 1 ≤ l ∧ l ≤ 10000 ∧ u < l ∧ Told u l rs := by
  cases h1 : inB low 1 10000
  · rw [unitsOfF_no1 h1] at hr
    injection hr with _ h
    cases h
  · cases h2 : inB up 0 (low - 1)
    · rw [unitsOfF_no2 h2] at hr
      injection hr with _ h
      cases h
    · have a1 := inB_true h1
      have a2 := inB_true h2
      obtain ⟨l, rfl⟩ : ∃ l : Nat, low = l := ⟨low.toNat, by omega⟩
      obtain ⟨u, rfl⟩ : ∃ u : Nat, up = u := ⟨up.toNat, by omega⟩
      have hl : 1 ≤ l := by omega
      rw [unitsOfF_yes hl (by omega) (by omega)] at hr
      refine ⟨u, l, rfl, rfl, hl, by omega, by omega, ?_⟩
      rcases greedy_all (lowU u l) (Nat.le_refl _) (GI.start (lowL_pos hl) (low_lt (by omega))) with e | ⟨qs, l', e, hg⟩
      · rw [e] at hr
        injection hr with _ h
        cases h
      · rw [e] at hr
        injection hr with h _
        subst h
        refine ⟨hg.good, hg.len, ?_, hg.far, ?_⟩
        · have := hg.cnt
          show qs.length ≤ lowU u l
          omega
        · rw [unitsSum_yes (isUnits_yes hg.good hg.len)]
          rcases usum_bd hg.good with e | ⟨x, y, e, hy, hx9, hy9, _⟩
          · exact .inl e
          · refine .inr ⟨x, y, e, hx9, hy9, ?_⟩
            have hc := usum_cross e
            have hf := hg.frac
            have hP := prodU_pos (good_pos hg.good)
            have hl' := hg.l1
            have e1 := lowU_mul u l
            have e2 := lowL_mul u l
            generalize prodU qs = P at *
            generalize sumU qs = S at *
            generalize lowU u l = a at *
            generalize lowL u l = b at *
            generalize Nat.gcd u l = g at *
            have f2 : l' * (a * P) = l' * (b * S) := by
              have q1 : a * (l' * P) = l' * (a * P) := by grind
              have q2 : b * (l' * S + 0 * P) = l' * (b * S) := by grind
              rw [← q1, ← q2]
              exact hf
            have f3 := Nat.eq_of_mul_eq_mul_left hl' f2
            have f4 : x * P = y * S := by
              have q1 : x * (1 * P) = x * P := by grind
              have q2 : y * (0 * P + 1 * S) = y * S := by grind
              rw [← q1, ← q2]
              exact hc
            have f5 : P * (x * b) = P * (a * y) := by
              have q1 : P * (x * b) = (x * P) * b := by grind
              have q2 : P * (a * y) = y * (a * P) := by grind
              rw [q1, q2, f4, f3]
              grind
            have f6 := Nat.eq_of_mul_eq_mul_left hP f5
            rw [← e1, ← e2]
            have q1 : x * (g * b) = g * (x * b) := by grind
            have q2 : g * a * y = g * (a * y) := by grind
            rw [q1, q2, f6]

theorem good_init : ∀ {zs : List Int} {d : Int}, good (zs ++ [d]) = true → good zs = true
  | [], _, _ => rfl
  | x :: xs, d, h => by
    rw [List.cons_append, good] at h
    simp only [Bool.and_eq_true] at h
    have h2 := good_init h.2
    rw [good, h.1.1, h2]
    cases xs with
    | nil => rfl
    | cons y ys =>
      have h3 := h.1.2
      rw [List.cons_append, under] at h3
      rw [under, h3]
      rfl
/-- The sum of units, and what it is without the last. -/
structure Added (zs : List Int) (x y : Nat) : Prop where
  units : isUnits zs = true
  x9 : x ≤ 1000000000
  y9 : y ≤ 1000000000
  cop : Nat.gcd x y = 1
  few : x ≤ 8 * y
  rest : 1 ≤ zs.length → ∃ u l d : Nat, dropAt zs (zs.length - 1) = zs.take (zs.length - 1) ∧ isUnits (zs.take (zs.length - 1)) = true ∧ unitsSum (zs.take (zs.length - 1)) = ((u : Int), (l : Int), true) ∧ nth zs (zs.length - 1) = d ∧ u ≤ 1000000000 ∧ l ≤ 1000000000 ∧ d ≤ 1000000000 ∧ (u * d + l) * y = x * l * d
theorem unitsSum_told {zs : List Int} (h : isUnits zs = true) : unitsSum zs = (0, 0, false) ∨ ∃ x y : Nat, unitsSum zs = ((x : Int), (y : Int), true) ∧ Added zs x y := by
  obtain ⟨hg, h8⟩ := isUnits_parts h
  rw [unitsSum_yes h]
  rcases usum_bd hg with e | ⟨x, y, e, hy, hx9, hy9, hc⟩
  · exact .inl e
  · refine .inr ⟨x, y, e, h, hx9, hy9, hc, ?_, ?_⟩
    · have hcr := usum_cross e
      have hP := prodU_pos (good_pos hg)
      have hS := sumU_le (good_pos hg)
      generalize prodU zs = P at *
      generalize sumU zs = S at *
      have h1 : S ≤ 8 * P := Nat.le_trans hS (Nat.mul_le_mul_right P h8)
      have h2 : P * x ≤ P * (8 * y) := by
        have q1 : P * x = x * (1 * P) := by grind
        have q2 : y * (0 * P + 1 * S) = y * S := by grind
        have q3 : P * (8 * y) = y * (8 * P) := by grind
        rw [q1, hcr, q2, q3]
        exact Nat.mul_le_mul_left y h1
      exact Nat.le_of_mul_le_mul_left h2 hP
    · intro h1
      obtain ⟨d, hd⟩ : ∃ d : Nat, nth zs (zs.length - 1) = d := by
        have := good_mem hg _ (nth_mem zs (zs.length - 1) (by omega))
        exact ⟨(nth zs (zs.length - 1)).toNat, by omega⟩
      have hs : zs = zs.take (zs.length - 1) ++ [(d : Int)] := by
        have h2 : zs.drop (zs.length - 1) = [(d : Int)] := by
          rw [drop_cons' (by omega), hd, show zs.length - 1 + 1 = zs.length by omega, List.drop_length]
        rw [← h2, List.take_append_drop]
      have hgi : good (zs.take (zs.length - 1)) = true := by
        rw [hs] at hg
        exact good_init hg
      have hli : (zs.take (zs.length - 1)).length ≤ 8 := by rw [List.length_take]; omega
      have hd9 := good_mem hg _ (nth_mem zs (zs.length - 1) (by omega))
      rw [hs] at e
      obtain ⟨u, l, e1, hx, hyy⟩ := usum_snoc e
      have hu := isUnits_yes hgi hli
      rcases usum_bd hgi with e' | ⟨u', l', e', hl1, hu9, hl9, _⟩
      · rw [e'] at e1
        injection e1 with _ e2
        injection e2 with _ e2
        cases e2
      · rw [e'] at e1
        injection e1 with a1 e2
        injection e2 with a2 e2
        have b1 : u' = u := by omega
        have b2 : l' = l := by omega
        subst b1 b2
        refine ⟨u', l', d, ?_, hu, (unitsSum_yes hu).trans e', hd, hu9, hl9, by omega, ?_⟩
        · rw [dropAt, show zs.length - 1 + 1 = zs.length by omega, List.drop_length, List.append_nil]
        · have := low_cross (u' * d + l') (l' * d)
          rw [← hx, ← hyy] at this
          rw [← this, Nat.mul_assoc]
end Go.Proofs.Ytgdeaochfmakbaa
