
/-
  Plain counting of the ways in which rods show digits. No program text is walked here.
-/
import Derived.Test.YthgecmdmoghmpaaBase
namespace Go.Proofs.Ythgecmdmoghmpaa
open Go.RowKit

/-- A rod (its sides) by its index. -/
def rod (rs : List (List Int)) (i : Nat) : List Int := rs.getD i []
theorem rod_of (rs : List (List Int)) (i : Nat) (h : i < rs.length) : rod rs i = rs[i] := by simp [rod, h]
theorem rod_mem (rs : List (List Int)) (i : Nat) (h : i < rs.length) : rod rs i ∈ rs := by
  rw [rod_of rs i h]
  exact List.getElem_mem h
theorem rod_snoc {rs : List (List Int)} {r : List Int} {i : Nat} (h : i < rs.length) : rod (rs ++ [r]) i = rod rs i := by
  rw [rod_of _ _ (by simp; omega), rod_of _ _ h, List.getElem_append_left h]
/-- Whether a number stands on a rod. -/
def hasB : List Int → Int → Bool
  | [], _ => false
  | x :: xs, d => x == d || hasB xs d
theorem hasB_drop {zs : List Int} {k : Nat} {d : Int} (h : k < zs.length) : hasB (zs.drop k) d = (nth zs k == d || hasB (zs.drop (k + 1)) d) := by
  rw [List.drop_eq_getElem_cons h, nth_of zs k h]
  rfl
theorem hasB_end {zs : List Int} {d : Int} : hasB (zs.drop zs.length) d = false := by simp [hasB]

/-- All are digits. -/
def dgs : List Int → Bool
  | [] => true
  | x :: xs => inB x 0 9 && dgs xs
theorem dgs_mem : ∀ {zs : List Int}, dgs zs = true → ∀ x ∈ zs, 0 ≤ x ∧ x ≤ 9
  | [], _, x, h => by simp at h
  | y :: ys, h, x, hx => by
    rw [dgs] at h
    simp only [Bool.and_eq_true] at h
    rcases List.mem_cons.1 hx with rfl | hx
    · exact inB_true h.1
    · exact dgs_mem h.2 x hx
theorem dgs_drop {zs : List Int} {k : Nat} (h : k < zs.length) : dgs (zs.drop k) = (inB (nth zs k) 0 9 && dgs (zs.drop (k + 1))) := by
  rw [List.drop_eq_getElem_cons h, nth_of zs k h]
  rfl
def rodOk (s : List Int) : Bool := decide ((s.length : Int) = 4) && dgs s
def rodsOk : List (List Int) → Bool
  | [] => true
  | r :: rs => rodOk r && rodsOk rs
def caseOk (rs : List (List Int)) : Bool := rodsOk rs && decide ((rs.length : Int) ≤ 10)
theorem rodsOk_drop {rs : List (List Int)} {k : Nat} (h : k < rs.length) : rodsOk (rs.drop k) = (rodOk (rod rs k) && rodsOk (rs.drop (k + 1))) := by
  rw [List.drop_eq_getElem_cons h, rod_of rs k h]
  rfl
theorem rodsOk_mem : ∀ {rs : List (List Int)}, rodsOk rs = true → ∀ r ∈ rs, r.length = 4 ∧ dgs r = true
  | [], _, r, h => by simp at h
  | y :: ys, h, r, hr => by
    rw [rodsOk] at h
    simp only [Bool.and_eq_true] at h
    rcases List.mem_cons.1 hr with rfl | hr
    · have := h.1
      simp only [rodOk, Bool.and_eq_true, decide_eq_true_eq] at this
      exact ⟨by omega, this.2⟩
    · exact rodsOk_mem h.2 r hr
theorem rodsOk_snoc : ∀ {rs : List (List Int)} {r : List Int}, rodsOk rs = true → rodOk r = true → rodsOk (rs ++ [r]) = true
  | [], r, _, h => by simp [rodsOk, h]
  | y :: ys, r, h, hr => by
    rw [rodsOk] at h
    simp only [Bool.and_eq_true] at h
    rw [List.cons_append, rodsOk, h.1, rodsOk_snoc h.2 hr]
    rfl
theorem caseOk_parts {rs : List (List Int)} (h : caseOk rs = true) : rs.length ≤ 10 ∧ ∀ r ∈ rs, r.length = 4 ∧ dgs r = true := by
  simp only [caseOk, Bool.and_eq_true, decide_eq_true_eq] at h
  exact ⟨by omega, rodsOk_mem h.1⟩
theorem caseOk_long {rs : List (List Int)} (h : 10 < rs.length) : caseOk rs = false := by
  have : decide ((rs.length : Int) ≤ 10) = false := decide_eq_false (by omega)
  rw [caseOk, this, Bool.and_false]
theorem caseOk_short {rs : List (List Int)} (h : rs.length ≤ 10) : caseOk rs = rodsOk rs := by
  have : decide ((rs.length : Int) ≤ 10) = true := decide_eq_true (by omega)
  rw [caseOk, this, Bool.and_true]
theorem caseOk_bad {rs : List (List Int)} (h : rodsOk rs = false) : caseOk rs = false := by rw [caseOk, h, Bool.false_and]

/-- One rod more is used. -/
def use (U : Nat → Bool) (i : Nat) : Nat → Bool := fun j => j == i || U j
def unuse (U : Nat → Bool) (i : Nat) : Nat → Bool := fun j => !(j == i) && U j
theorem use_at (U : Nat → Bool) (i : Nat) : use U i i = true := by simp [use]
theorem use_ne (U : Nat → Bool) {i j : Nat} (h : j ≠ i) : use U i j = U j := by simp [use, h]
/-- The ways over the first k rods for a digit, if f tells the ways for the rest. -/
def waysTo (rs : List (List Int)) (f : (Nat → Bool) → Nat) (d : Int) (U : Nat → Bool) : Nat → Nat
  | 0 => 0
  | k + 1 => waysTo rs f d U k + if U k || !hasB (rod rs k) d then 0 else f (use U k)
/-- In how many ways unused rods show digits. -/
def ways (rs : List (List Int)) : List Int → (Nat → Bool) → Nat
  | [], _ => 1
  | d :: ds, U => waysTo rs (ways rs ds) d U rs.length
theorem waysTo_skip {rs : List (List Int)} {f : (Nat → Bool) → Nat} {d : Int} {U : Nat → Bool} {k : Nat} (h : (U k || !hasB (rod rs k) d) = true) : waysTo rs f d U (k + 1) = waysTo rs f d U k := by
  rw [waysTo, if_pos h, Nat.add_zero]
theorem waysTo_take {rs : List (List Int)} {f : (Nat → Bool) → Nat} {d : Int} {U : Nat → Bool} {k : Nat} (h : (U k || !hasB (rod rs k) d) = false) : waysTo rs f d U (k + 1) = waysTo rs f d U k + f (use U k) := by
  rw [waysTo, if_neg (by simp [h])]
theorem waysTo_le {rs : List (List Int)} {f : (Nat → Bool) → Nat} {d : Int} {U : Nat → Bool} {M : Nat} (h : ∀ V, f V ≤ M) : ∀ k, waysTo rs f d U k ≤ k * M
  | 0 => by simp [waysTo]
  | k + 1 => by
    have ih := waysTo_le (rs := rs) (d := d) (U := U) h k
    have := h (use U k)
    rw [waysTo, Nat.add_mul, Nat.one_mul]
    split <;> omega
theorem ways_le (rs : List (List Int)) : ∀ (ds : List Int) (U : Nat → Bool), ways rs ds U ≤ rs.length ^ ds.length
  | [], _ => by simp [ways]
  | d :: ds, U => by
    have := waysTo_le (rs := rs) (d := d) (U := U) (ways_le rs ds) rs.length
    rw [ways, List.length_cons, Nat.pow_succ, Nat.mul_comm]
    exact this
theorem ways_bd {rs : List (List Int)} {ds : List Int} {U : Nat → Bool} (h1 : rs.length ≤ 10) (h2 : ds.length ≤ 6) : ways rs ds U ≤ 1000000 := by
  have h := ways_le rs ds U
  have h3 : rs.length ^ ds.length ≤ 10 ^ ds.length := Nat.pow_le_pow_left h1 _
  have h4 : 10 ^ ds.length ≤ 10 ^ 6 := Nat.pow_le_pow_right (by omega) h2
  omega
theorem waysTo_mono {rs : List (List Int)} {f : (Nat → Bool) → Nat} {d : Int} {U : Nat → Bool} {k : Nat} : ∀ {n : Nat}, k ≤ n → waysTo rs f d U k ≤ waysTo rs f d U n
  | 0, h => by rw [show k = 0 by omega]; exact Nat.le_refl _
  | n + 1, h => by
    by_cases e : k = n + 1
    · rw [e]; exact Nat.le_refl _
    · have := waysTo_mono (rs := rs) (f := f) (d := d) (U := U) (show k ≤ n by omega)
      rw [waysTo]
      omega
theorem waysTo_pos {rs : List (List Int)} {f : (Nat → Bool) → Nat} {d : Int} {U : Nat → Bool} : ∀ {n : Nat}, 0 < waysTo rs f d U n ↔ ∃ i, i < n ∧ U i = false ∧ hasB (rod rs i) d = true ∧ 0 < f (use U i)
  | 0 => by simp [waysTo]
  | n + 1 => by
    have ih := waysTo_pos (rs := rs) (f := f) (d := d) (U := U) (n := n)
    constructor
    · intro h
      by_cases h1 : 0 < waysTo rs f d U n
      · obtain ⟨i, a, b⟩ := ih.1 h1
        exact ⟨i, by omega, b⟩
      · rw [waysTo] at h
        split at h
        · omega
        · rename_i hc
          simp at hc
          exact ⟨n, by omega, hc.1, hc.2, by omega⟩
    · rintro ⟨i, a, b, c, e⟩
      rw [waysTo]
      by_cases h1 : i = n
      · subst h1
        simp only [b, c, Bool.not_true, Bool.or_self, Bool.false_eq_true, if_false]
        omega
      · have := ih.2 ⟨i, by omega, b, c, e⟩
        omega
theorem ways_cons {rs : List (List Int)} {d : Int} {ds : List Int} {U : Nat → Bool} : 0 < ways rs (d :: ds) U ↔ ∃ i, i < rs.length ∧ U i = false ∧ hasB (rod rs i) d = true ∧ 0 < ways rs ds (use U i) := by
  rw [ways]
  exact waysTo_pos
/-- A part in front is shown too. -/
theorem ways_front {rs : List (List Int)} {es : List Int} : ∀ {ds : List Int} {U : Nat → Bool}, 0 < ways rs (ds ++ es) U → 0 < ways rs ds U
  | [], _, _ => by simp [ways]
  | d :: ds, U, h => by
    rw [List.cons_append] at h
    obtain ⟨i, a, b, c, e⟩ := ways_cons.1 h
    exact ways_cons.2 ⟨i, a, b, c, ways_front e⟩
theorem ways_take {rs : List (List Int)} {ds : List Int} {U : Nat → Bool} (k : Nat) (h : 0 < ways rs ds U) : 0 < ways rs (ds.take k) U := by
  rw [← List.take_append_drop k ds] at h
  exact ways_front h
/-- A rod more does no harm. -/
theorem ways_more {rs : List (List Int)} {r : List Int} : ∀ {ds : List Int} {U : Nat → Bool}, 0 < ways rs ds U → 0 < ways (rs ++ [r]) ds U
  | [], _, _ => by simp [ways]
  | d :: ds, U, h => by
    obtain ⟨i, a, b, c, e⟩ := ways_cons.1 h
    exact ways_cons.2 ⟨i, by simp; omega, b, by rw [rod_snoc a]; exact c, ways_more e⟩

/-- How many of the first indexes pass. -/
def cnt (p : Nat → Bool) : Nat → Nat
  | 0 => 0
  | k + 1 => cnt p k + if p k then 1 else 0
theorem cnt_le (p : Nat → Bool) : ∀ n, cnt p n ≤ n
  | 0 => Nat.le_refl _
  | n + 1 => by
    have := cnt_le p n
    rw [cnt]
    split <;> omega
theorem cnt_same {p q : Nat → Bool} : ∀ {n : Nat}, (∀ j, j < n → p j = q j) → cnt p n = cnt q n
  | 0, _ => rfl
  | n + 1, h => by rw [cnt, cnt, cnt_same (fun j hj => h j (by omega)), h n (by omega)]
theorem cnt_one {p q : Nat → Bool} {i : Nat} (h1 : p i = false) (h2 : q i = true) (h3 : ∀ j, j ≠ i → q j = p j) : ∀ {n : Nat}, i < n → cnt q n = cnt p n + 1
  | 0, h => by omega
  | n + 1, h => by
    by_cases e : i = n
    · subst e
      rw [cnt, cnt, cnt_same (fun j hj => h3 j (by omega)), h1, h2]
      simp
    · rw [cnt, cnt, cnt_one h1 h2 h3 (show i < n by omega), h3 n (by omega)]
      omega
theorem cnt_find {p q : Nat → Bool} : ∀ {n : Nat}, cnt q n < cnt p n → ∃ i, i < n ∧ p i = true ∧ q i = false
  | 0, h => by simp [cnt] at h
  | n + 1, h => by
    by_cases h1 : cnt q n < cnt p n
    · obtain ⟨i, a, b⟩ := cnt_find h1
      exact ⟨i, by omega, b⟩
    · rw [cnt, cnt] at h
      cases hp : p n
      · rw [hp] at h
        simp at h
        omega
      · cases hq : q n
        · exact ⟨n, by omega, hp, hq⟩
        · rw [hp, hq] at h
          simp at h
          omega
theorem cnt_mono {p q : Nat → Bool} (h : ∀ j, p j = true → q j = true) : ∀ n, cnt p n ≤ cnt q n
  | 0 => Nat.le_refl _
  | n + 1 => by
    have := cnt_mono h n
    rw [cnt, cnt]
    cases hp : p n
    · simp; omega
    · rw [h n hp]; simp; omega
/-- The rods that have a digit. -/
def count (rs : List (List Int)) (d : Int) : Nat := cnt (fun i => hasB (rod rs i) d) rs.length
theorem count_le (rs : List (List Int)) (d : Int) : count rs d ≤ rs.length := cnt_le _ _
/-- As many digits as unused rods at most. -/
theorem ways_len {rs : List (List Int)} : ∀ {ds : List Int} {U : Nat → Bool}, 0 < ways rs ds U → ds.length + cnt U rs.length ≤ rs.length
  | [], U, _ => by simpa using cnt_le U rs.length
  | d :: ds, U, h => by
    obtain ⟨i, a, b, c, e⟩ := ways_cons.1 h
    have := ways_len e
    rw [cnt_one b (use_at U i) (fun j hj => use_ne U hj) a] at this
    rw [List.length_cons]
    omega
/-- If each digit is on rods enough, the digits are shown. -/
theorem ways_full {rs : List (List Int)} : ∀ {ds : List Int} {U : Nat → Bool}, (∀ d ∈ ds, ds.length + cnt U rs.length ≤ count rs d) → 0 < ways rs ds U
  | [], U, _ => by simp [ways]
  | d :: ds, U, h => by
    have h1 := h d (by simp)
    rw [List.length_cons] at h1
    obtain ⟨i, a, b, c⟩ := cnt_find (p := fun i => hasB (rod rs i) d) (q := U) (n := rs.length) (by unfold count at h1; omega)
    refine ways_cons.2 ⟨i, a, c, b, ways_full fun x hx => ?_⟩
    have h2 := h x (by simp [hx])
    rw [cnt_one c (use_at U i) (fun j hj => use_ne U hj) a]
    rw [List.length_cons] at h2
    omega
/-- One digit many times wants as many rods that have it. -/
theorem ways_same {rs : List (List Int)} {d : Int} : ∀ {m : Nat} {U : Nat → Bool}, 0 < ways rs (List.replicate m d) U → m + cnt (fun i => U i && hasB (rod rs i) d) rs.length ≤ count rs d
  | 0, U, _ => by
    rw [Nat.zero_add]
    exact cnt_mono (fun j hj => by simp at hj; exact hj.2) _
  | m + 1, U, h => by
    rw [List.replicate_succ] at h
    obtain ⟨i, a, b, c, e⟩ := ways_cons.1 h
    have := ways_same e
    rw [cnt_one (p := fun j => U j && hasB (rod rs j) d) (i := i) (by simp [b]) (by simp [use_at, c]) (fun j hj => by simp [use_ne U hj]) a] at this
    omega
/-- No rod is used. -/
def free : Nat → Bool := fun _ => false
theorem cnt_free : ∀ n, cnt free n = 0
  | 0 => rfl
  | n + 1 => by rw [cnt, cnt_free n]; rfl
/-- The least count of the first digits. -/
def mostTo (rs : List (List Int)) : Nat → Nat
  | 0 => 6
  | k + 1 => min (mostTo rs k) (count rs (k : Int))
theorem mostTo_le (rs : List (List Int)) : ∀ k, mostTo rs k ≤ 6
  | 0 => Nat.le_refl _
  | k + 1 => by
    have := mostTo_le rs k
    rw [mostTo]
    omega
theorem mostTo_count {rs : List (List Int)} : ∀ {k d : Nat}, d < k → mostTo rs k ≤ count rs (d : Int)
  | 0, d, h => by omega
  | k + 1, d, h => by
    rw [mostTo]
    by_cases e : d = k
    · subst e
      exact Nat.min_le_right _ _
    · have := mostTo_count (rs := rs) (show d < k by omega)
      omega
theorem mostTo_hit {rs : List (List Int)} : ∀ {k : Nat}, mostTo rs k = 6 ∨ ∃ d, d < k ∧ mostTo rs k = count rs (d : Int)
  | 0 => .inl rfl
  | k + 1 => by
    rw [mostTo]
    by_cases h : mostTo rs k ≤ count rs (k : Int)
    · rw [Nat.min_eq_left h]
      rcases mostTo_hit (rs := rs) (k := k) with e | ⟨d, a, b⟩
      · exact .inl e
      · exact .inr ⟨d, by omega, b⟩
    · rw [Nat.min_eq_right (by omega)]
      exact .inr ⟨k, by omega, rfl⟩
def caseMost (rs : List (List Int)) : Int := if caseOk rs then ((mostTo rs 10 : Nat) : Int) else -1
/-- The counts as far as the first k rods. -/
def countTo (rs : List (List Int)) (d : Int) (k : Nat) : Nat := cnt (fun i => hasB (rod rs i) d) k
theorem countTo_le (rs : List (List Int)) (d : Int) (k : Nat) : countTo rs d k ≤ k := cnt_le _ _
theorem countTo_yes {rs : List (List Int)} {d : Int} {k : Nat} (h : hasB (rod rs k) d = true) : countTo rs d (k + 1) = countTo rs d k + 1 := by simp [countTo, cnt, h]
theorem countTo_no {rs : List (List Int)} {d : Int} {k : Nat} (h : hasB (rod rs k) d = false) : countTo rs d (k + 1) = countTo rs d k := by simp [countTo, cnt, h]
/-- The most digits that are always shown. -/
theorem most_shows {rs : List (List Int)} {ds : List Int} (h : ds.length = mostTo rs 10) (hd : ∀ d ∈ ds, 0 ≤ d ∧ d ≤ 9) : 0 < ways rs ds free := by
  refine ways_full fun d hdm => ?_
  have h1 := hd d hdm
  obtain ⟨n, rfl⟩ : ∃ n : Nat, d = n := ⟨d.toNat, by omega⟩
  have := mostTo_count (rs := rs) (k := 10) (d := n) (by omega)
  rw [cnt_free]
  omega
theorem most_misses {rs : List (List Int)} (h : mostTo rs 10 ≠ 6) : ∃ d : Nat, d ≤ 9 ∧ ways rs (List.replicate (mostTo rs 10 + 1) (d : Int)) free = 0 := by
  rcases mostTo_hit (rs := rs) (k := 10) with e | ⟨d, a, b⟩
  · exact absurd e h
  · refine ⟨d, by omega, ?_⟩
    rcases Nat.eq_zero_or_pos (ways rs (List.replicate (mostTo rs 10 + 1) (d : Int)) free) with e | e
    · exact e
    · have := ways_same e
      omega
end Go.Proofs.Ythgecmdmoghmpaa
