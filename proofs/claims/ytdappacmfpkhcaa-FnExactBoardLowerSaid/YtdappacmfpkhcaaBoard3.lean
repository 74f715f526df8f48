
/-
  Contracts of the functions that lay the reduced board of a value, and count its counters. No condition.
-/
import Derived.Test.YtdappacmfpkhcaaBoard2
import Derived.Test.YtdappacmfpkhcaaOwn
namespace Go.Proofs.Ytdappacmfpkhcaa
open Go.RowKit

/-- The worth of a place. -/
def worth : Nat → Nat
  | 0 => 1
  | p + 1 => worth p * (if p % 2 = 0 then 5 else 2)
/-- The reduced board of a value, from the place 0 on. -/
def redu (v : Nat) : List Int := (List.range 10).map fun p => ((v / worth p % (if p % 2 = 0 then 5 else 2) : Nat) : Int)
theorem worth_pos (p : Nat) : 1 ≤ worth p := by
  induction p with
  | zero => decide
  | succ p ih =>
    rw [worth]
    split <;> omega
theorem worth_le : ∀ p, p ≤ 9 → worth p ≤ 50000 := by decide
theorem redu_eq (v : Nat) : redu v = [((v % 5 : Nat) : Int), ((v / 5 % 2 : Nat) : Int), ((v / 10 % 5 : Nat) : Int), ((v / 50 % 2 : Nat) : Int), ((v / 100 % 5 : Nat) : Int), ((v / 500 % 2 : Nat) : Int), ((v / 1000 % 5 : Nat) : Int), ((v / 5000 % 2 : Nat) : Int), ((v / 10000 % 5 : Nat) : Int), ((v / 50000 % 2 : Nat) : Int)] := by
  simp [redu, List.range, List.range.loop, worth]
theorem redu_len (v : Nat) : (redu v).length = 10 := by simp [redu]
def boardOf (v : Int) : List Int × Bool := if inB v 0 99999 then (redu v.toNat, true) else ([], false)
def fewest (v : Int) : Int := if inB v 0 99999 then total (redu v.toNat) else -1
theorem boardOf_bd (v : Int) : (boardOf v).1.length ≤ 1048576 := by
  unfold boardOf
  split
  · simp [redu_len]
  · simp
theorem boardOf_no {v : Int} (h : inB v 0 99999 = false) : boardOf v = ([], false) := by simp [boardOf, h]
theorem boardOf_yes {n : Nat} (h : n ≤ 99999) : boardOf (n : Int) = (redu n, true) := by
  have : inB (n : Int) 0 99999 = true := inB_mk (by omega) (by omega)
  simp [boardOf, this]
theorem fewest_no {v : Int} (h : inB v 0 99999 = false) : fewest v = -1 := by simp [fewest, h]
theorem fewest_yes {n : Nat} (h : n ≤ 99999) : fewest (n : Int) = total (redu n) := by
  have : inB (n : Int) 0 99999 = true := inB_mk (by omega) (by omega)
  simp [fewest, this]
theorem redu_nth (v : Nat) {p : Nat} (h : p < 10) : nth (redu v) p = ((v / worth p % (if p % 2 = 0 then 5 else 2) : Nat) : Int) := by simp [nth, redu, h]
/-- The board of which the places from t on are laid. -/
def redFrom (v t : Nat) : List Int := List.replicate t 0 ++ (redu v).drop t
theorem redFrom_len (v : Nat) {t : Nat} (h : t ≤ 10) : (redFrom v t).length = 10 := by simp [redFrom, redu_len]; omega
theorem redFrom_ten (v : Nat) : redFrom v 10 = List.replicate 10 0 := by rw [redFrom, List.drop_of_length_le (by rw [redu_len]; omega)]; simp
theorem redFrom_zero (v : Nat) : redFrom v 0 = redu v := by simp [redFrom]
theorem redFrom_set (v t : Nat) (h : t < 10) : (redFrom v (t + 1)).set t (nth (redu v) t) = redFrom v t := by
  have hl : t < (redu v).length := by rw [redu_len]; exact h
  unfold redFrom
  rw [List.replicate_succ', List.append_assoc, List.set_append_right _ _ (by simp), List.drop_eq_getElem_cons hl, nth_of _ _ hl]
  simp
theorem lay_step (v t : Nat) (h : t < 10) : (((v % worth (t + 1)) / worth t : Nat) : Int) = nth (redu v) t ∧ v % worth (t + 1) % worth t = v % worth t := by
  constructor
  · rw [redu_nth v h, worth, Nat.mod_mul_right_div_self]
  · rw [worth]
    exact Nat.mod_mod_of_dvd _ (Nat.dvd_mul_right _ _)
theorem redu_take (v k : Nat) (h : k < 5) : (redu v).take (2 * k + 2) = (redu v).take (2 * k) ++ [((v / 10 ^ k % 5 : Nat) : Int), ((v / 10 ^ k / 5 % 2 : Nat) : Int)] := by
  rw [redu_eq]
  match k, h with
  | 0, _ => simp
  | 1, _ => simp [Nat.div_div_eq_div_mul]
  | 2, _ => simp [Nat.div_div_eq_div_mul]
  | 3, _ => simp [Nat.div_div_eq_div_mul]
  | 4, _ => simp [Nat.div_div_eq_div_mul]
theorem redu_wide (v : Nat) : ∀ d ∈ redu v, 0 ≤ d ∧ d ≤ 100000 := by
  intro d hd
  rw [redu_eq] at hd
  simp only [List.mem_cons, List.not_mem_nil, or_false] at hd
  omega

theorem worthAt_any (w : World) (p : Nat) (hp : p ≤ 9) :
    Calls Try.prog 50 #[.int .i64 (p : Int)] w fun e w' => e = .returned (.int .i64 (worth p : Nat)) ∧ w = w' := by
  go_enter Try.func50, Try.ntmps50
  go_wp2_with fail
  go_loop [3, 4] (fun v i => ∃ k : Nat, k ≤ p ∧ i = .int .i64 k ∧ v = .int .i64 (worth k : Nat)) (fun _ i => p - (intOf i).toNat)
  case atStart => exact ⟨0, Nat.zero_le _, rfl, rfl⟩
  case round =>
    obtain ⟨k, hk, rfl, rfl⟩ := hrel
    have hw1 := worth_pos k
    have hw2 := worth_le k (by omega)
    by_cases hlt : k < p
    · have e := Lib.hid (show ((worth (k + 1) : Nat) : Int) = (worth k : Nat) * full k by
        rw [worth, Int.natCast_mul]
        congr 1
        unfold full
        split <;> rfl)
      have fb := full_bd k
      have hmul : ((worth k : Nat) : Int) * full k ≤ 250000 := by
        have h1 : ((worth k : Nat) : Int) * full k ≤ ((worth k : Nat) : Int) * 5 := Int.mul_le_mul_of_nonneg_left fb.2 (by omega)
        omega
      have hmul0 : 0 ≤ ((worth k : Nat) : Int) * full k := Int.mul_nonneg (by omega) (by omega)
      generalize worth k = W at *
      go_wp2_with fail
      refine (fullAt_any _ _ (by omega)).mono ?_
      rintro e w' ⟨rfl, rfl⟩
      go_wp2_with fail
      go_round
      case rel => exact ⟨k + 1, by omega, by go_num, by rw [e.out]⟩
      case measure => simp [intOf]; omega
    · obtain rfl : k = p := by omega
      go_wp2_with fail
      go_ret
      exact ⟨rfl, rfl⟩

theorem list_any (w : World) (zs : List Int) (hl : zs.length = 10) :
    Calls Try.prog 41 #[.agg (AV zs)] w (Fresh w zs) := by
  obtain ⟨i0, hi, hz0, hz1, hz2⟩ := info_parts int_info
  have HL := Lib.hid hl
  have l1 : zs.length ≤ 10 := by omega
  have l2 : 10 ≤ zs.length := by omega
  have HN := Lib.hid (Arr.new w hl)
  clear hl
  go_enter Try.func41, Try.ntmps41
  go_wp2_with (first | (refine wpList_make_own _ rfl _ _ 22 rfl w.heap.size 3 i0 (.int .i64 0) 1 Try.underlying22 hi hz0 hz1 .i64 .i64 _ 10 rfl rfl rfl (by rw [hz2]; omega) (by unfold maxLen; omega) (by simp) ?_; intro w1 hown hgrow; have A1 := Lib.hid (show Arr w1 w.heap.size zs from ⟨HN.out.1, (hgrow.block w.heap.size (by simp) (fun h => by cases h)).trans HN.out.2⟩)) | (refine wpList_get_arr rfl _ rfl w.heap.size zs rfl A1.out ?_))
  have hb : Below w.heap.size w w1 := ((Below.refl _ _).alloc (Nat.le_refl _) _).grown hgrow (by simp) (fun k hk => by cases hk)
  have ho : Own w1 w.heap.size w1.heap.size (.slice (some ⟨w.heap.size + 1, 0, none⟩) 0 10) [] := Own.of (by rw [IV_nil]; simpa using hown)
  have HB := Lib.hid hb
  have HO := Lib.hid ho
  clear hb ho hown hgrow
  go_loopw [3, 8] (fun s i wr => ∃ k c : Nat, ∃ x : Option Addr, k ≤ zs.length ∧ s = .slice x (zs.take k).length c ∧ i = .int .i64 k ∧ Own wr w.heap.size wr.heap.size (.slice x (zs.take k).length c) (zs.take k) ∧ Below w.heap.size w wr) (fun _ i _ => zs.length - (intOf i).toNat)
  case atStart => exact ⟨0, 10, _, Nat.zero_le _, rfl, rfl, HO.out, HB.out⟩
  case round =>
    obtain ⟨k, c, x, hk, rfl, rfl, ho, hb⟩ := hrel
    have hs := hb.size
    have HB := Lib.hid hb
    clear hb
    by_cases hlt : k < 10
    · have hx := idx_arr zs HL.out k hlt
      have T := Lib.hid (take_snoc zs k (by omega))
      have tl : (zs.take k).length ≤ 10 := by rw [List.length_take]; omega
      generalize zs.take k = out at *
      go_wp2_with (at_builtin; refine wpList_push rfl _ _ rfl wr w.heap.size wr.heap.size (nth zs k) out x c rfl rfl ho hs (by omega) ?_; intro x' c' w2 ho2 hb2 hs2)
      have HO2 := Lib.hid ho2
      have HB2 := Lib.hid (HB.out.trans hb2)
      clear ho ho2 hb2
      go_wp2_with fail
      go_roundw
      case rel =>
        refine ⟨k + 1, c', x', by omega, ?_, by go_num, ?_, HB2.out⟩
        · rw [T.out]; simp
        · rw [T.out]
          have := HO2.out
          simpa using this
      case measure => simp [intOf]; omega
    · have e : zs.take k = zs := List.take_of_length_le (by omega)
      rw [e] at ho
      have HO := Lib.hid ho
      clear ho
      rw [e]
      clear e
      go_wp2_with fail
      go_ret
      exact ⟨x, c, rfl, HO.out, HB.out⟩

theorem mod_ten {n : Nat} (h : n ≤ 99999) : n % worth 10 = n := by
  have : worth 10 = 100000 := by decide
  exact Nat.mod_eq_of_lt (by omega)
/-- What layReduced hands back. -/
def laidRed (v : Int) : List Int := if inB v 0 99999 then redu v.toNat else List.replicate 10 0
theorem laidRed_len (v : Int) : (laidRed v).length = 10 := by
  unfold laidRed
  split
  · exact redu_len _
  · simp

theorem layReduced_no (w : World) (v : Int) (h : inB v 0 99999 = false) :
    Calls Try.prog 39 #[.int .i64 v] w fun e w' => e = .returned (.tuple #[.agg (AV (List.replicate 10 0)), .bool false]) ∧ Below w.heap.size w w' := by
  rcases inB_false h with h1 | h1
  all_goals
    clear h
    go_enter Try.func39, Try.ntmps39
    go_wp2_with fail
    have hA : Arr ((w.alloc (.cells (AV (List.replicate 10 0)) 41)).alloc (.cells (AV (List.replicate 10 0)) 41)) w.heap.size (List.replicate 10 0) := (Arr.new w (by simp)).alloc _
    refine bodyPost_ret (results_arr_bool Try.results39 _ _ rfl hA) rfl ⟨rfl, ((Below.refl _ _).alloc (Nat.le_refl _) _).alloc (by simp) _⟩

theorem layReduced_yes (w : World) (n : Nat) (h : n ≤ 99999) :
    Calls Try.prog 39 #[.int .i64 (n : Int)] w fun e w' => e = .returned (.tuple #[.agg (AV (redu n)), .bool true]) ∧ Below w.heap.size w w' := by
  go_enter Try.func39, Try.ntmps39
  go_wp2_with fail
  have hA : Arr ((w.alloc (.cells (AV (List.replicate 10 0)) 41)).alloc (.cells (AV (List.replicate 10 0)) 41)) w.heap.size (List.replicate 10 0) := (Arr.new w (by simp)).alloc _
  have hC : Arr ((w.alloc (.cells (AV (List.replicate 10 0)) 41)).alloc (.cells (AV (List.replicate 10 0)) 41)) (w.heap.size + 1) (redFrom n 10) := by
    have := Arr.new (w.alloc (.cells (AV (List.replicate 10 0)) 41)) (zs := List.replicate 10 0) (by simp)
    rw [redFrom_ten]
    simpa using this
  have HA := Lib.hid hA
  have HC := Lib.hid hC
  clear hA hC
  go_loopw [0, 5] (fun y i wr => ∃ t : Nat, t ≤ 10 ∧ i = .int .i64 ((t : Int) - 1) ∧ y = .int .i64 (n % worth t : Nat) ∧ Arr wr w.heap.size (List.replicate 10 0) ∧ Arr wr (w.heap.size + 1) (redFrom n t) ∧ Below w.heap.size w wr) (fun _ i _ => (intOf i + 1).toNat)
  case atStart => exact ⟨10, Nat.le_refl _, rfl, by rw [mod_ten h], HA.out, HC.out, ((Below.refl _ _).alloc (Nat.le_refl _) _).alloc (by simp) _⟩
  case round =>
    obtain ⟨t, ht, rfl, rfl, ha, hc, hb⟩ := hrel
    have HA2 := Lib.hid ha
    have HB2 := Lib.hid hb
    by_cases h0 : t = 0
    · subst h0
      rw [redFrom_zero] at hc
      have HC2 := Lib.hid hc
      clear ha hc hb
      go_wp2_with (first | (refine wpList_get_arr rfl _ rfl (w.heap.size + 1) (redu n) rfl HC2.out ?_) | (refine wpList_store_row rfl 41 _ _ rfl w.heap.size (AV (redu n)) rfl rfl 41 (AV (List.replicate 10 0)) HA2.out.2 (arr_size (redu_len n)) (by rw [AV_size, AV_size, redu_len]; rfl) (AV_one _) ?_))
      refine bodyPost_ret (results_arr_bool Try.results39 _ _ rfl (HA2.out.row (redu n) (redu_len n))) rfl ⟨rfl, below_setRow' HB2.out (Nat.le_refl _) _⟩
    · obtain ⟨t, rfl⟩ : ∃ t', t = t' + 1 := ⟨t - 1, by omega⟩
      obtain ⟨s1, s2⟩ := lay_step n t (by omega)
      have S1 := Lib.hid s1
      have S2 := Lib.hid s2
      have hw1 := worth_pos t
      have hm : n % worth (t + 1) ≤ n := Nat.mod_le _ _
      generalize n % worth (t + 1) = y at *
      have hyw : y / worth t ≤ y := Nat.div_le_self _ _
      have c1 := hc.cell (i := t) (by omega)
      have f1 := hc.frozen t
      have HC2 := Lib.hid hc
      clear ha hc hb s1 s2
      go_wp2_with fail
      refine (worthAt_any _ t (by omega)).mono ?_
      rintro e w' ⟨rfl, rfl⟩
      have hd0 : (0 : Int) ≤ (y : Int) / (worth t : Nat) := Int.ediv_nonneg (by omega) (by omega)
      go_wp2_with fail
      refine (worthAt_any _ t (by omega)).mono ?_
      rintro e w' ⟨rfl, rfl⟩
      go_wp2_with fail
      go_roundw
      case rel =>
        refine ⟨t, by omega, by go_num, by rw [← S2.out]; go_num, HA2.out.far (by simp) _, ?_, HB2.out.setCell (by simp) _⟩
        have := HC2.out.set_ t (nth (redu n) t)
        rw [redFrom_set n t (by omega), ← S1.out] at this
        exact this
      case measure => (simp [intOf]) <;> omega
end Go.Proofs.Ytdappacmfpkhcaa
