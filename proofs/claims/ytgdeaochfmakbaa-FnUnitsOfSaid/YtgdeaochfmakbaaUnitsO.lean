
/-
  Contracts of the functions that find the greedy units of a fraction. No condition.
-/
import Derived.Test.YtgdeaochfmakbaaUnitsQ
import Derived.Test.YtgdeaochfmakbaaOwn
namespace Go.Proofs.Ytgdeaochfmakbaa
open Go.RowKit

theorem own_empty (W : World) (lo : Nat) (h : lo ≤ W.heap.size) : Own (W.alloc (.cells #[] 3)) lo (W.heap.size + 1) (.slice (some ⟨W.heap.size, 0, none⟩) 0 0) [] := by
  have h1 : (W.alloc (.cells #[] 3)).ownsRow lo 3 1 (.slice (some ⟨W.heap.size, 0, none⟩) 0 0) 0 [] := World.ownsRow_lit W #[] 0 h (by unfold maxLen; omega) rfl
  have := Own.of (zs := []) h1
  simpa using this
theorem cdiv_int (l u : Nat) (hu : 1 ≤ u) (hl : 1 ≤ l) : ((l : Int) + (u : Int) - 1) / (u : Int) = ((cdiv l u : Nat) : Int) := by
  have : (l : Int) + (u : Int) - 1 = ((l + u - 1 : Nat) : Int) := by omega
  rw [this]
  rfl
theorem low_lt {u l : Nat} (h : u < l) : lowU u l < lowL u l := by
  have e1 := lowU_mul u l
  have e2 := lowL_mul u l
  exact Nat.lt_of_mul_lt_mul_left (a := Nat.gcd u l) (by omega)
/-- The numbers of a step. -/
theorem step_nums {u l : Nat} (hu : 1 ≤ u) (hu4 : u ≤ 10000) (hl : 1 ≤ l) (h9 : l ≤ 1000000000) :
    cdiv l u ≤ 1000000000 ∧ u * cdiv l u ≤ 1000010000 ∧ l ≤ u * cdiv l u ∧ l * cdiv l u ≤ 1000000000000000000 ∧ 1 ≤ l * cdiv l u := by
  have h1 := cdiv_le hu hl
  have h2 := cdiv_lo hu hl
  have h3 := cdiv_hi hu hl
  have h4 := cdiv_pos hu hl
  have h5 : l * cdiv l u ≤ 1000000000 * 1000000000 := Nat.mul_le_mul h9 (by omega)
  have h6 : 1 ≤ l * cdiv l u := Nat.mul_pos hl h4
  omega

set_option maxRecDepth 100000 in
set_option maxHeartbeats 400000 in
theorem specUnitsOf_yes (w : World) (u0 l0 : Nat) (h1 : 1 ≤ l0) (h2 : l0 ≤ 10000) (h3 : u0 < l0) (rs : List Int) (ok : Bool) (hr : greedy u0 l0 [] = (rs, ok)) :
    Calls Try.prog 19 #[.int .i64 (u0 : Int), .int .i64 (l0 : Int)] w (FreshOk w rs ok) := by
  have I1 := Lib.hid (show inB (l0 : Int) 1 10000 = true from inB_mk (by omega) (by omega))
  have I2 := Lib.hid (show inB (u0 : Int) 0 ((l0 : Int) - 1) = true from inB_mk (by omega) (by omega))
  have HR := Lib.hid hr
  clear hr
  go_enter Try.func19, Try.ntmps19
  go_wp2_with fail
  refine (l6In_any _ _ _ _).mono ?_
  rintro e w' ⟨rfl, rfl⟩
  rw [I1.out]
  go_wp2_with fail
  refine (l6In_any _ _ _ _).mono ?_
  rintro e w' ⟨rfl, rfl⟩
  rw [I2.out]
  go_wp2_with fail
  go_loopw [0, 1, 6] (fun p q s wr => ∃ u l c : Nat, ∃ x : Option Addr, ∃ out : List Int, u ≤ 10000 ∧ 1 ≤ l ∧ l ≤ 1000000000000000000 ∧ out.length ≤ 8 ∧ p = .int .i64 (u : Int) ∧ q = .int .i64 (l : Int) ∧ s = .slice x out.length c ∧ Own wr w.heap.size wr.heap.size (.slice x out.length c) out ∧ greedy u l out = (rs, ok) ∧ Below w.heap.size w wr) (fun p _ _ _ => (intOf p).toNat)
  case atStart => exact ⟨u0, l0, 0, some ⟨w.heap.size, 0, none⟩, [], by omega, h1, by omega, by simp, rfl, rfl, rfl, by simpa using own_empty w w.heap.size (Nat.le_refl _), HR.out, (Below.refl _ _).alloc (Nat.le_refl _) _⟩
  case round =>
    obtain ⟨u, l, c, x, out, hu4, hl1, hl18, ho8, rfl, rfl, rfl, ho, hgr, hb⟩ := hrel
    have hs := hb.size
    have HB := Lib.hid hb
    have HGR := Lib.hid hgr
    clear hb hgr
    by_cases hu0 : u = 0
    · subst hu0
      have N := HGR.out
      rw [greedy_zero] at N
      injection N with n1 n2
      subst n1 n2
      have HO := Lib.hid ho
      clear ho
      go_wp2_with fail
      go_ret2
      exact ⟨x, c, rfl, HO.out, HB.out⟩
    · have hu : 1 ≤ u := by omega
      have ed := cdiv_int l u hu hl1
      have hdl := cdiv_le hu hl1
      by_cases hbad : 1000000000 < l ∨ out.length = 8
      · have N := HGR.out
        rw [greedy_no hu hbad] at N
        injection N with n1 n2
        subst n1 n2
        have E2 := Lib.hid (own_empty wr w.heap.size hs)
        generalize cdiv l u = d at *
        clear ho
        by_cases hd9 : 1000000000 < d
        · clear hbad
          go_wp2_with fail
          go_ret2
          exact ⟨_, _, rfl, by simpa using E2.out.all, HB.out.alloc hs _⟩
        · by_cases hl9 : 1000000000 < l
          · clear hbad
            go_wp2_with fail
            go_ret2
            exact ⟨_, _, rfl, by simpa using E2.out.all, HB.out.alloc hs _⟩
          · have e8 : ((out.length : Int) == 8) = true := by rw [beq_iff_eq]; omega
            clear hbad
            go_wp2_with fail
            go_ret2
            exact ⟨_, _, rfl, by simpa using E2.out.all, HB.out.alloc hs _⟩
      · have hl9 : l ≤ 1000000000 := by omega
        have ho7 : out.length ≤ 7 := by omega
        have e8 : ((out.length : Int) == 8) = false := beq_eq_false_iff_ne.2 (by omega)
        obtain ⟨s1, s2, s3, s4, s5⟩ := step_nums hu hu4 hl1 hl9
        have N := Lib.hid (show greedy (lowU (u * cdiv l u - l) (l * cdiv l u)) (lowL (u * cdiv l u - l) (l * cdiv l u)) (out ++ [((cdiv l u : Nat) : Int)]) = (rs, ok) by rw [← greedy_step hu hl1 hl9 (by omega)]; exact HGR.out)
        have hlt := step_lt (u := u) (l := l) hu hl1
        generalize cdiv l u = d at *
        have hLp := lowL_pos (u := u * d - l) s5
        have hLl := lowL_le (u * d - l) (l * d)
        have hUl := lowU_le (u * d - l) (l * d)
        have hg1 := gcd_pos' (u := u * d - l) s5
        have EU := Lib.hid (show ((u * d - l : Nat) : Int) / ((Nat.gcd (u * d - l) (l * d) : Nat) : Int) = ((lowU (u * d - l) (l * d) : Nat) : Int) from rfl)
        have EL := Lib.hid (show ((l * d : Nat) : Int) / ((Nat.gcd (u * d - l) (l * d) : Nat) : Int) = ((lowL (u * d - l) (l * d) : Nat) : Int) from rfl)
        have e1 : (u : Int) * (d : Int) = ((u * d : Nat) : Int) := by rw [Int.natCast_mul]
        have e2 : (l : Int) * (d : Int) = ((l * d : Nat) : Int) := by rw [Int.natCast_mul]
        have e3 : ((u * d : Nat) : Int) - (l : Int) = ((u * d - l : Nat) : Int) := by omega
        have E1 := Lib.hid e1
        have E2 := Lib.hid e2
        have E3 := Lib.hid e3
        have c1 : (u : Int) * (d : Int) ≤ 1000010000 := by rw [e1]; omega
        have c2 : (l : Int) * (d : Int) ≤ 1000000000000000000 := by rw [e2]; omega
        have c3 : (l : Int) ≤ (u : Int) * (d : Int) := by rw [e1]; omega
        have c4 : 0 ≤ (l : Int) * (d : Int) := by rw [e2]; omega
        clear e1 e2 e3 hbad
        go_wp2_with (at_builtin; refine wpList_push rfl _ _ rfl wr w.heap.size wr.heap.size (d : Int) out x c rfl rfl ho hs (by omega) ?_; intro x' c' w2 ho2 hb2 hs2)
        have HO2 := Lib.hid ho2
        have HB2 := Lib.hid (HB.out.trans hb2)
        clear ho ho2 hb2
        rw [E1.out, E2.out, E3.out]
        refine (l2Common_any _ _ _ (by omega) (by omega)).mono ?_
        rintro e w' ⟨rfl, rfl⟩
        generalize lowU (u * d - l) (l * d) = X at *
        generalize lowL (u * d - l) (l * d) = Y at *
        generalize Nat.gcd (u * d - l) (l * d) = g at *
        generalize u * d - l = A at *
        generalize l * d = B at *
        have eu := EU.out
        have el := EL.out
        clear c1 c2 c3 c4 E1 E2 E3 EU EL ed
        go_wp2_with fail
        go_roundw
        case rel => exact ⟨X, Y, c', x', out ++ [(d : Int)], by omega, hLp, by omega, by simp; omega, rfl, rfl, by simp, by simpa using HO2.out, N.out, HB2.out⟩
        case measure => (simp [intOf]) <;> omega

theorem specUnitsOf_any (w : World) (up low : Int) (rs : List Int) (ok : Bool) (hr : unitsOfF up low = (rs, ok)) :
    Calls Try.prog 19 #[.int .i64 up, .int .i64 low] w (FreshOk w rs ok) := by
  cases h1 : inB low 1 10000
  · rw [unitsOfF_no1 h1] at hr
    injection hr with e1 e2
    subst e1 e2
    have I1 := Lib.hid h1
    clear h1
    go_enter Try.func19, Try.ntmps19
    go_wp2_with fail
    refine (l6In_any _ _ _ _).mono ?_
    rintro e w' ⟨rfl, rfl⟩
    rw [I1.out]
    go_wp2_with fail
    go_ret2
    exact ⟨_, _, rfl, by simpa using own_empty w w.heap.size (Nat.le_refl _), (Below.refl _ _).alloc (Nat.le_refl _) _⟩
  · have a1 := inB_true h1
    cases h2 : inB up 0 (low - 1)
    · rw [unitsOfF_no2 h2] at hr
      injection hr with e1 e2
      subst e1 e2
      have I1 := Lib.hid h1
      have I2 := Lib.hid h2
      clear h1 h2
      go_enter Try.func19, Try.ntmps19
      go_wp2_with fail
      refine (l6In_any _ _ _ _).mono ?_
      rintro e w' ⟨rfl, rfl⟩
      rw [I1.out]
      go_wp2_with fail
      refine (l6In_any _ _ _ _).mono ?_
      rintro e w' ⟨rfl, rfl⟩
      rw [I2.out]
      go_wp2_with fail
      go_ret2
      exact ⟨_, _, rfl, by simpa using own_empty w w.heap.size (Nat.le_refl _), (Below.refl _ _).alloc (Nat.le_refl _) _⟩
    · have a2 := inB_true h2
      obtain ⟨l, rfl⟩ : ∃ l : Nat, low = l := ⟨low.toNat, by omega⟩
      obtain ⟨u, rfl⟩ : ∃ u : Nat, up = u := ⟨up.toNat, by omega⟩
      rw [unitsOfF_yes (by omega) (by omega) (by omega), ← greedy_low (by omega) (by omega)] at hr
      exact specUnitsOf_yes w u l (by omega) (by omega) (by omega) rs ok hr

/-- Whether one more is still a list of units. -/
theorem GI.valid {u0 l0 u l : Nat} {out : List Int} (h : GI u0 l0 out u l) (hu : 1 ≤ u) (h9 : l ≤ 1000000000) : isUnits (out ++ [((cdiv l u : Nat) : Int)]) = decide (out.length ≤ 7) := by
  by_cases h7 : out.length ≤ 7
  · have hs := h.step hu h7 h9
    rw [isUnits_yes hs.good hs.len, decide_eq_true h7]
  · rw [isUnits_long (by simp; omega), decide_eq_false h7]

set_option maxRecDepth 100000 in
set_option maxHeartbeats 400000 in
theorem implUnitsOf_yes (w : World) (u0 l0 : Nat) (h1 : 1 ≤ l0) (h2 : l0 ≤ 10000) (h3 : u0 < l0) (rs : List Int) (ok : Bool) (hr : greedy (lowU u0 l0) (lowL u0 l0) [] = (rs, ok)) :
    Calls Try.prog 20 #[.int .i64 (u0 : Int), .int .i64 (l0 : Int)] w (FreshOk w rs ok) := by
  have HR := Lib.hid hr
  have hLp := lowL_pos (u := u0) h1
  have hLl := lowL_le u0 l0
  have hUl := lowU_le u0 l0
  have hlow := low_lt h3
  have G0 := Lib.hid (GI.start hLp hlow)
  clear hr
  have B0 := Lib.hid ((Below.refl _ w).alloc (Nat.le_refl _) (.cells #[] 3))
  have O0 := Lib.hid (own_empty w w.heap.size (Nat.le_refl _)).all
  go_enter Try.func20, Try.ntmps20
  go_wp2_with fail
  refine (lowest_any _ _ _ (by omega) (by omega) h1).mono ?_
  rintro e w1 ⟨rfl, m, rfl⟩
  generalize lowU u0 l0 = U at *
  generalize lowL u0 l0 = L at *
  have B1 := Lib.hid (below_drewN B0.out m)
  have O1 := Lib.hid (O0.out.drewN m)
  have hsz : ((w.alloc (.cells #[] 3)).drewN m).heap.size = w.heap.size + 1 := by show (w.alloc (.cells #[] 3)).heap.size = _; simp
  have HSZ := Lib.hid hsz
  clear hsz
  generalize (w.alloc (.cells #[] 3)).drewN m = w1 at *
  go_wp2_with fail
  go_loopw [0, 1, 6] (fun p q s wr => ∃ u l c : Nat, ∃ x : Option Addr, ∃ out : List Int, u ≤ 10000 ∧ l ≤ 1000000000 ∧ GI U L out u l ∧ p = .int .i64 (u : Int) ∧ q = .int .i64 (l : Int) ∧ s = .slice x out.length c ∧ Own wr w.heap.size wr.heap.size (.slice x out.length c) out ∧ greedy u l out = (rs, ok) ∧ Below w.heap.size w wr) (fun p _ _ _ => (intOf p).toNat)
  case atStart => exact ⟨U, L, 0, some ⟨w.heap.size, 0, none⟩, [], by omega, by omega, G0.out, rfl, rfl, rfl, O1.out.all, HR.out, B1.out⟩
  case round =>
    obtain ⟨u, l, c, x, out, hu4, hl9, hGI, rfl, rfl, rfl, ho, hgr, hb⟩ := hrel
    have hs := hb.size
    have hl1 := hGI.l1
    have ho8 := hGI.len
    have HGI := Lib.hid hGI
    have HB := Lib.hid hb
    have HGR := Lib.hid hgr
    clear hb hgr hGI
    by_cases hu0 : u = 0
    · subst hu0
      have N := HGR.out
      rw [greedy_zero] at N
      injection N with n1 n2
      subst n1 n2
      have HO := Lib.hid ho
      clear ho
      go_wp2_with fail
      go_ret2
      exact ⟨x, c, rfl, HO.out, HB.out⟩
    · have hu : 1 ≤ u := by omega
      have ed := cdiv_int l u hu hl1
      obtain ⟨s1, s2, s3, s4, s5⟩ := step_nums hu hu4 hl1 hl9
      have V := Lib.hid (HGI.out.valid hu hl9)
      have STP := Lib.hid (fun h7 => HGI.out.step hu h7 hl9)
      have NX := Lib.hid (fun h7 : out.length ≠ 8 => (greedy_step hu hl1 hl9 h7).symm.trans HGR.out)
      have NO8 := Lib.hid (fun h8 : out.length = 8 => (greedy_no hu (.inr h8)).symm.trans HGR.out)
      have hlt := step_lt (u := u) (l := l) hu hl1
      have hUz := Lib.hid (fun h0 : lowU (u * cdiv l u - l) (l * cdiv l u) = 0 => show lowL (u * cdiv l u - l) (l * cdiv l u) = 1 by rw [lowU_eq_zero h0]; exact lowL_zero s5)
      generalize cdiv l u = d at *
      have hLp2 := lowL_pos (u := u * d - l) s5
      have hLl2 := lowL_le (u * d - l) (l * d)
      have hUl2 := lowU_le (u * d - l) (l * d)
      have LA := Lib.hid (fun W => lowest_any W (u * d - l) (l * d) (by omega) (by omega) s5)
      have e1 : (u : Int) * (d : Int) = ((u * d : Nat) : Int) := by rw [Int.natCast_mul]
      have e2 : (l : Int) * (d : Int) = ((l * d : Nat) : Int) := by rw [Int.natCast_mul]
      have e3 : ((u * d : Nat) : Int) - (l : Int) = ((u * d - l : Nat) : Int) := by omega
      have E1 := Lib.hid e1
      have E2 := Lib.hid e2
      have E3 := Lib.hid e3
      have c1 : (u : Int) * (d : Int) ≤ 1000010000 := by rw [e1]; omega
      have c2 : (l : Int) * (d : Int) ≤ 1000000000000000000 := by rw [e2]; omega
      have c3 : (l : Int) ≤ (u : Int) * (d : Int) := by rw [e1]; omega
      have c4 : 0 ≤ (l : Int) * (d : Int) := by rw [e2]; omega
      clear e1 e2 e3
      go_wp2_with (at_builtin; refine wpList_push rfl _ _ rfl wr w.heap.size wr.heap.size (d : Int) out x c rfl rfl ho hs (by omega) ?_; intro x' c' w2 ho2 hb2 hs2)
      have HO2 := Lib.hid ho2
      have HB2 := Lib.hid (HB.out.trans hb2)
      clear ho ho2 hb2
      rw [E1.out, E2.out, E3.out]
      refine (LA.out _).mono ?_
      rintro e w3 ⟨rfl, n3, rfl⟩
      generalize lowU (u * d - l) (l * d) = X at *
      generalize lowL (u * d - l) (l * d) = Y at *
      generalize u * d - l = A at *
      generalize l * d = B at *
      have O3 := Lib.hid (HO2.out.drewN n3)
      have B3 := Lib.hid (below_drewN HB2.out n3)
      have hs3 : w.heap.size ≤ (w2.drewN n3).heap.size := B3.out.size
      generalize w2.drewN n3 = w3 at *
      clear c1 c2 c3 c4 E1 E2 E3 ed HO2 HB2
      have hlen : (out ++ [(d : Int)]).length = out.length + 1 := by simp
      have HLEN := Lib.hid hlen
      have hl9' : (out ++ [(d : Int)]).length ≤ 2000000 := by omega
      clear hlen
      by_cases hY : Y ≤ 1000000000
      · by_cases h7 : out.length ≤ 7
        · have VV := Lib.hid (V.out.trans (decide_eq_true h7))
          have N := Lib.hid (NX.out (by omega))
          have S7 := Lib.hid (STP.out h7)
          go_wp2_with fail
          rw [← HLEN.out]
          refine (implUnitsValid_any _ _ _ (out ++ [(d : Int)]) (by have := O3.out.row; exact this) hl9').mono ?_
          rintro e w4 ⟨rfl, b4⟩
          rw [VV.out]
          have O4 := Lib.hid ((O3.out.below (b4.mono O3.out.lim)).all)
          have B4 := Lib.hid (B3.out.trans (b4.mono hs3))
          clear b4
          go_wp2_with fail
          go_roundw
          case rel => exact ⟨X, Y, c', x', out ++ [(d : Int)], by omega, hY, S7.out, rfl, rfl, by simp, by simpa using O4.out, N.out, B4.out⟩
          case measure => (simp [intOf]) <;> omega
        · have VV := Lib.hid (V.out.trans (decide_eq_false h7))
          have N := NO8.out (by omega)
          injection N with n1 n2
          subst n1 n2
          go_wp2_with fail
          rw [← HLEN.out]
          refine (implUnitsValid_any _ _ _ (out ++ [(d : Int)]) (by have := O3.out.row; exact this) hl9').mono ?_
          rintro e w4 ⟨rfl, b4⟩
          rw [VV.out]
          have B4 := Lib.hid (B3.out.trans (b4.mono hs3))
          clear b4
          go_wp2_with fail
          go_ret2
          exact ⟨none, 0, rfl, Own.nil_ _ _, B4.out⟩
      · have hX : X ≠ 0 := fun h0 => by have := hUz.out h0; omega
        have N : (([] : List Int), false) = (rs, ok) := by
          by_cases h8 : out.length = 8
          · exact NO8.out h8
          · rw [← NX.out h8, greedy_no (by omega) (.inl (by omega))]
        injection N with n1 n2
        subst n1 n2
        go_wp2_with fail
        go_ret2
        exact ⟨none, 0, rfl, Own.nil_ _ _, B3.out⟩

theorem implUnitsOf_any (w : World) (up low : Int) (rs : List Int) (ok : Bool) (hr : unitsOfF up low = (rs, ok)) :
    Calls Try.prog 20 #[.int .i64 up, .int .i64 low] w (FreshOk w rs ok) := by
  cases h1 : inB low 1 10000
  · rw [unitsOfF_no1 h1] at hr
    injection hr with e1 e2
    subst e1 e2
    rcases inB_false h1 with h2 | h2
    all_goals
      clear h1
      go_enter Try.func20, Try.ntmps20
      go_wp2_with fail
      go_ret2
      exact ⟨none, 0, rfl, Own.nil_ _ _, Below.refl _ _⟩
  · have a1 := inB_true h1
    cases h2 : inB up 0 (low - 1)
    · rw [unitsOfF_no2 h2] at hr
      injection hr with e1 e2
      subst e1 e2
      rcases inB_false h2 with h3 | h3
      · have k1 : ¬ (low < 1) := by omega
        clear h1 h2
        go_enter Try.func20, Try.ntmps20
        go_wp2_with fail
        go_ret2
        exact ⟨none, 0, rfl, Own.nil_ _ _, Below.refl _ _⟩
      · have k2 : low ≤ up := by omega
        have k3 : 0 ≤ up := by omega
        clear h1 h2
        go_enter Try.func20, Try.ntmps20
        go_wp2_with fail
        go_ret2
        exact ⟨none, 0, rfl, Own.nil_ _ _, Below.refl _ _⟩
    · have a2 := inB_true h2
      obtain ⟨l, rfl⟩ : ∃ l : Nat, low = l := ⟨low.toNat, by omega⟩
      obtain ⟨u, rfl⟩ : ∃ u : Nat, up = u := ⟨up.toNat, by omega⟩
      rw [unitsOfF_yes (by omega) (by omega) (by omega)] at hr
      exact implUnitsOf_yes w u l (by omega) (by omega) (by omega) rs ok hr
end Go.Proofs.Ytgdeaochfmakbaa
