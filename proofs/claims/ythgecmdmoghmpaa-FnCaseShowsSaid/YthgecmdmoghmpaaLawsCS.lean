
/-
  The walk of the law FnCaseShows: a case shows parts of what it shows: it returns true for every two codes.
-/
import Derived.Test.YthgecmdmoghmpaaDrawC4
import Derived.Test.YthgecmdmoghmpaaCase7
namespace Go.Proofs.Ythgecmdmoghmpaa
open Go.RowKit

theorem caseShows_parts {rs : List (List Int)} {ds : List Int} (h : caseShows rs ds = true) : caseOk rs = true ∧ isNum ds = true ∧ 0 < ways rs ds free := by
  simp only [caseShows, Bool.and_eq_true, decide_eq_true_eq] at h
  exact ⟨h.1.1, h.1.2, h.2⟩
theorem caseShows_mk {rs : List (List Int)} {ds : List Int} (h1 : caseOk rs = true) (h2 : isNum ds = true) (h3 : 0 < ways rs ds free) : caseShows rs ds = true := by
  rw [caseShows_yes h1 h2]
  exact decide_eq_true h3
theorem caseShows_take {rs : List (List Int)} {ds : List Int} {k : Nat} (h : caseShows rs ds = true) (h1 : 1 ≤ k) (h2 : k ≤ ds.length) : caseShows rs (ds.take k) = true := by
  obtain ⟨a, b, c⟩ := caseShows_parts h
  obtain ⟨d1, d2, d3⟩ := isNum_parts b
  have e : (ds.take k).length = k := by rw [List.length_take]; omega
  exact caseShows_mk a (isNum_of (digs_take d1 k) (by omega) (by omega)) (ways_take k c)
theorem caseShows_more {rs : List (List Int)} {ds : List Int} {r : List Int} (h : caseShows rs ds = true) (hl : rs.length ≤ 9) (hr : rodOk r = true) : caseShows (rs ++ [r]) ds = true := by
  obtain ⟨a, b, c⟩ := caseShows_parts h
  refine caseShows_mk ?_ b (ways_more c)
  rw [caseOk_short (by omega)] at a
  rw [caseOk_short (by simp; omega)]
  exact rodsOk_snoc a hr
theorem caseShows_len {rs : List (List Int)} {ds : List Int} (h : caseShows rs ds = true) : ds.length ≤ rs.length := by
  have := ways_len (caseShows_parts h).2.2
  omega

/-- The cells of a slice of rods. -/
theorem Rods.vals {w : World} {b off : Nat} {rs : List (List Int)} (h : Rods w (some ⟨b, off, none⟩) rs) : ∃ us : List Value, us.length = rs.length ∧ (∀ u ∈ us, u.oneCell' = true) ∧ ∀ j u, us[j]? = some u → w.cell? ((⟨b, off, none⟩ : Addr).add j) = some u ∧ j < rs.length ∧ ∃ a' c', u = .slice a' (rod rs j).length c' ∧ (rod rs j).length ≤ c' ∧ c' ≤ maxLen ∧ Row .i64 w a' (rod rs j) := by
  have each : ∀ j, j < rs.length → ∃ u, w.cell? ⟨b, off + j, none⟩ = some u ∧ ∃ a' c', u = .slice a' (rod rs j).length c' ∧ (rod rs j).length ≤ c' ∧ c' ≤ maxLen ∧ Row .i64 w a' (rod rs j) := fun j hj => by
    obtain ⟨b2, off2, a', c', e, _, h1, h2, h3, h4⟩ := h.at_ hj
    injection e with e
    injection e with e1 e2
    subst e1 e2
    exact ⟨_, h1, a', c', rfl, h2, h3, h4⟩
  let f : Nat → Value := fun j => if hj : j < rs.length then (each j hj).choose else undef
  have hf : ∀ j, j < rs.length → w.cell? ⟨b, off + j, none⟩ = some (f j) ∧ ∃ a' c', f j = .slice a' (rod rs j).length c' ∧ (rod rs j).length ≤ c' ∧ c' ≤ maxLen ∧ Row .i64 w a' (rod rs j) := fun j hj => by
    have e : f j = (each j hj).choose := by simp [f, hj]
    rw [e]
    exact (each j hj).choose_spec
  have hget : ∀ j u, ((List.range rs.length).map f)[j]? = some u → j < rs.length ∧ u = f j := fun j u hu => by
    by_cases hj : j < rs.length
    · have : some (f j) = some u := by rw [← hu]; simp [hj]
      injection this with this
      exact ⟨hj, this.symm⟩
    · simp [hj] at hu
  refine ⟨(List.range rs.length).map f, by simp, fun u hu => ?_, fun j u hu => ?_⟩
  · obtain ⟨j, hj, e⟩ := List.getElem_of_mem hu
    obtain ⟨hj2, e2⟩ := hget j u (by rw [List.getElem?_eq_getElem hj, e])
    obtain ⟨_, a', c', e3, _⟩ := hf j hj2
    rw [e2, e3]
    rfl
  · obtain ⟨hj, e⟩ := hget j u hu
    subst e
    rw [Addr.add_lit]
    exact ⟨(hf j hj).1, hj, (hf j hj).2⟩

/-- Rods that are copied, and one more. -/
theorem rods_more {w3 w5 : World} {base g L c : Nat} {us : List Value} {rs : List (List Int)} (h : w5.ownsRow base 41 1 (.slice (some ⟨g, 0, none⟩) (rs.length + 1) c) (rs.length + 1) (us ++ [.slice (some ⟨L, 0, none⟩) 4 4])) (hus : us.length = rs.length)
    (hcells : ∀ j u, us[j]? = some u → ∃ a' c', u = .slice a' (rod rs j).length c' ∧ (rod rs j).length ≤ c' ∧ c' ≤ maxLen ∧ Row .i64 w3 a' (rod rs j)) (hb : Below w3.heap.size w3 w5) (hrow : Row .i64 w5 (some ⟨L, 0, none⟩) [1, 2, 3, 4]) :
    Rods w5 (some ⟨g, 0, none⟩) (rs ++ [[1, 2, 3, 4]]) := fun _ => by
  refine ⟨g, 0, rfl, (h.lt g rfl).2, fun i hi => ?_⟩
  rw [List.length_append] at hi
  have hi2 : i < rs.length + 1 := by simpa using hi
  rw [Nat.zero_add, h.cellAt i (by omega)]
  by_cases e : i < rs.length
  · rw [rod_snoc e, List.getElem?_append_left (by omega), List.getElem?_eq_getElem (by omega)]
    obtain ⟨a', c', k1, k2, k3, k4⟩ := hcells i _ (List.getElem?_eq_getElem (by omega))
    rw [k1]
    exact ⟨a', c', rfl, k2, k3, k4.below hb⟩
  · have : i = rs.length := by omega
    subst this
    have hr : rod (rs ++ [[1, 2, 3, 4]]) rs.length = [1, 2, 3, 4] := by simp [rod]
    rw [hr, ← hus]
    exact ⟨some ⟨L, 0, none⟩, 4, by simp, by simp, by unfold maxLen; omega, hrow⟩

/-- 'append(.., Rod{[]int{1, 2, 3, 4}})'. -/
theorem wpList_push_lit {ops : Array Oper} {rest : List Oper} {o : Oper} {a : Act} {Q : Exit → Act → World → Prop} (hgd : o.guard = none) (s x : Operand)
    (ho : o.op = .call { callee := .builtin .append, args := #[s, x], argTypes := #[26, 26] })
    (W : World) (base : Nat) (us : List Value) (n g c : Nat) (hs : a.eval s = .slice (some ⟨g, 0, none⟩) n c) (hx : a.eval x = .slice (some ⟨W.heap.size + 1, 0, none⟩) 1 1)
    (hown : W.ownsRow base 41 1 (.slice (some ⟨g, 0, none⟩) n c) n us) (hb : base ≤ W.heap.size) (hn : n ≤ 1000)
    (h : ∀ g' c' w', w'.ownsRow base 41 1 (.slice (some ⟨g', 0, none⟩) (n + 1) c') (n + 1) (us ++ [.slice (some ⟨W.heap.size, 0, none⟩) 4 4]) → Below base W w' → Row .i64 w' (some ⟨W.heap.size, 0, none⟩) [1, 2, 3, 4] → wpList Try.prog ops Q rest (a.put o.dst (.slice (some ⟨g', 0, none⟩) (n + 1) c')) w') :
    wpList Try.prog ops Q (o :: rest) a ((W.alloc (.cells #[.int .i64 1, .int .i64 2, .int .i64 3, .int .i64 4] 3)).alloc (.cells #[.slice (some ⟨W.heap.size, 0, none⟩) 4 4] 41)) := by
  obtain ⟨i0, hi0, hz0, hz1, hz2⟩ := info_parts rod_info
  have e : (W.alloc (.cells #[.int .i64 1, .int .i64 2, .int .i64 3, .int .i64 4] 3)).heap.size = W.heap.size + 1 := by simp
  have nw := news_one (W.alloc (.cells #[.int .i64 1, .int .i64 2, .int .i64 3, .int .i64 4] 3)) (.slice (some ⟨W.heap.size, 0, none⟩) 4 4) 41
  rw [e] at nw
  have hg := (hown.lt g rfl).2
  refine wpList_append_own_at _ hgd s x 26 ho base 41 i0 (.agg #[.slice none 0 0]) 1 24 Try.underlying26 hi0 hz0 hz1 hz2 rfl (by decide) _ _ _ hs ((hown.alloc _).alloc _) ⟨W.heap.size + 1, 0, none⟩ 1 1 [.slice (some ⟨W.heap.size, 0, none⟩) 4 4] hx rfl nw (news_one1 rfl) (by unfold maxLen; omega) (by omega) (by simp; omega) ?_
  intro v' w' ho' hg' _ _
  obtain ⟨g', c', rfl, _, _⟩ := ho'.form (by omega)
  refine h g' c' w' ho' ((((Below.refl base W).alloc hb _).alloc (by simp; omega) _).grown hg' (by simp; omega) (fun r hr => (hown.lt r hr).1)) ?_
  intro _
  refine ⟨W.heap.size, 0, rfl, by have := hg'.size; simp at this; omega, fun i hi => ?_⟩
  have hcell : ((W.alloc (.cells #[.int .i64 1, .int .i64 2, .int .i64 3, .int .i64 4] 3)).alloc (.cells #[.slice (some ⟨W.heap.size, 0, none⟩) 4 4] 41)).cell? ⟨W.heap.size, 0 + i, none⟩ = some (.int .i64 (nth [1, 2, 3, 4] i)) := by
    refine (World.cell?_alloc_lt _ _ _ (by rw [e]; exact Nat.lt_succ_self _)).trans ((cell_new W _ _ _).trans ?_)
    match i, hi with
    | 0, _ => rfl
    | 1, _ => rfl
    | 2, _ => rfl
    | 3, _ => rfl
  refine hg'.cell (a := ⟨W.heap.size, 0 + i, none⟩) hcell (fun e' => ?_)
  have : W.heap.size = g := by simpa [Value.ownBlock] using e'
  omega

set_option maxRecDepth 100000 in
set_option maxHeartbeats 2000000 in
theorem fnCaseShows_walk (a : Option Addr) (cap : Nat) (zs : List Int) (a2 : Option Addr) (cap2 : Nat) (ys : List Int) (w : World) (h : InRow .u8 w a cap zs) (h2 : InRow .u8 w a2 cap2 ys) :
    Calls Try.prog 7 #[.slice a zs.length cap, .slice a2 ys.length cap2] w fun e w' => e = .returned (.bool true) ∧ Below w.heap.size w w' := by
  have hfit := h.fits
  have hlim := h.lim
  have hfit2 := h2.fits
  have hlim2 := h2.lim
  unfold maxLen at hlim hlim2
  have H := Lib.hid h
  clear h h2
  by_cases hbig : 1048576 < zs.length
  · go_enter Try.func7, Try.ntmps7
    go_wp2_with fail
    go_ret
    exact ⟨rfl, Below.refl _ _⟩
  · by_cases hbig2 : 1048576 < ys.length
    · have d0 : decide ((1048576 : Int) < (zs.length : Int)) = false := decide_eq_false (by omega)
      have d0' : decide (1048576 < zs.length) = false := decide_eq_false hbig
      go_enter Try.func7, Try.ntmps7
      go_wp2_with fail
      go_ret
      exact ⟨rfl, Below.refl _ _⟩
    · have d0 : decide ((1048576 : Int) < (zs.length : Int)) = false := decide_eq_false (by omega)
      have d0' : decide (1048576 < zs.length) = false := decide_eq_false hbig
      have d1 : decide ((1048576 : Int) < (ys.length : Int)) = false := decide_eq_false (by omega)
      have d1' : decide (1048576 < ys.length) = false := decide_eq_false hbig2
      go_enter Try.func7, Try.ntmps7
      go_wp2_with fail
      clear d0 d0' d1 d1'
      refine (drawCaseShows_any _ _ _ _ H.out).mono ?_
      rintro e w1 ⟨a1, c1, rs, ab, cb, ds, rfl, r1, hl8, hcl, hcm, hl4, dr, hd7, hdc, hdm, b1⟩
      have R1 := Lib.hid r1.rods
      have D1 := Lib.hid dr
      have B1 := Lib.hid b1
      have SM := Lib.hid (show RodsSmall rs from ⟨by omega, fun i hi => by have := hl4 i hi; omega⟩)
      clear r1 b1 hl4 dr
      cases hok : caseShows rs ds
      · have E := Lib.hid hok
        clear hok
        go_wp2_with fail
        refine (implCaseShows_any _ _ _ _ _ _ _ R1.out SM.out D1.out (by omega)).mono ?_
        rintro e w2 ⟨rfl, b2⟩
        rw [E.out]
        have B2 := Lib.hid (B1.out.trans (b2.mono B1.out.size))
        have R2 := Lib.hid (R1.out.below b2)
        have D2 := Lib.hid (D1.out.below b2)
        clear b2
        go_wp2_with fail
        refine (specCaseShows_any _ _ _ _ _ _ _ R2.out SM.out D2.out (by omega) hdc hdm).mono ?_
        rintro e w3 ⟨rfl, b3⟩
        rw [E.out]
        have B3 := Lib.hid (B2.out.trans (b3.mono B2.out.size))
        clear b3
        go_wp2_with fail
        go_ret
        exact ⟨rfl, B3.out⟩
      · have E := Lib.hid hok
        have hlen := caseShows_len hok
        obtain ⟨_, hn, _⟩ := caseShows_parts hok
        obtain ⟨_, hd1, hd6⟩ := isNum_parts hn
        clear hok hn
        go_wp2_with fail
        refine (implCaseShows_any _ _ _ _ _ _ _ R1.out SM.out D1.out (by omega)).mono ?_
        rintro e w2 ⟨rfl, b2⟩
        rw [E.out]
        have B2 := Lib.hid (B1.out.trans (b2.mono B1.out.size))
        have R2 := Lib.hid (R1.out.below b2)
        have D2 := Lib.hid (D1.out.below b2)
        clear b2
        go_wp2_with fail
        refine (specCaseShows_any _ _ _ _ _ _ _ R2.out SM.out D2.out (by omega) hdc hdm).mono ?_
        rintro e w3 ⟨rfl, b3⟩
        rw [E.out]
        have B3 := Lib.hid (B2.out.trans (b3.mono B2.out.size))
        have R3 := Lib.hid (R2.out.below b3)
        have D3 := Lib.hid (D2.out.below b3)
        clear b3
        obtain ⟨ba, oa, a', c', rfl, _, _⟩ := R3.out.at_ (i := 0) (by omega)
        obtain ⟨us, hus, hone, hcells⟩ := R3.out.vals
        obtain ⟨k, hk, hk1, hk2⟩ : ∃ k : Nat, ys.length % ds.length = k ∧ k < ds.length ∧ k ≤ 1048576 := ⟨_, rfl, Nat.mod_lt _ (by omega), by have := Nat.mod_lt ys.length (show ds.length > 0 by omega); omega⟩
        have HK := Lib.hid hk
        have em : (ys.length : Int) % (ds.length : Int) = (k : Int) := by rw [← hk]; rfl
        have em2 : (ys.length : Int).tmod (ds.length : Int) = (k : Int) := by rw [← hk]; rfl
        clear hk
        obtain ⟨i0, hi0, hz0, hz1, hz2⟩ := info_parts rod_info
        have OE := (OwnR.new w3 w3.heap.size (Nat.le_refl _)).owns
        have hba : ba < w3.heap.size := by
          obtain ⟨b9, o9, _, _, e9, l9, _⟩ := R3.out.at_ (i := 0) (by omega)
          have e1 : b9 = ba := by
            injection e9 with e
            injection e with e1 _
            exact e1.symm
          omega
        have NEWS : ∀ j u, us[j]? = some u → (w3.alloc (.cells #[] 41)).cell? ((⟨ba, oa, none⟩ : Addr).add j) = some u := fun j u hu => by
          have h1 := (hcells j u hu).1
          rw [Addr.add_lit] at h1 ⊢
          exact (World.cell?_alloc_lt _ _ _ hba).trans h1
        have CE := Lib.hid (fun j u hu => (hcells j u hu).2.2)
        have ONE := Lib.hid hone
        have HUS := Lib.hid hus
        have NW := Lib.hid NEWS
        have OEE := Lib.hid OE
        have I0 := Lib.hid (And.intro hi0 (And.intro hz0 (And.intro hz1 hz2)))
        clear hcells hone hus NEWS OE hi0 hz0 hz1 hz2
        have L1 : us.length = rs.length * 1 := by rw [HUS.out]; omega
        have LAW := Lib.hid (fun (ops : Array Oper) (rest : List Oper) (o : Oper) (a : Act) (Q : Exit → Act → World → Prop) (hgd : o.guard = none) (s x : Operand) (ho : o.op = .call { callee := .builtin .append, args := #[s, x], argTypes := #[26, 26] }) (hs : a.eval s = .slice (some ⟨w3.heap.size, 0, none⟩) 0 0) (hx : a.eval x = .slice (some ⟨ba, oa, none⟩) rs.length c1) => wpList_append_own_at (P := Try.prog) (ops := ops) (rest := rest) (Q := Q) (w3.alloc (.cells #[] 41)) hgd s x 26 ho w3.heap.size 41 i0 (.agg #[.slice none 0 0]) 1 24 Try.underlying26 I0.out.1 I0.out.2.1 I0.out.2.2.1 I0.out.2.2.2 rfl (by decide) _ 0 [] hs OEE.out ⟨ba, oa, none⟩ rs.length c1 us hx L1 NW.out ONE.out (by unfold maxLen; omega) (by omega) (by simp))
        clear L1
        go_wp2_with (first
          | (at_builtin; refine LAW.out _ _ _ _ _ rfl _ _ rfl rfl rfl ?_; intro v4 w4 ho4 hg4 _ hv4; rw [Nat.zero_add, List.nil_append] at ho4; obtain ⟨g4, c4, rfl, _, _⟩ := ho4.form (by omega); have O4 := Lib.hid ho4; have s4 := hg4.size; have B4 := Lib.hid (show Below w3.heap.size w3 w4 from ((Below.refl _ _).alloc (Nat.le_refl _) _).grown hg4 (by simp) (fun r hr => (OEE.out.lt r hr).1)); clear ho4 hg4 hv4)
          | (at_builtin; refine wpList_push_lit rfl _ _ rfl w4 w3.heap.size us rs.length g4 c4 rfl rfl O4.out B4.out.size (by omega) ?_; intro g5 c5 w5 ho5 hb5 hr5; have RM := Lib.hid (rods_more ho5 HUS.out CE.out (B4.out.trans hb5) hr5); have B5 := Lib.hid (B4.out.trans hb5); clear ho5 hb5 hr5))
        have R5 := R3.out.below B5.out
        have D5 := D3.out.below B5.out
        have tl : (ds.take (1 + k)).length = 1 + k := by rw [List.length_take]; omega
        have ET := caseShows_take (k := 1 + k) E.out (by omega) (by omega)
        have EM := caseShows_more (r := [1, 2, 3, 4]) E.out (by omega) rfl
        have C1 := implCaseShows_any w5 (some ⟨ba, oa, none⟩) c1 rs ab cb (ds.take (1 + k)) R5 SM.out (D5.take_ (1 + k)) (by omega)
        rw [tl, ET] at C1
        have D5' := Lib.hid D5
        have EM' := Lib.hid EM
        have BB := Lib.hid (B3.out.trans (B5.out.mono B3.out.size))
        have SM2 := Lib.hid (show RodsSmall (rs ++ [[1, 2, 3, 4]]) from ⟨by simp; omega, fun i hi => by
          by_cases e : i < rs.length
          · rw [rod_snoc e]; exact SM.out.2 i e
          · have : i = rs.length := by simp at hi; omega
            subst this
            have hr : rod (rs ++ [[1, 2, 3, 4]]) rs.length = [1, 2, 3, 4] := by simp [rod]
            rw [hr]; simp⟩)
        clear R5 D5 tl ET EM
        refine C1.mono ?_
        clear C1
        rintro e w6 ⟨rfl, b6⟩
        have R6 := RM.out.below b6
        have D6 := D5'.out.below b6
        have B6 := Lib.hid (BB.out.trans (b6.mono BB.out.size))
        have C2 := implCaseShows_any w6 (some ⟨g5, 0, none⟩) c5 (rs ++ [[1, 2, 3, 4]]) ab cb ds R6 SM2.out D6 (by omega)
        rw [EM'.out] at C2
        have hl1 : (rs ++ [[1, 2, 3, 4]]).length = rs.length + 1 := by simp
        rw [hl1] at C2
        have C2' := Lib.hid C2
        have d10 : ((rs.length : Int) == 10) = false := beq_eq_false_iff_ne.2 (by omega)
        clear b6 R6 D6 C2 hl1 em em2
        go_wp2_with fail
        refine C2'.out.mono ?_
        rintro e w7 ⟨rfl, b7⟩
        have B7 := Lib.hid (B6.out.trans (b7.mono B6.out.size))
        clear b7
        go_wp2_with fail
        go_ret
        exact ⟨rfl, B7.out⟩
end Go.Proofs.Ythgecmdmoghmpaa
