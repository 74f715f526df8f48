
/-
  The contracts of the draws of a case that often has all digits, and of a case and a numeral, out of a code.
-/
import Derived.Test.YthgecmdmoghmpaaDrawC3
namespace Go.Proofs.Ythgecmdmoghmpaa
open Go.RowKit

/-- 'append(out, rods..)': rods of the call's own, some at once. -/
theorem wpList_push_rods {ops : Array Oper} {rest : List Oper} {o : Oper} {a : Act} {Q : Exit → Act → World → Prop} (hgd : o.guard = none) (s x : Operand)
    (ho : o.op = .call { callee := .builtin .append, args := #[s, x], argTypes := #[26, 26] })
    (W : World) (lo : Nat) (us : List Value) (ns : List (List Int)) (xs : List Value) (rs : List (List Int)) (a1 : Option Addr) (c1 : Nat) (hs : a.eval s = .slice a1 rs.length c1) (hx : a.eval x = .slice (some ⟨W.heap.size, 0, none⟩) ns.length ns.length)
    (h2 : OwnR W lo (.slice a1 rs.length c1) xs rs) (hus : us.length = ns.length)
    (hside : ∀ i, i < ns.length → ∃ a c, us[i]? = some (.slice a (rod ns i).length c) ∧ Own W lo W.heap.size (.slice a (rod ns i).length c) (rod ns i) ∧ ∀ g, (Value.slice a (rod ns i).length c).ownBlock = some g → (Value.slice a1 rs.length c1).ownBlock ≠ some g)
    (hlo : lo ≤ W.heap.size) (hl : rs.length ≤ 1000000) (hn : ns.length ≤ 1000)
    (h : ∀ a' c' w', OwnR w' lo (.slice a' (rs.length + ns.length) c') (xs ++ us) (rs ++ ns) → Below lo W w' → W.heap.size ≤ w'.heap.size → wpList Try.prog ops Q rest (a.put o.dst (.slice a' (rs.length + ns.length) c')) w') :
    wpList Try.prog ops Q (o :: rest) a (W.alloc (.cells us.toArray 41)) := by
  obtain ⟨i0, hi0, hz0, hz1, hz2⟩ := info_parts rod_info
  have one : ∀ u ∈ us, u.oneCell' = true := fun u hu => by
    obtain ⟨i, hi, e⟩ := List.getElem_of_mem hu
    obtain ⟨a', c', k1, _⟩ := hside i (by omega)
    rw [List.getElem?_eq_getElem hi, e] at k1
    injection k1 with k1
    rw [k1]
    rfl
  refine wpList_append_own_at _ hgd s x 26 ho lo 41 i0 (.agg #[.slice none 0 0]) 1 24 Try.underlying26 hi0 hz0 hz1 hz2 rfl (by decide) _ _ _ hs (h2.owns.alloc _) ⟨W.heap.size, 0, none⟩ ns.length ns.length us hx (by omega) (fun j u hj => ?_) one (by unfold maxLen; omega) (by omega) (by simp; omega) ?_
  · rw [Addr.add_lit, Nat.zero_add, cell_new]
    simpa using hj
  intro v' w' ho' hg' _ hw'
  have hlen : (rs ++ ns).length = rs.length + ns.length := by simp
  have hsz : W.heap.size + 1 ≤ w'.heap.size := by have := hg'.size; simpa using this
  have keep : ∀ {u : Value} {ys : List Int}, Own W lo W.heap.size u ys → (∀ g, u.ownBlock = some g → (Value.slice a1 rs.length c1).ownBlock ≠ some g) → Own w' lo w'.heap.size u ys := fun hu hs2 => by
    have := (hu.kept (World.grownBy_alloc W (.cells us.toArray 41) none) (fun r hr => by cases hr)).apart hg' (fun r hr h3 => hs2 r h3 hr)
    exact this.mono (Nat.le_refl _) this.lim (Nat.le_refl _)
  have sepn : ∀ {u : Value} {ys : List Int}, Own W lo W.heap.size u ys → (∀ g, u.ownBlock = some g → (Value.slice a1 rs.length c1).ownBlock ≠ some g) → ∀ g, u.ownBlock = some g → v'.ownBlock ≠ some g := fun hu hs2 g hg3 h4 => by
    rcases hw' with hw | hw
    · exact hs2 g hg3 (hw ▸ h4)
    · rw [hw] at h4
      injection h4 with h4
      have := hu.top g hg3
      simp at h4
      omega
  have ho2 : w'.ownsRow lo 41 1 v' (rs ++ ns).length (xs ++ us) := by rw [hlen]; exact ho'
  have hO : OwnR w' lo v' (xs ++ us) (rs ++ ns) := by
    refine ⟨ho2, by simp [h2.len, hus], fun i hi => ?_⟩
    rw [hlen] at hi
    by_cases e : i < rs.length
    · obtain ⟨a', c', k1, k2, k3⟩ := h2.side i e
      have er : rod (rs ++ ns) i = rod rs i := by rw [rod_of _ _ (by simp; omega), rod_of _ _ e, List.getElem_append_left e]
      rw [er]
      exact ⟨a', c', by rw [List.getElem?_append_left (by rw [h2.len]; exact e)]; exact k1, keep k2 k3, sepn k2 k3⟩
    · obtain ⟨a', c', k1, k2, k3⟩ := hside (i - rs.length) (by omega)
      have er : rod (rs ++ ns) i = rod ns (i - rs.length) := by rw [rod_of _ _ (by simp; omega), rod_of _ _ (by omega), List.getElem_append_right (by omega)]
      rw [er]
      exact ⟨a', c', by rw [List.getElem?_append_right (by rw [h2.len]; omega), h2.len]; exact k1, keep k2 k3, sepn k2 k3⟩
  obtain ⟨a', c', rfl, _, _⟩ := hO.form
  rw [hlen] at hO ⊢
  exact h a' c' w' hO (((Below.refl lo W).alloc hlo _).grown hg' (by simp; omega) (fun r hr => (h2.owns.lt r hr).1)) (by omega)
theorem rod_small_cat {rs ns : List (List Int)} {m : Nat} (h : ∀ i, i < rs.length → (rod rs i).length = m) (hz : ∀ i, i < ns.length → (rod ns i).length = m) : ∀ i, i < (rs ++ ns).length → (rod (rs ++ ns) i).length = m := by
  intro i hi
  rw [List.length_append] at hi
  by_cases e : i < rs.length
  · have er : rod (rs ++ ns) i = rod rs i := by rw [rod_of _ _ (by simp; omega), rod_of _ _ e, List.getElem_append_left e]
    rw [er]; exact h i e
  · have er : rod (rs ++ ns) i = rod ns (i - rs.length) := by rw [rod_of _ _ (by simp; omega), rod_of _ _ (by omega), List.getElem_append_right (by omega)]
    rw [er]; exact hz _ (by omega)
theorem below_rdC {w w1 w2 : World} (hb : Below w.heap.size w w1) (hg : w1.grownBy w2 (some w.heap.size)) : Below w.heap.size w w2 :=
  hb.grown hg hb.size (fun k hk => by injection hk with hk; omega)

/-- A case and a numeral out of a code. -/
def ShownDrawn (w : World) (e : Ending) (w' : World) : Prop :=
  ∃ a cap rs b cb ds, e = .returned (.tuple #[.slice a rs.length cap, .slice b (List.length ds) cb]) ∧ RodsFrom w.heap.size w' a rs ∧ rs.length ≤ 8 ∧ rs.length ≤ cap ∧ cap ≤ maxLen ∧ (∀ i, i < rs.length → (rod rs i).length ≤ 4) ∧
    Row .i64 w' b ds ∧ ds.length ≤ 7 ∧ ds.length ≤ cb ∧ cb ≤ maxLen ∧ Below w.heap.size w w'
theorem drawCaseShows_any (w : World) (a : Option Addr) (cap : Nat) (zs : List Int) (h : InRow .u8 w a cap zs) :
    Calls Try.prog 21 #[.slice a zs.length cap] w (ShownDrawn w) := by
  have H := Lib.hid h
  clear h
  go_enter Try.func21, Try.ntmps21
  go_wp2_with fail
  refine (l6Open_any _ _ _ _ H.out).mono ?_
  rintro e w1 ⟨rfl, r1, b1⟩
  have R1 := Lib.hid r1
  have B1 := Lib.hid b1
  clear r1 b1
  go_wp2_with fail
  refine (l91Shown_any _ _ _ R1.out (by omega)).mono ?_
  rintro e w2 ⟨a2, c2, rs, b2, cb, ds, rfl, k1, k2, k3, k4, k5, k6, k7, k8, k9, _, g2⟩
  have K1 := Lib.hid k1
  have K5 := Lib.hid k5
  have K6 := Lib.hid k6
  have B2 := Lib.hid (below_rdC B1.out g2)
  clear k1 k5 k6 g2
  go_wp2_with fail
  go_ret2
  exact ⟨a2, c2, rs, b2, cb, ds, rfl, K1.out.mono B1.out.size, k2, k3, k4, K5.out, K6.out, k7, k8, k9, B2.out⟩

/-- A case out of a code. -/
def CaseDrawn (w : World) (e : Ending) (w' : World) : Prop :=
  ∃ a cap rs, e = .returned (.slice a (List.length rs) cap) ∧ Rods w' a rs ∧ rs.length ≤ 9 ∧ (∀ i, i < rs.length → (rod rs i).length ≤ 4) ∧ Below w.heap.size w w'
set_option maxRecDepth 100000 in
set_option maxHeartbeats 1000000 in
theorem drawCaseMost_any (w : World) (a : Option Addr) (cap : Nat) (zs : List Int) (h : InRow .u8 w a cap zs) :
    Calls Try.prog 20 #[.slice a zs.length cap] w (CaseDrawn w) := by
  have H := Lib.hid h
  clear h
  go_enter Try.func20, Try.ntmps20
  go_wp2_with fail
  refine (l6Open_any _ _ _ _ H.out).mono ?_
  rintro e wa ⟨rfl, ra, ba⟩
  have BA := Lib.hid ba
  have RA := Lib.hid ra
  have ga := ra.lt
  obtain ⟨g, hg⟩ : ∃ g, w.heap.size = g := ⟨_, rfl⟩
  have HG := Lib.hid hg
  rw [hg] at ra ga ⊢
  have RA := Lib.hid ra
  clear ra ba hg
  go_wp2_with fail
  refine (l91Case_any _ g 0 RA.out (by omega)).mono ?_
  rintro e w1 ⟨a1, c1, rs1, rfl, rf1, hl8, hcl, hcm, h34, r1, g1⟩
  have RF1 := Lib.hid rf1
  have R1 := Lib.hid r1
  have G1 := Lib.hid g1
  have s1 := g1.size
  have LE4 := Lib.hid (show ∀ i, i < rs1.length → (rod rs1 i).length ≤ 4 from fun i hi => by rcases h34 i hi with e | ⟨_, e⟩ <;> omega)
  clear rf1 r1 g1 h34
  go_wp2_with fail
  refine (pick_ok _ g (0 + 60) _ R1.out (by omega) (by omega)).mono ?_
  rintro e w2 ⟨x, rfl, x0, x1, r2, g2⟩
  have s2 := g2.size
  have R2 := Lib.hid r2
  have RF2 := Lib.hid (RF1.out.grown g2 (fun r hr => by injection hr with hr; omega))
  have G2 := Lib.hid (grown_trans G1.out g2)
  clear r2 g2
  by_cases hx : x = 0
  · subst hx
    go_wp2_with fail
    go_ret
    exact ⟨a1, c1, rs1, rfl, RF2.out.rods, by omega, LE4.out, below_rdC BA.out (by rw [HG.out]; exact G2.out)⟩
  · have hx' : (x == 0) = false := beq_eq_false_iff_ne.2 hx
    have ON := Lib.hid (OwnR.new w2 w2.heap.size (Nat.le_refl _))
    go_wp2_with fail
    refine (pick_ok _ g (0 + 60 + 1) _ (R2.out.alloc _) (by omega) (by omega)).mono ?_
    rintro e w3 ⟨n, rfl, n0, n1, r3, g3⟩
    obtain ⟨N, rfl⟩ : ∃ N : Nat, n = N := ⟨n.toNat, by omega⟩
    have s3 := g3.size
    have s3' : w2.heap.size + 1 ≤ w3.heap.size := by simpa using s3
    have O3 := Lib.hid (ON.out.kept g3 (fun r hr => by injection hr with hr; omega))
    have R3 := Lib.hid r3
    have G3 := Lib.hid (grown_trans (World.grownBy_alloc w2 _ (some g)) g3)
    clear r3 g3 s3 ON
    go_wp2_with fail
    go_loopw [5, 7] (fun s i wr => ∃ k c : Nat, ∃ ad : Option Addr, ∃ xs : List Value, ∃ rs : List (List Int), k ≤ N + 1 ∧ s = .slice ad rs.length c ∧ i = .int .i64 (k : Int) ∧ rs.length = 3 * k ∧ (∀ i, i < rs.length → (rod rs i).length = 4) ∧ OwnR wr w2.heap.size (.slice ad rs.length c) xs rs ∧ RdOk wr g (62 + 2 * k) ∧ w2.grownBy wr (some g)) (fun _ i _ => N + 1 - (intOf i).toNat)
    case atStart => exact ⟨0, 0, some ⟨w2.heap.size, 0, none⟩, [], [], by omega, rfl, rfl, rfl, fun i hi => by simp at hi, O3.out, R3.out.more (by omega), G3.out⟩
    case round =>
      obtain ⟨k, c, ad, xs, rs, hk, rfl, rfl, hlen, h4, ho, hr, hgr⟩ := hrel
      have hsz := hgr.size
      have HO := Lib.hid ho
      have HR := Lib.hid hr
      have HGR := Lib.hid hgr
      have HL := Lib.hid hlen
      have H4 := Lib.hid h4
      have hol : rs.length ≤ 9 := by omega
      clear ho hr hgr hlen h4
      by_cases hlt : k < N + 1
      · go_wp2_with fail
        refine (pick_ok _ g (62 + 2 * k) _ ((HR.out.alloc _).alloc _) (by omega) (by omega)).mono ?_
        rintro e w4 ⟨y, rfl, y0, y1, r4, g4⟩
        have R4 := Lib.hid r4
        have g4' := Lib.hid (grown_trans (grown_trans (World.grownBy_alloc wr _ (some g)) (World.grownBy_alloc _ _ (some g))) g4)
        have L1 := Lib.hid ((own_lit wr w2.heap.size [0, 1, 2, 3] (by omega) (by simp)).kept (World.grownBy_alloc _ (.cells #[.int .i64 4, .int .i64 5, .int .i64 6, .int .i64 7] 3) none) (fun r hr => by cases hr) |>.rd g4 (by omega))
        have L2 := Lib.hid ((own_lit (wr.alloc (.cells #[.int .i64 0, .int .i64 1, .int .i64 2, .int .i64 3] 3)) w2.heap.size [4, 5, 6, 7] (by simp; omega) (by simp)).rd g4 (by omega))
        have s4 : wr.heap.size + 1 + 1 ≤ w4.heap.size := by have := g4.size; simpa using this
        clear r4 g4
        go_wp2_with fail
        refine (pick_ok _ g (62 + 2 * k + 1) _ R4.out (by omega) (by omega)).mono ?_
        rintro e w5 ⟨z, rfl, z0, z1, r5, g5⟩
        have R5 := Lib.hid r5
        have s5 := g5.size
        have M1 := Lib.hid (L1.out.rd g5 (by omega))
        have M2 := Lib.hid (L2.out.rd g5 (by omega))
        have GG := Lib.hid (grown_trans g4'.out g5)
        clear r5 g5 g4' L1 L2
        have e1 : (wr.alloc (.cells #[.int .i64 0, .int .i64 1, .int .i64 2, .int .i64 3] 3)).heap.size = wr.heap.size + 1 := by simp
        have m2 := M2.out
        rw [e1] at m2
        have OR5 := (HO.out.kept GG.out (fun r hr => by injection hr with hr; omega)).kept (World.grownBy_alloc w5 (.cells #[.int .i64 8, .int .i64 9, .int .i64 y, .int .i64 z] 3) none) (fun r hr => by cases hr)
        have N1 := (M1.out.kept (World.grownBy_alloc w5 (.cells #[.int .i64 8, .int .i64 9, .int .i64 y, .int .i64 z] 3) none) (fun r hr => by cases hr)).all
        have N2 := (m2.kept (World.grownBy_alloc w5 (.cells #[.int .i64 8, .int .i64 9, .int .i64 y, .int .i64 z] 3) none) (fun r hr => by cases hr)).all
        have N3 := (own_lit w5 w2.heap.size [8, 9, y, z] (by omega) (by simp)).all
        have SP : ∀ B, wr.heap.size ≤ B → ∀ g', (Value.slice (some ⟨B, 0, none⟩) 4 4).ownBlock = some g' → (Value.slice ad rs.length c).ownBlock ≠ some g' := fun B hB g' h1 h2 => by
          have h3 := (HO.out.owns.lt g' h2).2
          have h4 : B = g' := by simpa [Value.ownBlock] using h1
          omega
        have SIDE := Lib.hid (show ∀ i, i < [[0, 1, 2, 3], [4, 5, 6, 7], [8, 9, y, z]].length → ∃ a c', [Value.slice (some ⟨wr.heap.size, 0, none⟩) 4 4, Value.slice (some ⟨wr.heap.size + 1, 0, none⟩) 4 4, Value.slice (some ⟨w5.heap.size, 0, none⟩) 4 4][i]? = some (.slice a (rod [[0, 1, 2, 3], [4, 5, 6, 7], [8, 9, y, z]] i).length c') ∧ Own (w5.alloc (.cells #[.int .i64 8, .int .i64 9, .int .i64 y, .int .i64 z] 3)) w2.heap.size (w5.alloc (.cells #[.int .i64 8, .int .i64 9, .int .i64 y, .int .i64 z] 3)).heap.size (.slice a (rod [[0, 1, 2, 3], [4, 5, 6, 7], [8, 9, y, z]] i).length c') (rod [[0, 1, 2, 3], [4, 5, 6, 7], [8, 9, y, z]] i) ∧ ∀ g', (Value.slice a (rod [[0, 1, 2, 3], [4, 5, 6, 7], [8, 9, y, z]] i).length c').ownBlock = some g' → (Value.slice ad rs.length c).ownBlock ≠ some g' from fun i hi =>
          match i, hi with
          | 0, _ => ⟨_, _, rfl, N1, SP _ (by omega)⟩
          | 1, _ => ⟨_, _, rfl, N2, SP _ (by omega)⟩
          | 2, _ => ⟨_, _, rfl, N3, SP _ (by omega)⟩)
        have N4 := Lib.hid (show ∀ i, i < [[0, 1, 2, 3], [4, 5, 6, 7], [8, 9, y, z]].length → (rod [[0, 1, 2, 3], [4, 5, 6, 7], [8, 9, y, z]] i).length = 4 from fun i hi =>
          match i, hi with
          | 0, _ => rfl
          | 1, _ => rfl
          | 2, _ => rfl)
        have OR6 := Lib.hid OR5
        have G6 := Lib.hid (grown_trans GG.out (World.grownBy_alloc w5 (.cells #[.int .i64 8, .int .i64 9, .int .i64 y, .int .i64 z] 3) (some g)))
        have R6 := Lib.hid (R5.out.alloc (.cells #[.int .i64 8, .int .i64 9, .int .i64 y, .int .i64 z] 3))
        clear e1 m2 OR5 N1 N2 N3 SP
        go_wp2_with (at_builtin; refine wpList_push_rods rfl _ _ rfl (w5.alloc (.cells #[.int .i64 8, .int .i64 9, .int .i64 y, .int .i64 z] 3)) w2.heap.size [.slice (some ⟨wr.heap.size, 0, none⟩) 4 4, .slice (some ⟨wr.heap.size + 1, 0, none⟩) 4 4, .slice (some ⟨w5.heap.size, 0, none⟩) 4 4] [[0, 1, 2, 3], [4, 5, 6, 7], [8, 9, y, z]] xs rs ad c rfl (by simp; rfl) OR6.out rfl SIDE.out (by simp; omega) (by omega) (by simp) ?_; intro ad' c' w6 o6 b6 s6)
        have O6 := Lib.hid o6
        have R7 := Lib.hid (R6.out.kept b6 (by omega))
        have G7 := Lib.hid (grown_below (grown_trans HGR.out G6.out) b6)
        clear o6 b6
        go_wp2_with fail
        go_roundw
        case rel =>
          refine ⟨k + 1, c', ad', xs ++ [.slice (some ⟨wr.heap.size, 0, none⟩) 4 4, .slice (some ⟨wr.heap.size + 1, 0, none⟩) 4 4, .slice (some ⟨w5.heap.size, 0, none⟩) 4 4], rs ++ [[0, 1, 2, 3], [4, 5, 6, 7], [8, 9, y, z]], by omega, by simp, by go_num, by simp [HL.out]; omega, rod_small_cat H4.out N4.out, ?_, R7.out.more (by omega), G7.out⟩
          have := O6.out
          simpa using this
        case measure => simp [intOf]; omega
      · have OR := Lib.hid HO.out.rods.rods
        have G6 := Lib.hid (grown_trans G2.out HGR.out)
        go_wp2_with fail
        go_ret
        exact ⟨ad, c, rs, rfl, OR.out, hol, fun i hi => by rw [H4.out i hi]; omega, below_rdC BA.out (by rw [HG.out]; exact G6.out)⟩
end Go.Proofs.Ythgecmdmoghmpaa
