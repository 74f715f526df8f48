
/-
  The contract of the draw of a case and a numeral. No condition but that fewer than some hundred thousand picks came before. (The drawn region of the loop is printed by a program, operation by operation.)
-/
import Derived.Test.YthgecmdmoghmpaaDrawC2
import Derived.IntWalk
namespace Go.Proofs.Ythgecmdmoghmpaa
open Go.RowKit

/-- 'append(out, x)' at a step of a drawn region. -/
theorem step_push {ops : Array Oper} {o : Oper} {a : Act} {K : Act → World → Prop} {Q : Exit → Act → World → Prop} {E : Prop} (hgd : o.guard = none) (s x : Operand)
    (ho : o.op = .call { callee := .builtin .append, args := #[s, x], argTypes := #[23, 23] })
    (W : World) (base hi : Nat) (d : Int) (out : List Int) (a0 : Option Addr) (cap : Nat) (hs : a.eval s = .slice a0 out.length cap) (hx : a.eval x = .slice (some ⟨W.heap.size, 0, none⟩) 1 1)
    (hown : Own W base hi (.slice a0 out.length cap) out) (hb : base ≤ W.heap.size) (hl : out.length ≤ 1000000)
    (h : ∀ a' c' w', Own w' base w'.heap.size (.slice a' (out.length + 1) c') (out ++ [d]) → Below base W w' → K (a.put o.dst (.slice a' (out.length + 1) c')) w') :
    if Region.wanted o (yielded ops a.tmps) = true then Oper.wp Try.prog o a (W.alloc (.cells #[.int .i64 d] 3)) K Q else E := by
  obtain ⟨i0, hi0, hz0, hz1, hz2⟩ := info_parts int_info
  refine step_append_lies _ hgd s x 23 ho base 3 i0 (.int .i64 0) 1 8 Try.underlying23 hi0 hz0 hz1 hz2 rfl (by decide) _ _ _ hs (hown.owns.alloc _) ⟨W.heap.size, 0, none⟩ 1 1 [.int .i64 d] hx rfl (news_one _ _ _) (news_one1 rfl) (by decide) (by unfold maxLen; omega) (by omega) (by simp; omega) _ rfl ?_
  intro g cap' w' ho' hg' _ _
  rw [IV_snoc] at ho'
  have hlen : (out ++ [d]).length = out.length + 1 := by simp
  have ho2 : w'.ownsRow base 3 1 (.slice (some ⟨g, 0, none⟩) (out.length + 1) cap') (out ++ [d]).length (IV (out ++ [d])) := by
    rw [hlen]
    exact ho'
  exact h _ _ _ (Own.of ho2) (((Below.refl base W).alloc hb _).grown hg' (by simp; omega) (fun r hr => (hown.owns.lt r hr).1))

/-- A case and a numeral that are drawn. -/
def DrewShown (w : World) (g q : Nat) (e : Ending) (w' : World) : Prop :=
  ∃ a cap rs b cb ds, e = .returned (.tuple #[.slice a rs.length cap, .slice b (List.length ds) cb]) ∧ RodsFrom w.heap.size w' a rs ∧ rs.length ≤ 8 ∧ rs.length ≤ cap ∧ cap ≤ maxLen ∧ (∀ i, i < rs.length → (rod rs i).length ≤ 4) ∧
    Row .i64 w' b ds ∧ ds.length ≤ 7 ∧ ds.length ≤ cb ∧ cb ≤ maxLen ∧ RdOk w' g q ∧ w.grownBy w' (some g)

set_option maxRecDepth 100000 in
set_option maxHeartbeats 2000000 in
theorem l91Shown_any (w : World) (g q : Nat) (h : RdOk w g q) (hq : q ≤ 800000) :
    Calls Try.prog 37 #[.pointer (some ⟨g, 0, none⟩)] w (DrewShown w g (q + 100)) := by
  have hg := h.lt
  have H := Lib.hid h
  clear h
  go_enter Try.func37, Try.ntmps37
  go_wp2_with fail
  refine (l91Case_any _ g q H.out (by omega)).mono ?_
  rintro e w1 ⟨a, cap, rs, rfl, rf, hl8, hcl, hcm, h34, r1, g1⟩
  have s1 := g1.size
  have RF := Lib.hid rf
  have R1 := Lib.hid r1
  have G1 := Lib.hid g1
  have S4 := Lib.hid h34
  have LE4 := Lib.hid (show ∀ i, i < rs.length → (rod rs i).length ≤ 4 from fun i hi => by rcases h34 i hi with e | ⟨_, e⟩ <;> omega)
  clear rf r1 g1 h34
  have last : ∀ (W : World) (qq : Nat), RodsFrom w.heap.size W a rs → w.grownBy W (some g) → RdOk W g qq → qq ≤ q + 62 →
      Calls Try.prog 44 #[.pointer (some ⟨g, 0, none⟩), .int .i64 4] W fun e W' => ∃ b cb ds, e = .returned (.slice b (List.length ds) cb) ∧ RodsFrom w.heap.size W' a rs ∧ Row .i64 W' b ds ∧ ds.length ≤ 7 ∧ ds.length ≤ cb ∧ cb ≤ maxLen ∧ RdOk W' g (q + 100) ∧ w.grownBy W' (some g) := by
    intro W qq k1 k2 k3 k4
    refine (l91Numeral_any W g qq 4 k3 (by omega) (by omega) (by omega)).mono ?_
    rintro e W' ⟨b, cb, ds, rfl, _, hd7, o, r, gg⟩
    exact ⟨b, cb, ds, rfl, k1.grown gg (fun r hr => by injection hr with hr; omega), o.row, hd7, o.caps.1, o.caps.2, r.more (by omega), grown_trans k2 gg⟩
  have LAST := Lib.hid last
  clear last
  by_cases h1 : 1 < rs.length
  · obtain ⟨b, off, a', c', rfl, _, hcell, _, _, _⟩ := RF.out.rods.at_ (i := 0) (by omega)
    rw [Nat.add_zero] at hcell
    have d1 : decide ((1 : Int) < (rs.length : Int)) = true := decide_eq_true (by omega)
    have j0 : 0 < rs.length := by omega
    by_cases h4 : (rod rs 0).length = 4
    · rw [h4] at hcell
      have ALL4 := Lib.hid (show ∀ i, i < rs.length → (rod rs i).length = 4 from fun i hi => by rcases S4.out i hi with e | ⟨e1, e2⟩; exact e; subst e1; omega)
      clear h4
      go_wp2_with fail
      refine (pick_ok _ g (q + 60) _ R1.out (by omega) (by omega)).mono ?_
      rintro e w2 ⟨x, rfl, x0, x3, r2, g2⟩
      have s2 := g2.size
      have RF2 := Lib.hid (RF.out.grown g2 (fun r hr => by injection hr with hr; omega))
      have R2 := Lib.hid r2
      have G2 := Lib.hid (grown_trans G1.out g2)
      clear r2 g2 hcell
      by_cases hx : x = 0
      · subst hx
        go_wp2_with fail
        refine (LAST.out _ (q + 60 + 1) RF2.out G2.out R2.out (by omega)).mono ?_
        rintro e w3 ⟨b3, cb, ds, rfl, k1, k2, k3, k4, k5, k6, k7⟩
        have K1 := Lib.hid k1
        have K2 := Lib.hid k2
        have K6 := Lib.hid k6
        have K7 := Lib.hid k7
        clear k1 k2 k6 k7
        go_wp2_with fail
        go_ret2
        exact ⟨_, _, rs, b3, cb, ds, rfl, K1.out, hl8, hcl, hcm, LE4.out, K2.out, k3, k4, k5, K6.out, K7.out⟩
      · have hx1 : decide (0 < x) = true := decide_eq_true (by omega)
        have hx2 : 0 < x := by omega
        go_wp2_with fail
        all_goals
          refine (pick_ok _ g (q + 61) _ (R2.out.alloc _) (by omega) (by omega)).mono ?_
          rintro e w4 ⟨n, rfl, n0, n1, r4, g4⟩
          obtain ⟨N, hN, hN2, hN1⟩ : ∃ N : Nat, n = (N : Int) ∧ N + 1 ≤ rs.length ∧ N + 1 ≤ 4 := ⟨n.toNat, by omega, by omega, by omega⟩
          subst hN
          have s4 := g4.size
          have s4' : w2.heap.size + 1 ≤ w4.heap.size := by simpa using s4
          have gx : w2.grownBy w4 (some g) := grown_trans (World.grownBy_alloc w2 _ (some g)) g4
          have ON := Lib.hid ((own_new w2 w2.heap.size (Nat.le_refl _)).rd g4 (by omega)).all
          have RF4 := Lib.hid (RF2.out.grown gx (fun r hr => by injection hr with hr; omega))
          have R4 := Lib.hid r4
          have GX := Lib.hid gx
          have G4 := Lib.hid (grown_trans G2.out gx)
          clear r4 g4 gx s4 n0 n1
          go_wp2_with fail
          go_loopw [5, 7] (fun s i wr => ∃ j cs : Nat, ∃ az : Option Addr, ∃ out : List Int, j ≤ N + 1 ∧ s = .slice az out.length cs ∧ i = .int .i64 (j : Int) ∧ out.length = j ∧ Own wr w2.heap.size wr.heap.size (.slice az out.length cs) out ∧ RdOk wr g (q + 62 + j) ∧ w2.grownBy wr (some g)) (fun _ i _ => N + 1 - (intOf i).toNat)
          case atStart => exact ⟨0, 0, some ⟨w2.heap.size, 0, none⟩, [], by omega, rfl, rfl, rfl, ON.out, R4.out, GX.out⟩
          case round =>
            obtain ⟨j, cs, az, out, hj, rfl, rfl, hlen, ho, hr, hgr⟩ := hrel
            have hsz := hgr.size
            have HO := Lib.hid ho
            have HR := Lib.hid hr
            have HG := Lib.hid hgr
            have HL := Lib.hid hlen
            have hol : out.length ≤ 4 := by omega
            have RFR := Lib.hid (RF2.out.grown hgr (fun r hr => by injection hr with hr; omega))
            clear ho hr hgr hlen
            by_cases hlt : j < N + 1
            · obtain ⟨bq, oq, eq1, lbq, lbq2, hq⟩ := RFR.out (by omega)
              obtain ⟨bp, op, eq2, _, lbp2, _⟩ := RF2.out (by omega)
              obtain ⟨rfl, rfl⟩ : b = bq ∧ off = oq := by injection eq1 with e; injection e with e1 e2; exact ⟨e1, e2⟩
              obtain ⟨rfl, rfl⟩ : b = bp ∧ off = op := by injection eq2 with e; injection e with e1 e2; exact ⟨e1, e2⟩
              clear eq1 eq2
              have hb2 : b < w2.heap.size := lbp2
              obtain ⟨idx, hidx⟩ : ∃ idx, rs.length - 1 - j = idx := ⟨_, rfl⟩
              have kidx : idx < rs.length := by omega
              obtain ⟨a2, c1, hcell, _, _, hrow⟩ := hq idx kidx
              rw [ALL4.out idx kidx] at hcell
              have hz4 := ALL4.out idx kidx
              obtain ⟨b1, o1, rfl, lb1, lb1', hside⟩ := hrow (by omega)
              rw [hz4] at hside
              generalize rod rs idx = zs at *
              have HSIDE := Lib.hid hside
              have hbg : b ≠ g := by omega
              have hb1g : b1 ≠ g := by omega
              have k0 : (idx : Int) < (rs.length : Int) := by omega
              have u1 : IntKind.i64.wrap ((rs.length : Int) - 1) = (rs.length : Int) - 1 := IntWalk.i64_in _ (by omega)
              have u2 : IntKind.i64.wrap ((rs.length : Int) - 1 - (j : Int)) = (idx : Int) := by rw [show (rs.length : Int) - 1 - (j : Int) = (idx : Int) by omega]; exact IntWalk.i64_in _ (by omega)
              clear hside hidx hrow hq hz4
              go_wp2_with fail
              refine wp_region_held_drew (S := fun w' => w'.cell? ⟨b, off + idx, none⟩ = some (.slice (some ⟨b1, o1, none⟩) 4 c1)) (by kernel_rfl) hcell (fun hHeld => ?_)
              refine wpAnyH_take (i := 0) (oi := { dst := some 38, op := Go.Op.move (Go.Operand.tmp 5), type := 23, pos := "l91_draw.go:365", after := #[], guard := none }) (v := ?_) rfl (by kernel_rfl) (by kernel_rfl) (by kernel_rfl) (fun _ _ _ h => h) (Or.inl ⟨by rfl, ?_⟩) (by assumption) ?_
              rotate_left
              · intro w' hSw; (try dsimp only at hSw); go_simp; (try with_reducible rfl)
              try simp only [Act.put, List.setIfInBounds_toArray, List.set_cons_zero, List.set_cons_succ]
              refine wpAnyH_take (i := 1) (oi := { dst := some 39, op := Go.Op.move (Go.Operand.tmp 4), type := 26, pos := "l91_draw.go:365", after := #[], guard := none }) (v := ?_) rfl (by kernel_rfl) (by kernel_rfl) (by kernel_rfl) (fun _ _ _ h => h) (Or.inl ⟨by rfl, ?_⟩) (by assumption) ?_
              rotate_left
              · intro w' hSw; (try dsimp only at hSw); go_simp; (try with_reducible rfl)
              try simp only [Act.put, List.setIfInBounds_toArray, List.set_cons_zero, List.set_cons_succ]
              refine wpAnyH_take (i := 2) (oi := { dst := some 40, op := Go.Op.move (Go.Operand.tmp 4), type := 26, pos := "l91_draw.go:365", after := #[], guard := none }) (v := ?_) rfl (by kernel_rfl) (by kernel_rfl) (by kernel_rfl) (fun _ _ _ h => h) (Or.inl ⟨by rfl, ?_⟩) (by assumption) ?_
              rotate_left
              · intro w' hSw; (try dsimp only at hSw); go_simp; (try with_reducible rfl)
              try simp only [Act.put, List.setIfInBounds_toArray, List.set_cons_zero, List.set_cons_succ]
              refine wpAnyH_take (i := 3) (oi := { dst := some 41, op := Go.Op.call { callee := Go.Callee.builtin Go.Builtin.len, args := #[Go.Operand.tmp 40], argTypes := #[26] }, type := 3, pos := "l91_draw.go:365", after := #[{ on := 2, ground := Go.Ground.data }], guard := none }) (v := ?_) rfl (by kernel_rfl) (by kernel_rfl) (by kernel_rfl) (fun _ _ _ h => h) (Or.inl ⟨by rfl, ?_⟩) (by assumption) ?_
              rotate_left
              · intro w' hSw; (try dsimp only at hSw); go_simp; (try with_reducible rfl)
              try simp only [Act.put, List.setIfInBounds_toArray, List.set_cons_zero, List.set_cons_succ]
              refine wpAnyH_take (i := 4) (oi := { dst := some 42, op := Go.Op.binOp Go.BinOp.sub 3 (Go.Operand.tmp 41) (Go.Operand.const (Go.Value.int Go.IntKind.i64 1)) 3, type := 3, pos := "l91_draw.go:365", after := #[{ on := 3, ground := Go.Ground.data }], guard := none }) (v := ?_) rfl (by kernel_rfl) (by kernel_rfl) (by kernel_rfl) (fun _ _ _ h => h) (Or.inl ⟨by rfl, ?_⟩) (by assumption) ?_
              rotate_left
              · intro w' hSw; (try dsimp only at hSw); go_simp; (try with_reducible rfl)
              try simp only [Act.put, List.setIfInBounds_toArray, List.set_cons_zero, List.set_cons_succ]
              refine wpAnyH_take (i := 5) (oi := { dst := some 43, op := Go.Op.move (Go.Operand.tmp 7), type := 3, pos := "l91_draw.go:365", after := #[], guard := none }) (v := ?_) rfl (by kernel_rfl) (by kernel_rfl) (by kernel_rfl) (fun _ _ _ h => h) (Or.inl ⟨by rfl, ?_⟩) (by assumption) ?_
              rotate_left
              · intro w' hSw; (try dsimp only at hSw); go_simp; (try with_reducible rfl)
              try simp only [Act.put, List.setIfInBounds_toArray, List.set_cons_zero, List.set_cons_succ]
              refine wpAnyH_take (i := 6) (oi := { dst := some 44, op := Go.Op.binOp Go.BinOp.sub 3 (Go.Operand.tmp 42) (Go.Operand.tmp 43) 3, type := 3, pos := "l91_draw.go:365", after := #[{ on := 4, ground := Go.Ground.data }, { on := 5, ground := Go.Ground.data }], guard := none }) (v := ?_) rfl (by kernel_rfl) (by kernel_rfl) (by kernel_rfl) (fun _ _ _ h => h) (Or.inl ⟨by rfl, ?_⟩) (by assumption) ?_
              rotate_left
              · intro w' hSw; (try dsimp only at hSw); go_simp; (try with_reducible rfl)
              try simp only [Act.put, List.setIfInBounds_toArray, List.set_cons_zero, List.set_cons_succ]
              refine wpAnyH_take (i := 7) (oi := { dst := some 45, op := Go.Op.indexAddr 26 (Go.Operand.tmp 39) (Go.Operand.tmp 44), type := 0, pos := "l91_draw.go:365", after := #[{ on := 1, ground := Go.Ground.data }, { on := 6, ground := Go.Ground.data }], guard := none }) (v := ?_) rfl (by kernel_rfl) (by kernel_rfl) (by kernel_rfl) (fun _ _ _ h => h) (Or.inl ⟨by rfl, ?_⟩) (by assumption) ?_
              rotate_left
              · intro w' hSw; (try dsimp only at hSw); go_simp; (try with_reducible rfl)
              try simp only [Act.put, List.setIfInBounds_toArray, List.set_cons_zero, List.set_cons_succ]
              refine wpAnyH_take (i := 8) (oi := { dst := some 46, op := Go.Op.fieldAddr 41 (Go.Operand.tmp 45) 0, type := 0, pos := "l91_draw.go:365", after := #[{ on := 7, ground := Go.Ground.data }], guard := none }) (v := ?_) rfl (by kernel_rfl) (by kernel_rfl) (by kernel_rfl) (fun _ _ _ h => h) (Or.inl ⟨by rfl, ?_⟩) (by assumption) ?_
              rotate_left
              · intro w' hSw; (try dsimp only at hSw); go_simp; (try with_reducible rfl)
              try simp only [Act.put, List.setIfInBounds_toArray, List.set_cons_zero, List.set_cons_succ]
              refine wpAnyH_take (i := 9) (oi := { dst := some 47, op := Go.Op.load 23 (Go.Operand.tmp 46), type := 23, pos := "l91_draw.go:365", after := #[{ on := 8, ground := Go.Ground.data }], guard := none }) (v := ?_) rfl (by kernel_rfl) (by kernel_rfl) (by kernel_rfl) (fun _ _ _ h => h) (Or.inl ⟨by rfl, ?_⟩) (by assumption) ?_
              rotate_left
              · intro w' hSw; (try dsimp only at hSw); go_simp; (try with_reducible rfl)
              try simp only [Act.put, List.setIfInBounds_toArray, List.set_cons_zero, List.set_cons_succ]
              refine wpAnyH_take (i := 10) (oi := { dst := some 48, op := Go.Op.move (Go.Operand.tmp 0), type := 55, pos := "l91_draw.go:365", after := #[], guard := none }) (v := ?_) rfl (by kernel_rfl) (by kernel_rfl) (by kernel_rfl) (fun _ _ _ h => h) (Or.inl ⟨by rfl, ?_⟩) (by assumption) ?_
              rotate_left
              · intro w' hSw; (try dsimp only at hSw); go_simp; (try with_reducible rfl)
              try simp only [Act.put, List.setIfInBounds_toArray, List.set_cons_zero, List.set_cons_succ]
              refine wpAnyH_ready (rs := [11]) (by kernel_rfl) (by simp) ?_
              refine AllReadyH.cons (o := { dst := some 49, op := Go.Op.call { callee := Go.Callee.value (Go.Operand.func 36), args := #[Go.Operand.tmp 48, Go.Operand.const (Go.Value.int Go.IntKind.i64 4)], argTypes := #[55, 3] }, type := 3, pos := "l91_draw.go:365", after := #[{ on := 10, ground := Go.Ground.data }], guard := none }) rfl (fun K hK => ?_) AllReadyH.nil
              go_simp
              refine (pick_ok _ g (q + 62 + j) _ HR.out.drewC (by omega) (by omega)).mono ?_
              rintro e w5 ⟨z', rfl, z0, z1, r2, g2⟩
              obtain ⟨z, rfl⟩ : ∃ n : Nat, z' = n := ⟨z'.toNat, by omega⟩
              have g2' : wr.grownBy w5 (some g) := grown_trans (grown_drewC (grown_refl wr (some g))) g2
              have hcell2 := cell_overC g2' hcell hbg
              have hside2 := cell_overC g2' (HSIDE.out z (by omega)) hb1g
              have s5 := g2'.size
              have o2 := (HO.out.rd g2' (by omega)).all
              have R5 := Lib.hid r2
              have G5 := Lib.hid (grown_trans HG.out g2')
              clear r2 g2 g2'
              have j4 : (z : Int) < 4 := by omega
              go_wp2_with fail
              refine hK.out _ _ ?_ (fun hHeld => ?_)
              · exact hcell2
              clear hK K
              try simp only [Act.put, List.setIfInBounds_toArray, List.set_cons_zero, List.set_cons_succ]
              refine wpAnyH_take (i := 12) (oi := { dst := some 50, op := Go.Op.indexAddr 23 (Go.Operand.tmp 47) (Go.Operand.tmp 49), type := 0, pos := "l91_draw.go:365", after := #[{ on := 9, ground := Go.Ground.data }, { on := 11, ground := Go.Ground.data }], guard := none }) (v := ?_) rfl (by kernel_rfl) (by kernel_rfl) (by kernel_rfl) (fun _ _ _ h => h) (Or.inl ⟨by rfl, ?_⟩) (by assumption) ?_
              rotate_left
              · intro w' hSw; (try dsimp only at hSw); go_simp; (try with_reducible rfl)
              try simp only [Act.put, List.setIfInBounds_toArray, List.set_cons_zero, List.set_cons_succ]
              refine wpAnyH_ready (rs := [13]) (by kernel_rfl) (by simp) ?_
              refine AllReadyH.cons (o := { dst := some 51, op := Go.Op.load 3 (Go.Operand.tmp 50), type := 3, pos := "l91_draw.go:365", after := #[{ on := 12, ground := Go.Ground.data }], guard := none }) rfl (fun K hK => ?_) AllReadyH.nil
              go_simp
              refine hK.out _ _ ?_ (fun hHeld => ?_)
              · exact hcell2
              clear hK K
              try simp only [Act.put, List.setIfInBounds_toArray, List.set_cons_zero, List.set_cons_succ]
              have hb5 : b < w5.heap.size := by omega
              refine wpAnyH_ready (rs := [14]) (by kernel_rfl) (by simp) ?_
              refine AllReadyH.cons (o := { dst := some 52, op := Go.Op.buildSlice 23 1 #[(0, Go.Operand.tmp 51)], type := 23, pos := "l91_draw.go:365", after := #[{ on := 13, ground := Go.Ground.data }], guard := none }) rfl (fun K hK => ?_) AllReadyH.nil
              go_simp
              refine hK.out _ _ ?_ (fun hHeld => ?_)
              · exact (World.cell?_alloc_lt _ _ _ hb5).trans hcell2
              clear hK K
              try simp only [Act.put, List.setIfInBounds_toArray, List.set_cons_zero, List.set_cons_succ]
              refine wpAnyH_ready (rs := [15]) (by kernel_rfl) (by simp) ?_
              refine AllReadyH.cons (o := { dst := some 53, op := Go.Op.call { callee := Go.Callee.builtin Go.Builtin.append, args := #[Go.Operand.tmp 38, Go.Operand.tmp 52], argTypes := #[23, 23] }, type := 23, pos := "l91_draw.go:365", after := #[{ on := 0, ground := Go.Ground.data }, { on := 14, ground := Go.Ground.data }, { on := 11, ground := Go.Ground.chain }], guard := none }) rfl (fun K hK => ?_) AllReadyH.nil
              refine step_push rfl _ _ rfl w5 w2.heap.size w5.heap.size (nth zs z) out az cs (by rfl) (by rfl) o2 (by omega) (by omega) (fun ad' c' w6 o3 b3 => ?_)
              have O6 := Lib.hid o3
              have R6 := Lib.hid (R5.out.kept b3 (by omega))
              have G6 := Lib.hid (grown_below G5.out b3)
              have hcell3 := (b3.cell (p := ⟨b, off + idx, none⟩) hb2).trans hcell2
              clear o2 o3 b3
              refine hK.out _ _ ?_ (fun hHeld => ?_)
              · exact hcell3
              clear hK K
              try simp only [Act.put, List.setIfInBounds_toArray, List.set_cons_zero, List.set_cons_succ]
              refine wpAnyH_take (i := 16) (oi := { dst := some 5, op := Go.Op.assign (Go.Operand.tmp 53), type := 23, pos := "l91_draw.go:365", after := #[{ on := 15, ground := Go.Ground.data }, { on := 15, ground := Go.Ground.chain }, { on := 0, ground := Go.Ground.phase }, { on := 1, ground := Go.Ground.phase }, { on := 2, ground := Go.Ground.phase }, { on := 3, ground := Go.Ground.phase }, { on := 4, ground := Go.Ground.phase }, { on := 5, ground := Go.Ground.phase }, { on := 6, ground := Go.Ground.phase }, { on := 7, ground := Go.Ground.phase }, { on := 8, ground := Go.Ground.phase }, { on := 9, ground := Go.Ground.phase }, { on := 10, ground := Go.Ground.phase }, { on := 11, ground := Go.Ground.phase }, { on := 12, ground := Go.Ground.phase }, { on := 13, ground := Go.Ground.phase }, { on := 14, ground := Go.Ground.phase }, { on := 15, ground := Go.Ground.phase }], guard := none }) (v := ?_) rfl (by kernel_rfl) (by kernel_rfl) (by kernel_rfl) (fun _ _ _ h => h) (Or.inl ⟨by rfl, ?_⟩) (by assumption) ?_
              rotate_left
              · intro w' hSw; (try dsimp only at hSw); go_simp; (try with_reducible rfl)
              try simp only [Act.put, List.setIfInBounds_toArray, List.set_cons_zero, List.set_cons_succ]
              refine wpAnyH_done (by kernel_rfl) ?_ _
              clear u1 u2
              go_wp2_with fail
              go_roundw
              case rel =>
                refine ⟨j + 1, c', ad', out ++ [nth zs z], by omega, by simp, by go_num, by simp [HL.out], ?_, R6.out.more (by omega), G6.out⟩
                have := O6.out
                simpa using this
              case measure => simp [intOf]; omega
            · have ocap := HO.out.caps
              have OROW := Lib.hid HO.out.row
              go_wp2_with fail
              go_ret2
              exact ⟨_, _, rs, az, cs, out, rfl, RFR.out, hl8, hcl, hcm, LE4.out, OROW.out, by omega, ocap.1, ocap.2, HR.out.more (by omega), grown_trans G2.out HG.out⟩
    · have h43 : (((rod rs 0).length : Int) == 4) = false := beq_eq_false_iff_ne.2 (by omega)
      have h43' : ((rod rs 0).length == 4) = false := beq_eq_false_iff_ne.2 h4
      clear h4
      go_wp2_with fail
      refine (LAST.out _ (q + 60) RF.out G1.out R1.out (by omega)).mono ?_
      rintro e w3 ⟨b3, cb, ds, rfl, k1, k2, k3, k4, k5, k6, k7⟩
      have K1 := Lib.hid k1
      have K2 := Lib.hid k2
      have K6 := Lib.hid k6
      have K7 := Lib.hid k7
      clear k1 k2 k6 k7
      go_wp2_with fail
      go_ret2
      exact ⟨_, _, rs, b3, cb, ds, rfl, K1.out, hl8, hcl, hcm, LE4.out, K2.out, k3, k4, k5, K6.out, K7.out⟩
  · have d1 : decide ((1 : Int) < (rs.length : Int)) = false := decide_eq_false (by omega)
    have d2 : decide (1 < rs.length) = false := decide_eq_false h1
    go_wp2_with fail
    refine (LAST.out _ (q + 60) RF.out G1.out R1.out (by omega)).mono ?_
    rintro e w3 ⟨b3, cb, ds, rfl, k1, k2, k3, k4, k5, k6, k7⟩
    have K1 := Lib.hid k1
    have K2 := Lib.hid k2
    have K6 := Lib.hid k6
    have K7 := Lib.hid k7
    clear k1 k2 k6 k7
    go_wp2_with fail
    go_ret2
    exact ⟨_, _, rs, b3, cb, ds, rfl, K1.out, hl8, hcl, hcm, LE4.out, K2.out, k3, k4, k5, K6.out, K7.out⟩
end Go.Proofs.Ythgecmdmoghmpaa
