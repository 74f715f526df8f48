
/-
  The contract of the draw of a case of rods. No condition but that fewer than some hundred thousand picks came before.
-/
import Derived.Test.YthgecmdmoghmpaaDrawC
import Derived.Deep.RegionHeld3
import Derived.Deep.RegionWith
namespace Go.Proofs.Ythgecmdmoghmpaa
open Go.RowKit

/-- Rods that are drawn. -/
def DrewRods (w : World) (g q m : Nat) (e : Ending) (w' : World) : Prop :=
  ∃ a cap rs, e = .returned (.slice a rs.length cap) ∧ RodsFrom w.heap.size w' a rs ∧ rs.length ≤ m ∧ rs.length ≤ cap ∧ cap ≤ maxLen ∧ (∀ i, i < rs.length → (rod rs i).length = 4 ∨ i = 0 ∧ (rod rs i).length = 3) ∧ RdOk w' g q ∧ w.grownBy w' (some g)
theorem rod_small_snoc {rs : List (List Int)} {zs : List Int} {m : Nat} (h : ∀ i, i < rs.length → (rod rs i).length = m) (hz : zs.length = m) : ∀ i, i < (rs ++ [zs]).length → (rod (rs ++ [zs]) i).length = m := by
  intro i hi
  rw [List.length_append] at hi
  by_cases e : i < rs.length
  · rw [rod_snoc e]; exact h i e
  · have : i = rs.length := by simp at hi; omega
    subst this
    have hr : rod (rs ++ [zs]) rs.length = zs := by simp [rod]
    rw [hr]; exact hz

theorem frozen_grown {w w' : World} {row : Option Nat} {b i : Nat} (hg : w.grownBy w' row) (hb : b < w.heap.size) (hne : some b ≠ row) : w'.frozen? ⟨b, i, none⟩ = w.frozen? ⟨b, i, none⟩ := by
  simp [World.frozen?, hg.block b hb hne]
theorem two_at (W : World) (x y : Int) {k : Nat} (h : k < 2) : (W.alloc (.cells #[.int .i64 x, .int .i64 y] 3)).cell? ⟨W.heap.size, k, none⟩ = some (.int .i64 (nth [x, y] k)) := by
  refine (cell_new W _ _ k).trans ?_
  match k, h with
  | 0, _ => rfl
  | 1, _ => rfl
theorem cell_overC {W W' : World} {g b y : Nat} {v : Value} (hg : W.grownBy W' (some g)) (hc : W.cell? ⟨b, y, none⟩ = some v) (hb : b ≠ g) : W'.cell? ⟨b, y, none⟩ = some v :=
  hg.cell (a := ⟨b, y, none⟩) hc (fun e => hb (by simpa using e))
theorem RdOk.drewC {w : World} {g q : Nat} (h : RdOk w g q) : RdOk w.drew g q := h.drewN 1
theorem grown_drewC {a w : World} {row : Option Nat} (h : a.grownBy w row) : a.grownBy w.drew row := ⟨h.os, h.tape, h.output, h.size, h.block⟩
/-- The first rod, its cell, its first side. -/
theorem OwnR.head {w : World} {lo : Nat} {a : Option Addr} {n c : Nat} {xs : List Value} {rs : List (List Int)} (h : OwnR w lo (.slice a n c) xs rs) (hn : 1 ≤ rs.length) (h4 : (rod rs 0).length = 4) :
    ∃ b b1 c', a = some ⟨b, 0, none⟩ ∧ lo ≤ b ∧ b < w.heap.size ∧ lo ≤ b1 ∧ b1 < w.heap.size ∧ b1 ≠ b ∧ 4 ≤ c' ∧ c' ≤ maxLen ∧ w.cell? ⟨b, 0, none⟩ = some (.slice (some ⟨b1, 0, none⟩) 4 c') ∧ w.frozen? ⟨b, 0, none⟩ = false ∧
      w.cell? ⟨b1, 0, none⟩ = some (.int .i64 (nth (rod rs 0) 0)) ∧ w.frozen? ⟨b1, 0, none⟩ = false ∧ RowFrom lo w (some ⟨b1, 0, none⟩) (rod rs 0) := by
  obtain ⟨a', c', k1, k2, k3⟩ := h.side 0 (by omega)
  obtain ⟨g1, e1, l1, l2, hc1, hf1⟩ := k2.at_ (i := 0) (by omega)
  subst e1
  rcases h.owns.2 with ⟨_, hz⟩ | ⟨b, cap', cur, hv, hlo, hh, _, _, _, _⟩
  · omega
  · have ha : a = some ⟨b, 0, none⟩ := by injection hv
    have hvn : n = rs.length := by injection hv
    subst ha hvn
    have hcell := h.owns.cellAt 0 (by omega)
    rw [k1, h4] at hcell
    have hcap := k2.caps
    refine ⟨b, g1, c', rfl, hlo, (Array.getElem?_eq_some_iff.1 hh).1, l1, l2, fun e => k3 g1 rfl (by simp [Value.ownBlock, e]), by omega, hcap.2, hcell, h.owns.frozenAt 0, hc1, hf1, fun hn2 => ⟨g1, 0, rfl, l1, l2, fun j hj => ?_⟩⟩
    obtain ⟨g2, e2, _, _, hc2, _⟩ := k2.at_ (i := j) hj
    injection e2 with e2
    injection e2 with e2
    subst e2
    rw [Nat.zero_add]
    exact hc2
/-- Rods of which the first has lost its first side. -/
theorem RodsFrom.cut {w : World} {lo b b1 c' : Nat} {rs : List (List Int)} (h : RodsFrom lo w (some ⟨b, 0, none⟩) rs) (hn : 1 ≤ rs.length) (h4 : (rod rs 0).length = 4) (hb : lo ≤ b1) (hne : b1 ≠ b) (hcm : c' ≤ maxLen) (hc4 : 4 ≤ c')
    (hr : RowFrom lo w (some ⟨b1, 0, none⟩) (rod rs 0)) (hap : ∀ i, i < rs.length → ∃ a' c', w.cell? ⟨b, 0 + i, none⟩ = some (.slice a' (rod rs i).length c') ∧ ∀ r : Addr, a' = some r → r.block ≠ b) :
    RodsFrom lo (w.setCell ⟨b, 0, none⟩ (.slice (some ⟨b1, 1, none⟩) 3 (c' - 1))) (some ⟨b, 0, none⟩) (rs.set 0 ((rod rs 0).drop 1)) := fun hn' => by
  rw [List.length_set] at hn'
  obtain ⟨b', off, e, h1, h2, hcell⟩ := h hn'
  injection e with e
  injection e with e1 e2
  subst e1 e2
  refine ⟨b, 0, rfl, h1, by simpa using h2, fun i hi => ?_⟩
  rw [List.length_set] at hi
  by_cases e : i = 0
  · subst e
    have e3 : rod (rs.set 0 ((rod rs 0).drop 1)) 0 = (rod rs 0).drop 1 := by simp [rod, show 0 < rs.length by omega]
    rw [e3]
    have e4 : ((rod rs 0).drop 1).length = 3 := by simp [h4]
    obtain ⟨a', c2, k1, _⟩ := hcell 0 (by omega)
    refine ⟨some ⟨b1, 1, none⟩, c' - 1, ?_, by omega, by omega, ?_⟩
    · rw [e4]
      exact World.cell?_setCell_same _ _ _ k1
    · intro _
      obtain ⟨b2, off2, e5, l1, l2, hrow⟩ := hr (by omega)
      injection e5 with e5
      injection e5 with e5 e6
      subst e5 e6
      refine ⟨b1, 1, rfl, l1, by simpa using l2, fun j hj => ?_⟩
      rw [e4] at hj
      have := hrow (j + 1) (by omega)
      have e7 : nth ((rod rs 0).drop 1) j = nth (rod rs 0) (j + 1) := by simp [nth, Nat.add_comm]
      rw [e7]
      refine (World.cell?_setCell_other w _ _ _ (fun e' => hne (by injection e' with e'; exact e'.symm))).trans ?_
      rw [show (1 : Nat) + j = 0 + (j + 1) by omega]
      exact this
  · have e3 : rod (rs.set 0 ((rod rs 0).drop 1)) i = rod rs i := by
      rw [rod_of _ _ (by simpa using hi), rod_of _ _ hi, List.getElem_set_ne (by omega)]
    rw [e3]
    obtain ⟨a', c2, k1, k2, k3, k4⟩ := hcell i hi
    refine ⟨a', c2, (World.cell?_setCell_other w _ _ _ (fun e' => e (by injection e' with _ e'; omega))).trans k1, k2, k3, fun hn3 => ?_⟩
    obtain ⟨b3, off3, e5, l1, l2, hrow⟩ := k4 hn3
    obtain ⟨a4, c4, j1, j2⟩ := hap i hi
    rw [k1] at j1
    injection j1 with j1
    injection j1 with j1
    subst j1
    refine ⟨b3, off3, e5, l1, by simpa using l2, fun j hj => ?_⟩
    exact (World.cell?_setCell_other w _ _ _ (fun e' => j2 _ e5 (by injection e' with e'; exact e'.symm))).trans (hrow j hj)
theorem OwnR.apart {w : World} {lo b : Nat} {n c : Nat} {xs : List Value} {rs : List (List Int)} (h : OwnR w lo (.slice (some ⟨b, 0, none⟩) n c) xs rs) :
    ∀ i, i < rs.length → ∃ a' c', w.cell? ⟨b, 0 + i, none⟩ = some (.slice a' (rod rs i).length c') ∧ ∀ r : Addr, a' = some r → r.block ≠ b := fun i hi => by
  obtain ⟨a', c', k1, k2, k3⟩ := h.side i hi
  obtain ⟨ax, cx, hv, _⟩ := h.form
  have hvn : n = rs.length := by injection hv
  subst hvn
  refine ⟨a', c', by rw [Nat.zero_add, h.owns.cellAt i (by omega), k1], fun r hr e => ?_⟩
  subst hr
  exact k3 r.block (by simp [Value.ownBlock]) (by simp [Value.ownBlock, e])

theorem drew_poke {w W : World} {g q q' b1 c : Nat} {a : Option Addr} {rs : List (List Int)} {x y : Int} (hr : RodsFrom w.heap.size W a rs) (hl : rs.length ≤ 8) (l1 : rs.length ≤ c) (l2 : c ≤ maxLen) (h4 : ∀ i, i < rs.length → (rod rs i).length = 4)
    (hc : W.cell? ⟨b1, 0, none⟩ = some (.int .i64 y)) (hd : RdOk W g q') (hq : q' ≤ q) (hg : w.grownBy W (some g)) (hgw : g < w.heap.size) (hb : w.heap.size ≤ b1) :
    DrewRods w g q 8 (.returned (.slice a rs.length c)) (W.setCell ⟨b1, 0, none⟩ (.int .i64 x)) := by
  obtain ⟨rs', e1, e2, e3⟩ := hr.poke (x := x) hc
  refine ⟨a, c, rs', by rw [e1], e3, by omega, by omega, l2, fun i hi => .inl (by rw [e2 i (by omega), h4 i (by omega)]), ?_, ?_⟩
  · exact (hd.kept ((Below.refl (g + 1) _).setCell (by show g + 1 ≤ b1; omega) _) (Nat.lt_succ_self g)).more hq
  · exact grown_below hg ((Below.refl _ _).setCell hb _)

theorem drew_alloc {w W : World} {g q m : Nat} {e : Ending} (h : DrewRods w g q m e W) (o : Obj) : DrewRods w g q m e (W.alloc o) := by
  obtain ⟨a, cap, rs, h1, h2, h3, h4, h5, h6, h7, h8⟩ := h
  exact ⟨a, cap, rs, h1, h2.grown (World.grownBy_alloc W o none) (fun r hr => by cases hr), h3, h4, h5, h6, h7.alloc o, grown_trans h8 (World.grownBy_alloc W o (some g))⟩

set_option maxRecDepth 100000 in
set_option maxHeartbeats 1000000 in
theorem l91Case_any (w : World) (g q : Nat) (h : RdOk w g q) (hq : q ≤ 900000) :
    Calls Try.prog 35 #[.pointer (some ⟨g, 0, none⟩)] w (DrewRods w g (q + 60) 8) := by
  have hg := h.lt
  have H := Lib.hid h
  clear h
  have ON := Lib.hid (OwnR.new w w.heap.size (Nat.le_refl _))
  go_enter Try.func35, Try.ntmps35
  go_wp2_with fail
  refine (pick_ok _ g q _ (H.out.alloc _) (by omega) (by omega)).mono ?_
  rintro e w1 ⟨x, rfl, x0, x1, r1, g1⟩
  obtain ⟨m, rfl⟩ : ∃ m : Nat, x = m := ⟨x.toNat, by omega⟩
  have s1 := g1.size
  have s1' : w.heap.size + 1 ≤ w1.heap.size := by simpa using s1
  have O1 := Lib.hid (ON.out.kept g1 (fun r hr => by injection hr with hr; omega))
  have R1 := Lib.hid r1
  have G1 := Lib.hid (grown_trans (World.grownBy_alloc w _ (some g)) g1)
  clear r1 g1 s1 ON
  go_wp2_with fail
  go_loopw [3, 5] (fun s i wr => ∃ k c : Nat, ∃ ad : Option Addr, ∃ xs : List Value, ∃ rs : List (List Int), k ≤ m ∧ s = .slice ad rs.length c ∧ i = .int .i64 k ∧ rs.length = k ∧ (∀ i, i < rs.length → (rod rs i).length = 4) ∧ OwnR wr w.heap.size (.slice ad rs.length c) xs rs ∧ RdOk wr g (q + 1 + 4 * k) ∧ w.grownBy wr (some g)) (fun _ i _ => m - (intOf i).toNat)
  case atStart => exact ⟨0, 0, some ⟨w.heap.size, 0, none⟩, [], [], by omega, rfl, rfl, rfl, fun i hi => by simp at hi, O1.out, R1.out, G1.out⟩
  case round =>
    obtain ⟨k, c, ad, xs, rs, hk, rfl, rfl, hlen, h4, ho, hr, hgr⟩ := hrel
    have hsz := hgr.size
    have HO := Lib.hid ho
    have HR := Lib.hid hr
    have HG := Lib.hid hgr
    have HL := Lib.hid hlen
    have H4 := Lib.hid h4
    have hol : rs.length ≤ 8 := by omega
    clear ho hr hgr hlen h4
    by_cases hlt : k < m
    · have ON := Lib.hid (own_new wr wr.heap.size (Nat.le_refl _))
      have R2 := Lib.hid (HR.out.alloc (.cells #[] 3))
      have G2 := Lib.hid (World.grownBy_alloc wr (.cells #[] 3) (some g))
      obtain ⟨wo, hwo⟩ : ∃ wo : World, wo = wr := ⟨_, rfl⟩
      subst hwo
      go_wp2_with fail
      go_loopw [6, 7] (fun s i wr => ∃ j cs : Nat, ∃ az : Option Addr, ∃ out : List Int, j ≤ 4 ∧ s = .slice az out.length cs ∧ i = .int .i64 j ∧ out.length = j ∧ Own wr wo.heap.size wr.heap.size (.slice az out.length cs) out ∧ RdOk wr g (q + 1 + 4 * k + j) ∧ wo.grownBy wr (some g)) (fun _ i _ => 4 - (intOf i).toNat)
      case atStart => exact ⟨0, 0, some ⟨wo.heap.size, 0, none⟩, [], by omega, rfl, rfl, rfl, ON.out.all, R2.out, G2.out⟩
      case round =>
        obtain ⟨j, cs, az, out, hj, rfl, rfl, hlen2, ho2, hr2, hg2⟩ := hrel
        have hsz2 := hg2.size
        have HO2 := Lib.hid ho2
        have HR2 := Lib.hid hr2
        have HG2 := Lib.hid hg2
        have HL2 := Lib.hid hlen2
        have hol2 : out.length ≤ 4 := by omega
        clear ho2 hr2 hg2 hlen2
        by_cases hlt2 : j < 4
        · go_wp2_with fail
          refine (pick_ok _ g (q + 1 + 4 * k + j) _ HR2.out (by omega) (by omega)).mono ?_
          rintro e w2 ⟨y, rfl, y0, y1, r2, g2⟩
          have o2 := (HO2.out.rd g2 (by omega)).all
          have s2 := g2.size
          have R3 := Lib.hid r2
          have G3 := Lib.hid (grown_trans HG2.out g2)
          clear r2 g2
          go_wp2_with (at_builtin; refine wpList_push rfl _ _ rfl w2 wo.heap.size w2.heap.size y out az cs rfl rfl o2 (by omega) (by omega) ?_; intro ad' c' w3 o3 b3 s3)
          have O3 := Lib.hid o3
          have R4 := Lib.hid (R3.out.kept b3 (by omega))
          have G4 := Lib.hid (grown_below G3.out b3)
          clear o2 o3 b3
          go_wp2_with fail
          go_roundw
          case rel =>
            refine ⟨j + 1, c', ad', out ++ [y], by omega, by simp, by go_num, by simp [HL2.out], ?_, R4.out.more (by omega), G4.out⟩
            have := O3.out
            simpa using this
          case measure => simp [intOf]; omega
        · have OR := HO.out.kept HG2.out (fun r hr => by injection hr with hr; omega)
          have OS := HO2.out.mono (show w.heap.size ≤ _ from hsz) (Nat.le_refl _) HO2.out.lim
          have SEP : ∀ g', (Value.slice az out.length cs).ownBlock = some g' → (Value.slice ad rs.length c).ownBlock ≠ some g' := fun g' h1 h2 => by
            have h3 := (HO.out.owns.lt g' h2).2
            have h4 := (HO2.out.owns.lt g' h1).1
            omega
          have G5 := Lib.hid (grown_trans HG.out HG2.out)
          have e4 : out.length = 4 := by rw [HL2.out]; omega
          have E4 := Lib.hid e4
          clear e4
          go_wp2_with (at_builtin; refine wpList_push_rod rfl _ _ rfl wr w.heap.size out az cs xs rs ad c rfl rfl OR OS SEP (by omega) (by omega) ?_; intro ad' c' w3 o3 b3 s3)
          have O3 := Lib.hid o3
          have R4 := Lib.hid (HR2.out.kept b3 hg)
          have G6 := Lib.hid (grown_below G5.out b3)
          clear OR OS SEP o3 b3
          go_wp2_with fail
          go_roundw
          case rel =>
            refine ⟨k + 1, c', ad', xs ++ [.slice az out.length cs], rs ++ [out], by omega, by simp, by go_num, by simp [HL.out], rod_small_snoc H4.out E4.out, ?_, R4.out.more (by omega), G6.out⟩
            have := O3.out
            simpa using this
          case measure => simp [intOf]; omega
    · have CAP := Lib.hid HO.out.form
      have RF := Lib.hid HO.out.rods
      by_cases hm : m = 0
      · have hm'' : decide ((0 : Int) < (m : Int)) = false := by simp; omega
        have hm' : decide (0 < m) = false := by simpa using hm
        obtain ⟨ax, cx, hcx, l1, l2⟩ := CAP.out
        obtain ⟨rfl, rfl⟩ : ad = ax ∧ c = cx := by injection hcx with e1 _ e3; exact ⟨e1, e3⟩
        clear hcx
        go_wp2_with fail
        go_ret
        exact ⟨ad, c, rs, rfl, RF.out, hol, l1, l2, fun i hi => .inl (H4.out i hi), HR.out.more (by omega), HG.out⟩
      · have hl1 : 1 ≤ rs.length := by rw [HL.out]; omega
        go_wp2_with fail
        refine (pick_ok _ g (q + 1 + 4 * k) _ HR.out (by omega) (by omega)).mono ?_
        rintro e w2 ⟨y, rfl, y0, y1, r2, g2⟩
        have s2 := g2.size
        have O2 := Lib.hid (HO.out.kept g2 (fun r hr => by injection hr with hr; omega))
        have R2 := Lib.hid r2
        have G2 := Lib.hid (grown_trans HG.out g2)
        clear r2 g2
        obtain ⟨ax, cx, hcx, l1, l2⟩ := CAP.out
        obtain ⟨rfl, rfl⟩ : ad = ax ∧ c = cx := by injection hcx with e1 _ e3; exact ⟨e1, e3⟩
        clear hcx
        by_cases y1 : y = 0
        · subst y1
          obtain ⟨b, b1, c', rfl, lb, lb2, lb1, lb3, hne, hc4, hcm, hcc, hcf, hsc, hsf, hrw⟩ := O2.out.head hl1 (H4.out 0 (by omega))
          have RF2 := Lib.hid O2.out.rods
          have hgw : w2.heap.size ≠ g := by omega
          have hbg : b ≠ g := by omega
          have hb1g : b1 ≠ g := by omega
          have HRW := Lib.hid hrw
          clear hrw
          go_wp2_with fail
          go_region_with ((go_at_call 36; refine (pick_ok _ g (q + 1 + 4 * k + 1) _ (by first | exact R2.out.drewC | exact (R2.out.alloc _).drewC) (by omega) (by omega)).mono ?_; rintro e w3 ⟨z', rfl, z0, z1, r3, g3⟩; obtain ⟨z, rfl⟩ : ∃ n : Nat, z' = n := ⟨z'.toNat, by omega⟩; have hz2 : z < 2 := (by omega); have s3 : w2.heap.size ≤ w3.heap.size := (by first | exact g3.size | exact Nat.le_trans (Nat.le_of_lt (by simp)) g3.size); have ya := two_at w3 (-1) 10 hz2; (try have c3 := cell_overC (y := z) g3 (two_at w2 (-1) 10 hz2) hgw); have G3 := Lib.hid (show w2.grownBy w3 (some g) from (by first | exact grown_trans (grown_drewC (grown_refl w2 (some g))) g3 | exact grown_trans (grown_drewC (World.grownBy_alloc w2 _ (some g))) g3)); have hcc3 := cell_overC G3.out hcc hbg; have hsc3 := cell_overC G3.out hsc hb1g; have hsf3 := (frozen_grown (i := 0) G3.out lb3 (by simpa using hb1g)).trans hsf; have lb4 : b1 < w3.heap.size := (by omega); have lb5 : b < w3.heap.size := (by omega)))
          all_goals
            have RF3 := RF2.out.grown G3.out (fun r hr => by injection hr with hr; omega)
            go_wp2_with fail
            go_ret
            first
              | exact drew_poke (q := q + 60) (q' := q + 1 + 4 * k + 1 + 1) RF3 hol l1 l2 H4.out hsc3 r3 (by omega) (grown_trans G2.out G3.out) hg lb1
              | exact drew_alloc (drew_poke (q := q + 60) (q' := q + 1 + 4 * k + 1 + 1) RF3 hol l1 l2 H4.out hsc3 r3 (by omega) (grown_trans G2.out G3.out) hg lb1) _
        · have d0 : (y == 0) = false := beq_eq_false_iff_ne.2 y1
          by_cases y2 : y = 1
          · subst y2
            obtain ⟨b, b1, c', rfl, lb, lb2, lb1, lb3, hne, hc4, hcm, hcc, hcf, hsc, hsf, hrw⟩ := O2.out.head hl1 (H4.out 0 (by omega))
            have CUT := Lib.hid (O2.out.rods.cut hl1 (H4.out 0 (by omega)) lb1 hne hcm hc4 hrw O2.out.apart)
            have hc1 : 1 < c' := by omega
            unfold maxLen at hcm
            clear hrw
            go_wp2_with fail
            go_ret
            refine ⟨some ⟨b, 0, none⟩, c, rs.set 0 ((rod rs 0).drop 1), by simp, CUT.out, by simpa using hol, by simpa using l1, l2, fun i hi => ?_, (R2.out.kept ((Below.refl (g + 1) _).setCell (by show g + 1 ≤ b; omega) _) (Nat.lt_succ_self g)).more (by omega), grown_below G2.out ((Below.refl _ _).setCell (by omega) _)⟩
            rw [List.length_set] at hi
            by_cases e : i = 0
            · subst e
              have e3 : rod (rs.set 0 ((rod rs 0).drop 1)) 0 = (rod rs 0).drop 1 := by simp [rod, show 0 < rs.length by omega]
              exact .inr ⟨rfl, by rw [e3, List.length_drop, H4.out 0 (by omega)]⟩
            · have e3 : rod (rs.set 0 ((rod rs 0).drop 1)) i = rod rs i := by
                rw [rod_of _ _ (by simpa using hi), rod_of _ _ hi, List.getElem_set_ne (by omega)]
              exact .inl (by rw [e3, H4.out i hi])
          · have d1 : (y == 1) = false := beq_eq_false_iff_ne.2 y2
            go_wp2_with fail
            go_ret
            exact ⟨ad, c, rs, rfl, O2.out.rods, hol, l1, l2, fun i hi => .inl (H4.out i hi), R2.out.more (by omega), G2.out⟩
end Go.Proofs.Ythgecmdmoghmpaa
