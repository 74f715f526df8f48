
/-
  Contracts of the laws' copies and comparisons of rods. Condition: lists of at most 2^20 numbers.
-/
import Derived.Test.YthgecmdmoghmpaaRods
namespace Go.Proofs.Ythgecmdmoghmpaa
open Go.RowKit

theorem bcell {W w1 : World} (hb : Below W.heap.size W w1) : (∀ b o, b < W.heap.size → w1.cell? ⟨b, o, none⟩ = W.cell? ⟨b, o, none⟩) ∧ (∀ b o, b < W.heap.size → w1.frozen? ⟨b, o, none⟩ = W.frozen? ⟨b, o, none⟩) :=
  ⟨fun b o h => hb.cell (p := ⟨b, o, none⟩) h, fun b o h => hb.frozen (p := ⟨b, o, none⟩) h⟩
/-- A rod handed back: its sides lie in memory of the call's own. -/
theorem toRod_any (w : World) (a : Option Addr) (cap : Nat) (zs : List Int) (h : Row .i64 w a zs) (hl : zs.length ≤ 1048576) :
    Calls Try.prog 25 #[.agg #[.slice a zs.length cap]] w fun e w' => ∃ a' c', e = .returned (.agg #[.slice a' zs.length c']) ∧ Own w' w.heap.size w'.heap.size (.slice a' zs.length c') zs ∧ Below w.heap.size w w' := by
  have H := Lib.hid h
  clear h
  go_enter Try.func25, Try.ntmps25
  go_wp2_with fail
  refine (toIntS_any _ _ _ _ (H.out.below ((((Below.refl _ _).alloc (Nat.le_refl _) _).alloc (by simp) _).alloc (by simp; omega) _)) hl).mono ?_
  rintro e w1 ⟨a', c', rfl, o1, b1⟩
  have B1 := Lib.hid b1
  have O1 := Lib.hid o1
  obtain ⟨hc, hf⟩ := bcell b1
  have hz : w.heap.size + 2 < w1.heap.size := by have := b1.size; simp at this; omega
  clear b1 o1
  have c1 : w1.cell? ⟨w.heap.size + 1, 0, none⟩ = some (.slice none 0 0) := (hc _ _ (by simp)).trans (by go_simp)
  have c2 : w1.cell? ⟨w.heap.size + 1 + 1, 0, none⟩ = some (.slice none 0 0) := (hc _ _ (by simp)).trans (by go_simp)
  have f1 : w1.frozen? ⟨w.heap.size + 1, 0, none⟩ = false := (hf _ _ (by simp)).trans (by go_simp)
  have f2 : w1.frozen? ⟨w.heap.size + 1 + 1, 0, none⟩ = false := (hf _ _ (by simp)).trans (by go_simp)
  clear hc hf
  go_wp2_with fail
  have cz : ((w1.setCell ⟨w.heap.size + 1 + 1, 0, none⟩ (.slice a' zs.length c')).setCell ⟨w.heap.size + 1, 0, none⟩ (.slice a' zs.length c')).cell? ⟨w.heap.size + 1, 0, none⟩ = some (.slice a' zs.length c') :=
    World.cell?_setCell_same _ _ _ ((World.cell?_setCell_other w1 ⟨w.heap.size + 1 + 1, 0, none⟩ ⟨w.heap.size + 1, 0, none⟩ _ (by simp)).trans c1)
  refine bodyPost_ret (v := .agg #[.slice a' zs.length c']) (by simp [results, Try.results25, go_sem, cz]) rfl ⟨a', c', rfl, ?_, ?_⟩
  · have h1 := (O1.out.kept (grown_set w1 (w.heap.size + 1 + 1) 0 (.slice a' zs.length c')) (fun r hr => by injection hr with hr; simp; omega)).kept (grown_set _ (w.heap.size + 1) 0 (.slice a' zs.length c')) (fun r hr => by injection hr with hr; simp; omega)
    exact (h1.mono (by simp; omega) (Nat.le_refl _) h1.lim).all
  · exact (((((Below.refl _ _).alloc (Nat.le_refl _) _).alloc (by simp) _).alloc (by simp; omega) _).trans (B1.out.mono (by simp; omega))).setCell (by simp; omega) _ |>.setCell (by simp) _

theorem rod_info : (Try.prog.info? 41).map (fun i => (i.zero, i.size, i.bytes)) = some (some (.agg #[.slice none 0 0]), 1, 24) := by kernel_rfl
theorem Own.caps {w : World} {lo hi : Nat} {a : Option Addr} {n c : Nat} {zs : List Int} (h : Own w lo hi (.slice a n c) zs) : zs.length ≤ c ∧ c ≤ maxLen := by
  rcases h.owns.2 with ⟨e, h0⟩ | ⟨g, cap, cur, e, _, _, h3, h4, _⟩
  · injection e with _ _ e3
    subst e3
    exact ⟨by omega, by unfold maxLen; omega⟩
  · injection e with _ _ e3
    subst e3
    exact ⟨h3, h4⟩
/-- In block g lie rods of the call's own; the first k are filled in. -/
structure Made (w : World) (g : Nat) (rs : List (List Int)) (k : Nat) : Prop where
  lt : g < w.heap.size
  all : ∀ j, j < rs.length → ∃ v, w.cell? ⟨g, j, none⟩ = some v
  free : ∀ j, w.frozen? ⟨g, j, none⟩ = false
  done : ∀ j, j < k → ∃ a c, w.cell? ⟨g, j, none⟩ = some (.slice a (rod rs j).length c) ∧ Own w (g + 1) w.heap.size (.slice a (rod rs j).length c) (rod rs j)
section
variable {w w' : World} {g k : Nat} {rs : List (List Int)}
theorem Made.below (h : Made w g rs k) (hb : Below w.heap.size w w') : Made w' g rs k := by
  refine ⟨Nat.lt_of_lt_of_le h.lt hb.size, fun j hj => ?_, fun j => (hb.frozen (p := ⟨g, j, none⟩) h.lt).trans (h.free j), fun j hj => ?_⟩
  · obtain ⟨v, hv⟩ := h.all j hj
    exact ⟨v, (hb.cell (p := ⟨g, j, none⟩) h.lt).trans hv⟩
  · obtain ⟨a, c, h1, h2⟩ := h.done j hj
    exact ⟨a, c, (hb.cell (p := ⟨g, j, none⟩) h.lt).trans h1, (h2.below hb).all⟩
theorem Made.store (h : Made w g rs k) (hk : k < rs.length) {a : Option Addr} {c : Nat} (ho : Own w (g + 1) w.heap.size (.slice a (rod rs k).length c) (rod rs k)) :
    Made (w.setCell ⟨g, k, none⟩ (.slice a (rod rs k).length c)) g rs (k + 1) := by
  have keep : ∀ {v : Value} {zs : List Int}, Own w (g + 1) w.heap.size v zs → Own (w.setCell ⟨g, k, none⟩ (.slice a (rod rs k).length c)) (g + 1) (w.setCell ⟨g, k, none⟩ (.slice a (rod rs k).length c)).heap.size v zs := fun ho => by
    have := ho.kept (grown_set w g k (.slice a (rod rs k).length c)) (fun r hr => by injection hr with hr; left; omega)
    exact this.mono (Nat.le_refl _) this.lim (Nat.le_refl _)
  have hlt := h.lt
  refine ⟨by simpa using hlt, fun j hj => ?_, fun j => by rw [World.frozen?_setCell]; exact h.free j, fun j hj => ?_⟩
  · obtain ⟨v, hv⟩ := h.all j hj
    exact cell?_setCell_some hv
  · by_cases e : j = k
    · subst e
      obtain ⟨v, hv⟩ := h.all j hk
      exact ⟨a, c, World.cell?_setCell_same _ _ _ hv, keep ho⟩
    · obtain ⟨a', c', h1, h2⟩ := h.done j (by omega)
      exact ⟨a', c', (World.cell?_setCell_other w _ _ _ (fun e' => e (by injection e' with _ e'; exact e'.symm))).trans h1, keep h2⟩
theorem Made.rods (h : Made w g rs rs.length) : Rods w (some ⟨g, 0, none⟩) rs := fun _ => by
  refine ⟨g, 0, rfl, h.lt, fun i hi => ?_⟩
  obtain ⟨a, c, h1, h2⟩ := h.done i hi
  exact ⟨a, c, by rw [Nat.zero_add]; exact h1, h2.caps.1, h2.caps.2, h2.row⟩
end
theorem toRodS_any (w : World) (a : Option Addr) (cap : Nat) (rs : List (List Int)) (h : Rods w a rs) (hs : RodsSmall rs) :
    Calls Try.prog 11 #[.slice a rs.length cap] w fun e w' => ∃ a' c', e = .returned (.slice a' rs.length c') ∧ Rods w' a' rs ∧ rs.length ≤ c' ∧ c' ≤ maxLen ∧ Below w.heap.size w w' := by
  obtain ⟨i0, hi, hz0, hz1, hz2⟩ := info_parts rod_info
  obtain ⟨hl, hsm⟩ := hs
  have H := Lib.hid h
  have HS := Lib.hid hsm
  have HZ2 := Lib.hid hz2
  clear h hsm
  go_enter Try.func11, Try.ntmps11
  go_wp2_with (refine wpList_make_full _ rfl _ _ 26 rfl w.heap.size 41 i0 (.agg #[.slice none 0 0]) 1 Try.underlying26 hi hz0 hz1 .i64 .i64 _ _ rs.length rfl rfl rfl rfl (by rw [hz2]; omega) (by unfold maxLen; omega) (Nat.le_refl _) ?_; intro w1 hown hgrow)
  have hb : Below w.heap.size w w1 := (Below.refl _ _).grown hgrow (Nat.le_refl _) (fun k hk => by cases hk)
  have hlt : w.heap.size < w1.heap.size := (hown.lt w.heap.size rfl).2
  have hm : Made w1 w.heap.size rs 0 := by
    refine ⟨hlt, fun j hj => ?_, fun j => hown.frozenAt j, fun j hj => by omega⟩
    rw [hown.cellAt j (by omega)]
    have hlen : (madeCells (Value.agg #[.slice none 0 0]).cells (rs.length * 1)).toList.length = rs.length := by simp [madeCells]
    exact ⟨_, List.getElem?_eq_getElem (by omega)⟩
  obtain ⟨g, hg⟩ : ∃ g, w.heap.size = g := ⟨_, rfl⟩
  rw [hg] at hb hlt hm ⊢
  have HG := Lib.hid hg
  have HB := Lib.hid hb
  have HM := Lib.hid hm
  clear hb hm hown hgrow hg hz2 hi hz0 hz1
  go_wp2_with fail
  go_loopw [4] (fun i wr => ∃ k : Nat, k ≤ rs.length ∧ i = .int .i64 k ∧ Made wr g rs k ∧ Below g w wr) (fun i _ => rs.length - (intOf i).toNat)
  case atStart => exact ⟨0, Nat.zero_le _, rfl, HM.out, HB.out⟩
  case round =>
    obtain ⟨k, hk, rfl, hm, hb⟩ := hrel
    have HB := Lib.hid hb
    have HM := Lib.hid hm
    have hsz := hm.lt
    clear hm hb
    by_cases hlt : k < rs.length
    · obtain ⟨b, off, a', c', rfl, _, hcell, l1, l2, hrow⟩ := (H.out.below (HG.out ▸ HB.out)).at_ hlt
      have HR := Lib.hid hrow
      clear hrow
      have hsmall := HS.out k hlt
      obtain ⟨v0, hv0⟩ := HM.out.all k hlt
      go_wp2_with fail
      refine (toRod_any _ _ _ _ HR.out hsmall).mono ?_
      rintro e w2 ⟨a2, c2, rfl, o2, b2⟩
      have hc2 : w2.cell? ⟨g, k, none⟩ = some v0 := (b2.cell (p := ⟨g, k, none⟩) hsz).trans hv0
      have M2 := Lib.hid (HM.out.below b2)
      have hf2 := M2.out.free k
      have B2 := Lib.hid (HB.out.trans (b2.mono (by omega)))
      have O2 := Lib.hid (o2.mono (show g + 1 ≤ _ from hsz) (Nat.le_refl _) (Nat.le_refl _))
      have s2 := b2.size
      clear b2 o2 hv0
      go_wp2_with fail
      go_roundw
      case rel => exact ⟨k + 1, by omega, by go_num, M2.out.store hlt O2.out, B2.out.setCell (Nat.le_refl _) _⟩
      case measure => simp [intOf]; omega
    · obtain rfl : k = rs.length := by omega
      go_wp2_with fail
      go_ret
      exact ⟨_, _, rfl, HM.out.rods, Nat.le_refl _, by unfold maxLen; omega, by rw [HG.out]; exact HB.out⟩

theorem eqRod_same (w : World) (a b : Option Addr) (ca cb : Nat) (zs : List Int) (ha : Row .i64 w a zs) (hb : Row .i64 w b zs) (hl : zs.length ≤ 1048576) :
    Calls Try.prog 29 #[.agg #[.slice a zs.length ca], .agg #[.slice b zs.length cb]] w fun e w' => e = .returned (.bool true) ∧ Below w.heap.size w w' := by
  have HA := Lib.hid ha
  have HB := Lib.hid hb
  clear ha hb
  go_enter Try.func29, Try.ntmps29
  go_wp2_with fail
  have hb0 : Below w.heap.size w ((w.alloc (.cells #[.slice a zs.length ca] 41)).alloc (.cells #[.slice b zs.length cb] 41)) := ((Below.refl _ _).alloc (Nat.le_refl _) _).alloc (by simp) _
  refine (eqIntS_same _ _ _ _ _ zs (HA.out.below hb0) (HB.out.below hb0) hl).mono ?_
  rintro e w1 ⟨rfl, b1⟩
  have B1 := Lib.hid (hb0.trans (b1.mono hb0.size))
  clear b1 hb0
  go_wp2_with fail
  go_ret
  exact ⟨rfl, B1.out⟩

theorem eqRodS_same (w : World) (a b : Option Addr) (ca cb : Nat) (rs : List (List Int)) (ha : Rods w a rs) (hb : Rods w b rs) (hs : RodsSmall rs) :
    Calls Try.prog 14 #[.slice a rs.length ca, .slice b rs.length cb] w fun e w' => e = .returned (.bool true) ∧ Below w.heap.size w w' := by
  obtain ⟨hl, hsm⟩ := hs
  have HS := Lib.hid hsm
  have HA := Lib.hid ha
  have HB := Lib.hid hb
  clear ha hb hsm
  go_enter Try.func14, Try.ntmps14
  go_wp2_with fail
  go_loopw [5] (fun i wr => ∃ k : Nat, k ≤ rs.length ∧ i = .int .i64 k ∧ Below w.heap.size w wr) (fun i _ => rs.length - (intOf i).toNat)
  case atStart => exact ⟨0, Nat.zero_le _, rfl, Below.refl _ _⟩
  case round =>
    obtain ⟨k, hk, rfl, hb⟩ := hrel
    have BB := Lib.hid hb
    clear hb
    by_cases hlt : k < rs.length
    · obtain ⟨b1, o1, a1, c1, rfl, _, hcell1, _, _, hrow1⟩ := (HA.out.below BB.out).at_ hlt
      obtain ⟨b2, o2, a2, c2, rfl, _, hcell2, _, _, hrow2⟩ := (HB.out.below BB.out).at_ hlt
      have R1 := Lib.hid hrow1
      have R2 := Lib.hid hrow2
      have hsmall := HS.out k hlt
      clear hrow1 hrow2
      have j1 : (k : Int) < (rs.length : Int) := by omega
      go_wp2_with fail
      go_still_tail 8, (by kernel_rfl)
      change wpList _ _ _ _ _ wr.drew
      have B3 := Lib.hid (show Below w.heap.size w wr.drew from below_drewN BB.out 1)
      have R3 := Lib.hid (show Row .i64 wr.drew a1 (rod rs k) from R1.out)
      have R4 := Lib.hid (show Row .i64 wr.drew a2 (rod rs k) from R2.out)
      generalize wr.drew = w3 at *
      go_wp2_with fail
      refine (eqRod_same _ _ _ _ _ _ R3.out R4.out hsmall).mono ?_
      rintro e w4 ⟨rfl, b4⟩
      have B4 := Lib.hid (B3.out.trans (b4.mono B3.out.size))
      clear b4
      go_wp2_with fail
      go_roundw
      case rel => exact ⟨k + 1, by omega, by go_num, B4.out⟩
      case measure => simp [intOf]; omega
    · go_wp2_with fail
      go_ret
      exact ⟨rfl, BB.out⟩
end Go.Proofs.Ythgecmdmoghmpaa
