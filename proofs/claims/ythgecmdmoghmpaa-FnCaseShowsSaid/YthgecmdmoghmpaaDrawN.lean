
/-
  Contracts of the draws of numerals. No condition but that fewer than some hundred thousand picks came before.
-/
import Derived.Test.YthgecmdmoghmpaaDraw
import Derived.Test.YthgecmdmoghmpaaOwn
import Derived.Test.YthgecmdmoghmpaaCommon
namespace Go.Proofs.Ythgecmdmoghmpaa
open Go.RowKit

theorem grown_below {a b c : World} {row : Option Nat} (h : a.grownBy b row) (hb : Below a.heap.size b c) : a.grownBy c row :=
  ⟨hb.os.trans h.os, hb.tape.trans h.tape, hb.output.trans h.output, Nat.le_trans h.size hb.size, fun i hi hne => (hb.block i hi).trans (h.block i hi hne)⟩
theorem Own.rd {w w' : World} {lo hi g : Nat} {v : Value} {zs : List Int} (h : Own w lo hi v zs) (hg : w.grownBy w' (some g)) (hlt : g < lo) : Own w' lo hi v zs :=
  h.kept hg (fun r hr => by injection hr with hr; omega)
theorem own_lit (W : World) (lo : Nat) (ds : List Int) (h : lo ≤ W.heap.size) (hl : ds.length ≤ 1000) : Own (W.alloc (.cells (IV ds).toArray 3)) lo (W.heap.size + 1) (.slice (some ⟨W.heap.size, 0, none⟩) ds.length ds.length) ds := by
  have h1 := World.ownsRow_lit (e := 3) (size := 1) W (IV ds).toArray ds.length h (by unfold maxLen; omega) (by simp [IV_len])
  have h2 : (W.alloc (.cells (IV ds).toArray 3)).ownsRow lo 3 1 (.slice (some ⟨W.heap.size, 0, none⟩) ds.length ds.length) ds.length (IV ds) := by simpa using h1
  have := Own.of (zs := ds) h2
  simpa using this

/-- Every number lies between lo and hi. -/
def Within (lo hi : Int) (zs : List Int) : Prop := ∀ d ∈ zs, lo ≤ d ∧ d ≤ hi
theorem Within.nil {lo hi : Int} : Within lo hi [] := fun d hd => by simp at hd
theorem Within.snoc {lo hi : Int} {zs : List Int} {d : Int} (h : Within lo hi zs) (h1 : lo ≤ d) (h2 : d ≤ hi) : Within lo hi (zs ++ [d]) := fun x hx => by
  rcases List.mem_append.1 hx with hx | hx
  · exact h x hx
  · have : x = d := by simpa using hx
    omega
theorem Within.set_ {lo hi : Int} {zs : List Int} {d : Int} (h : Within lo hi zs) (i : Nat) (h1 : lo ≤ d) (h2 : d ≤ hi) : Within lo hi (zs.set i d) := fun x hx => by
  rcases List.mem_or_eq_of_mem_set hx with hx | rfl
  · exact h x hx
  · exact ⟨h1, h2⟩

/-- What a draw of a list leaves. -/
def DrewList (w : World) (g q : Nat) (lo hi : Int) (m : Nat) (e : Ending) (w' : World) : Prop :=
  ∃ a cap zs, e = .returned (.slice a zs.length cap) ∧ Within lo hi zs ∧ zs.length ≤ m ∧ Own w' w.heap.size w'.heap.size (.slice a zs.length cap) zs ∧ RdOk w' g q ∧ w.grownBy w' (some g)

set_option maxHeartbeats 400000 in
theorem l91Numeral_any (w : World) (g q : Nat) (n : Nat) (h : RdOk w g q) (hq : q ≤ 900000) (hn : 1 ≤ n) (hn6 : n ≤ 6) :
    Calls Try.prog 44 #[.pointer (some ⟨g, 0, none⟩), .int .i64 (n : Int)] w (DrewList w g (q + 20) (-1) 10 7) := by
  have hg := h.lt
  have H := Lib.hid h
  clear h
  go_enter Try.func44, Try.ntmps44
  go_wp2_with fail
  refine (pick_ok _ g q _ (H.out.alloc _) (by omega) (by omega)).mono ?_
  rintro e w1 ⟨x, rfl, x0, x1, r1, g1⟩
  obtain ⟨m, rfl⟩ : ∃ m : Nat, x = m := ⟨x.toNat, by omega⟩
  have s1 := g1.size
  have s1' : w.heap.size + 1 ≤ w1.heap.size := by simpa using s1
  have O1 := Lib.hid (Own.rd (own_lit w w.heap.size [] (Nat.le_refl _) (by simp)) g1 hg)
  have R1 := Lib.hid r1
  have G1 := Lib.hid (grown_trans (World.grownBy_alloc w _ (some g)) g1)
  clear r1 g1 s1
  go_wp2_with fail
  go_loopw [5, 7] (fun s i wr => ∃ k c : Nat, ∃ ad : Option Addr, ∃ out : List Int, k ≤ m + 1 ∧ s = .slice ad out.length c ∧ i = .int .i64 k ∧ out.length = k ∧ Within (-1) 10 out ∧ Own wr w.heap.size wr.heap.size (.slice ad out.length c) out ∧ RdOk wr g (q + 1 + k) ∧ w.grownBy wr (some g)) (fun _ i _ => m + 1 - (intOf i).toNat)
  case atStart => exact ⟨0, 0, some ⟨w.heap.size, 0, none⟩, [], by omega, rfl, rfl, rfl, Within.nil, O1.out.all, R1.out, G1.out⟩
  case round =>
    obtain ⟨k, c, ad, out, hk, rfl, rfl, hlen, hwi, ho, hr, hgr⟩ := hrel
    have hsz := hgr.size
    have HW := Lib.hid hwi
    have HO := Lib.hid ho
    have HR := Lib.hid hr
    have HG := Lib.hid hgr
    have HL := Lib.hid hlen
    have hol : out.length ≤ 6 := by omega
    clear hwi ho hr hgr hlen
    by_cases hlt : k < m + 1
    · go_wp2_with fail
      refine (pick_ok _ g (q + 1 + k) _ HR.out (by omega) (by omega)).mono ?_
      rintro e w2 ⟨y, rfl, y0, y1, r2, g2⟩
      have s2 := g2.size
      have o2 := (HO.out.rd g2 hg).all
      have R2 := Lib.hid r2
      have G2 := Lib.hid (grown_trans HG.out g2)
      clear r2 g2
      go_wp2_with (at_builtin; refine wpList_push rfl _ _ rfl w2 w.heap.size w2.heap.size y out ad c rfl rfl o2 (by omega) (by omega) ?_; intro ad' c' w3 o3 b3 s3)
      have O3 := Lib.hid o3
      have R3 := Lib.hid (R2.out.kept b3 hg)
      have G3 := Lib.hid (grown_below G2.out b3)
      clear o2 o3 b3
      go_wp2_with fail
      go_roundw
      case rel =>
        refine ⟨k + 1, c', ad', out ++ [y], by omega, by simp, by go_num, by simp [HL.out], HW.out.snoc (by omega) (by omega), ?_, R3.out.more (by omega), G3.out⟩
        have := O3.out
        simpa using this
      case measure => simp [intOf]; omega
    · have hl1 : 1 ≤ out.length := by rw [HL.out]; omega
      go_wp2_with fail
      refine (pick_ok _ g (q + 1 + k) _ HR.out (by omega) (by omega)).mono ?_
      rintro e w2 ⟨y, rfl, y0, y1, r2, g2⟩
      have s2 := g2.size
      have O2 := Lib.hid (HO.out.rd g2 hg).all
      have R2 := Lib.hid r2
      have G2 := Lib.hid (grown_trans HG.out g2)
      clear r2 g2
      by_cases y1 : y = 0
      · subst y1
        go_wp2_with fail
        refine (pick_ok _ g (q + 1 + k + 1) _ (R2.out.alloc _) (by omega) (by omega)).mono ?_
        rintro e w3 ⟨z, rfl, z0, z1, r3, g3⟩
        have e0 := g3.cell (a := ⟨w2.heap.size, 0, none⟩) (v := .int .i64 (-1)) ((cell_new _ _ _ _).trans rfl) (by simp; omega)
        have e1 := g3.cell (a := ⟨w2.heap.size, 1, none⟩) (v := .int .i64 10) ((cell_new _ _ _ _).trans rfl) (by simp; omega)
        have s3 := g3.size
        have o3 := ((O2.out.kept (World.grownBy_alloc w2 _ none) (fun r hr => by cases hr)).rd g3 hg).all
        have R3 := Lib.hid r3
        have G3 := Lib.hid (grown_trans (grown_trans G2.out (World.grownBy_alloc w2 _ (some g))) g3)
        clear r3 g3
        obtain ⟨b, rfl, b0, b1, hc, hf⟩ := o3.at_ (i := 0) (by omega)
        have O3 := Lib.hid o3
        clear o3
        have hgb : g < b := by omega
        obtain rfl | rfl : z = 0 ∨ z = 1 := by omega
        · go_wp2_with fail
          go_ret
          have hO := O3.out.set_ 0 (-1)
          refine ⟨some ⟨b, 0, none⟩, c, out.set 0 (-1), by simp, HW.out.set_ 0 (by omega) (by omega), by simp; omega, ?_, ?_, grown_below G3.out ((Below.refl _ _).setCell (by omega) _)⟩
          · have := hO.all
            simpa using this
          · exact (R3.out.kept ((Below.refl (g + 1) _).setCell (by show g + 1 ≤ b; omega) _) (Nat.lt_succ_self g)).more (by omega)
        · go_wp2_with fail
          go_ret
          have hO := O3.out.set_ 0 10
          refine ⟨some ⟨b, 0, none⟩, c, out.set 0 10, by simp, HW.out.set_ 0 (by omega) (by omega), by simp; omega, ?_, ?_, grown_below G3.out ((Below.refl _ _).setCell (by omega) _)⟩
          · have := hO.all
            simpa using this
          · exact (R3.out.kept ((Below.refl (g + 1) _).setCell (by show g + 1 ≤ b; omega) _) (Nat.lt_succ_self g)).more (by omega)
      · have d0 : (y == 0) = false := beq_eq_false_iff_ne.2 y1
        by_cases y2 : y = 1
        · subst y2
          go_wp2_with fail
          go_ret
          have hO := (own_lit w2 w.heap.size [] (by omega) (by simp)).all
          exact ⟨some ⟨w2.heap.size, 0, none⟩, 0, [], rfl, Within.nil, by simp, hO, (R2.out.alloc _).more (by omega), grown_trans G2.out (World.grownBy_alloc w2 _ (some g))⟩
        · have d1 : (y == 1) = false := beq_eq_false_iff_ne.2 y2
          by_cases y3 : y = 2
          · subst y3
            go_wp2_with fail
            go_ret
            have hO := (own_lit w2 w.heap.size [1, 2, 3, 4, 5, 6, 7] (by omega) (by simp)).all
            exact ⟨some ⟨w2.heap.size, 0, none⟩, 7, [1, 2, 3, 4, 5, 6, 7], rfl, (fun d hd => by (simp only [List.mem_cons, List.not_mem_nil, or_false] at hd; omega)), by simp, hO, (R2.out.alloc _).more (by omega), grown_trans G2.out (World.grownBy_alloc w2 _ (some g))⟩
          · have d2 : (y == 2) = false := beq_eq_false_iff_ne.2 y3
            go_wp2_with fail
            go_ret
            exact ⟨ad, c, out, rfl, HW.out, by omega, O2.out, R2.out.more (by omega), G2.out⟩
end Go.Proofs.Ythgecmdmoghmpaa
