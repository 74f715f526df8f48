
/-
  Contracts of the draws of units and of fractions. No condition but that fewer than some hundred thousand picks came before.
-/
import Derived.Test.YtgdeaochfmakbaaDrawN
import Derived.Test.YtgdeaochfmakbaaDrawD
namespace Go.Proofs.Ytgdeaochfmakbaa
open Go.RowKit

theorem rd_set {w : World} {g q b i : Nat} {v : Value} (h : RdOk w g q) (hb : g < b) : RdOk (w.setCell ⟨b, i, none⟩ v) g q :=
  h.kept ((Below.refl (g + 1) _).setCell (by show g + 1 ≤ b; omega) _) (Nat.lt_succ_self g)
theorem three_at (W : World) (x y z : Int) {k : Nat} (h : k < 3) : (W.alloc (.cells #[.int .i64 x, .int .i64 y, .int .i64 z] 3)).cell? ⟨W.heap.size, k, none⟩ = some (.int .i64 (nth [x, y, z] k)) := by
  refine (cell_new W _ _ k).trans ?_
  match k, h with
  | 0, _ => rfl
  | 1, _ => rfl
  | 2, _ => rfl
theorem three_bd {x y z lo hi : Int} (hx : lo ≤ x ∧ x ≤ hi) (hy : lo ≤ y ∧ y ≤ hi) (hz : lo ≤ z ∧ z ≤ hi) {k : Nat} (h : k < 3) : lo ≤ nth [x, y, z] k ∧ nth [x, y, z] k ≤ hi := by
  match k, h with
  | 0, _ => exact hx
  | 1, _ => exact hy
  | 2, _ => exact hz

set_option maxHeartbeats 800000 in
theorem l91Units_any (w : World) (g q : Nat) (h : RdOk w g q) (hq : q ≤ 900000) :
    Calls Try.prog 33 #[.pointer (some ⟨g, 0, none⟩)] w (DrewList w g (q + 20) 0 1000000001 5) := by
  have hg := h.lt
  have H := Lib.hid h
  clear h
  go_enter Try.func33, Try.ntmps33
  go_wp2_with fail
  refine (pick_ok _ g q _ (H.out.alloc _) (by omega) (by omega)).mono ?_
  rintro e w1 ⟨x, rfl, x0, x1, r1, g1⟩
  obtain ⟨m, rfl⟩ : ∃ m : Nat, x = m := ⟨x.toNat, by omega⟩
  have s1 := g1.size
  have s1' : w.heap.size + 1 ≤ w1.heap.size := by simpa using s1
  have O1 := Lib.hid (Own.rd (own_lit w w.heap.size [] (Nat.le_refl _) (by simp)) g1 hg)
  have R1 := Lib.hid r1
  have G1 := Lib.hid (grown_trans (World.grownBy_alloc w _ (some g)) g1)
  clear r1 g1 s1
  go_wp2_with fail
  go_loopw [3, 5, 6] (fun s l i wr => ∃ k c : Nat, ∃ last : Int, ∃ ad : Option Addr, ∃ out : List Int, k ≤ m ∧ s = .slice ad out.length c ∧ l = .int .i64 last ∧ i = .int .i64 k ∧ out.length = k ∧ 1 ≤ last ∧ last ≤ 1 + 6 * k ∧ Within 0 1000000001 out ∧ Own wr w.heap.size wr.heap.size (.slice ad out.length c) out ∧ RdOk wr g (q + 1 + k) ∧ w.grownBy wr (some g)) (fun _ _ i _ => m - (intOf i).toNat)
  case atStart => exact ⟨0, 0, 1, some ⟨w.heap.size, 0, none⟩, [], by omega, rfl, rfl, rfl, rfl, by omega, by omega, Within.nil, O1.out.all, R1.out, G1.out⟩
  case round =>
    obtain ⟨k, c, last, ad, out, hk, rfl, rfl, rfl, hlen, l1, l2, hwi, ho, hr, hgr⟩ := hrel
    have hsz := hgr.size
    have HW := Lib.hid hwi
    have HO := Lib.hid ho
    have HR := Lib.hid hr
    have HG := Lib.hid hgr
    have HL := Lib.hid hlen
    have hol : out.length ≤ 4 := by omega
    clear hwi ho hr hgr hlen
    by_cases hlt : k < m
    · go_wp2_with fail
      refine (pick_ok _ g (q + 1 + k) _ HR.out (by omega) (by omega)).mono ?_
      rintro e w2 ⟨y, rfl, y0, y1, r2, g2⟩
      have s2 := g2.size
      have o2 := (HO.out.rd g2 hg).all
      have R2 := Lib.hid r2
      have G2 := Lib.hid (grown_trans HG.out g2)
      clear r2 g2
      go_wp2_with (at_builtin; refine wpList_push rfl _ _ rfl w2 w.heap.size w2.heap.size (last + 1 + y) out ad c rfl rfl o2 (by omega) (by omega) ?_; intro ad' c' w3 o3 b3 s3)
      have O3 := Lib.hid o3
      have R3 := Lib.hid (R2.out.kept b3 hg)
      have G3 := Lib.hid (grown_below G2.out b3)
      clear o2 o3 b3
      go_wp2_with fail
      go_roundw
      case rel =>
        refine ⟨k + 1, c', last + 1 + y, ad', out ++ [last + 1 + y], by omega, by simp, rfl, by go_num, by simp [HL.out], by omega, by omega, HW.out.snoc (by omega) (by omega), ?_, R3.out.more (by omega), G3.out⟩
        have := O3.out
        simpa using this
      case measure => simp [intOf]; omega
    · by_cases hm : m = 0
      · have hm' : decide (0 < m) = false := by simpa using hm
        have hm'' : decide ((0 : Int) < (m : Int)) = false := by simp; omega
        go_wp2_with fail
        go_ret
        exact ⟨ad, c, out, rfl, HW.out, by omega, HO.out, HR.out.more (by omega), HG.out⟩
      · have hl1 : 1 ≤ out.length := by rw [HL.out]; omega
        have HM := Lib.hid (show out.length = m by rw [HL.out]; omega)
        go_wp2_with fail
        refine (pick_ok _ g (q + 1 + k) _ HR.out (by omega) (by omega)).mono ?_
        rintro e w2 ⟨y, rfl, y0, y1, r2, g2⟩
        have s2 := g2.size
        have O2 := Lib.hid (HO.out.rd g2 hg).all
        have R2 := Lib.hid r2
        have G2 := Lib.hid (grown_trans HG.out g2)
        clear r2 g2
        by_cases y1 : y = 0
        · subst y1
          go_wp2_with fail
          refine (pick_ok _ g (q + 1 + k + 1) _ (R2.out.alloc _) (by omega) (by omega)).mono ?_
          rintro e w3 ⟨z, rfl, z0, z1, r3, g3⟩
          obtain ⟨n, rfl⟩ : ∃ n : Nat, z = n := ⟨z.toNat, by omega⟩
          have hn3 : n < 3 := by omega
          have e0 := g3.cell (a := ⟨w2.heap.size, n, none⟩) (three_at w2 1 0 1000000001 hn3) (by simp; omega)
          have s3 := g3.size
          have o3 := ((O2.out.kept (World.grownBy_alloc w2 _ none) (fun r hr => by cases hr)).rd g3 hg).all
          have R3 := Lib.hid r3
          have G3 := Lib.hid (grown_trans (grown_trans G2.out (World.grownBy_alloc w2 _ (some g))) g3)
          clear r3 g3
          obtain ⟨b, rfl, b0, b1, hc, hf⟩ := o3.at_ (i := 0) (by omega)
          have O3 := Lib.hid o3
          clear o3
          have hgb : g < b := by omega
          have tb := three_bd (lo := 0) (hi := 1000000001) (x := 1) (y := 0) (z := 1000000001) (by omega) (by omega) (by omega) hn3
          have hn3' : (n : Int) < 3 := by omega
          generalize nth [1, 0, 1000000001] n = x at *
          go_wp2_with fail
          go_ret
          have hO := O3.out.set_ 0 x
          refine ⟨some ⟨b, 0, none⟩, c, out.set 0 x, by simp, HW.out.set_ 0 tb.1 tb.2, by simp; omega, ?_, (rd_set R3.out hgb).more (by omega), grown_below G3.out ((Below.refl _ _).setCell (by omega) _)⟩
          have := hO.all
          simpa using this
        · have d0 : (y == 0) = false := beq_eq_false_iff_ne.2 y1
          by_cases y2 : y = 1
          · subst y2
            obtain ⟨b, rfl, b0, b1, hc, hf⟩ := O2.out.at_ (i := out.length - 1) (by omega)
            have hx := HW.out _ (nth_mem out (out.length - 1) (by omega))
            have o2 := O2.out
            have hm1 : (m : Int) - 1 < (out.length : Int) := by have := HM.out; omega
            have hmk : m - 1 = out.length - 1 := by rw [HM.out]
            rw [← hmk] at hc hx
            clear hmk
            generalize nth out (m - 1) = x at *
            go_wp2_with (at_builtin; refine wpList_push rfl _ _ rfl w2 w.heap.size w2.heap.size x out (some ⟨b, 0, none⟩) c rfl rfl o2 (by omega) (by omega) ?_; intro ad' c' w3 o3 b3 s3)
            have O3 := Lib.hid o3
            have R3 := Lib.hid (R2.out.kept b3 hg)
            have G3 := Lib.hid (grown_below G2.out b3)
            clear o2 o3 b3
            go_wp2_with fail
            go_ret
            refine ⟨ad', c', out ++ [x], by simp, HW.out.snoc hx.1 hx.2, by simp; omega, ?_, R3.out.more (by omega), G3.out⟩
            have := O3.out
            simpa using this
          · have d1 : (y == 1) = false := beq_eq_false_iff_ne.2 y2
            by_cases y3 : y = 2
            · subst y3
              go_wp2_with fail
              refine (pick_ok _ g (q + 1 + k + 1) _ (R2.out.alloc _) (by omega) (by omega)).mono ?_
              rintro e w3 ⟨z, rfl, z0, z1, r3, g3⟩
              obtain ⟨n, rfl⟩ : ∃ n : Nat, z = n := ⟨z.toNat, by omega⟩
              have hn3 : n < 3 := by omega
              have e0 := g3.cell (a := ⟨w2.heap.size, n, none⟩) (three_at w2 1000000000 40000 31622 hn3) (by simp; omega)
              have s3 := g3.size
              have o3 := ((O2.out.kept (World.grownBy_alloc w2 _ none) (fun r hr => by cases hr)).rd g3 hg).all
              have R3 := Lib.hid r3
              have G3 := Lib.hid (grown_trans (grown_trans G2.out (World.grownBy_alloc w2 _ (some g))) g3)
              clear r3 g3
              obtain ⟨b, rfl, b0, b1, hc, hf⟩ := o3.at_ (i := out.length - 1) (by omega)
              have O3 := Lib.hid o3
              clear o3
              have hgb : g < b := by omega
              have tb := three_bd (lo := 0) (hi := 1000000001) (x := 1000000000) (y := 40000) (z := 31622) (by omega) (by omega) (by omega) hn3
              have hn3' : (n : Int) < 3 := by omega
              generalize nth [1000000000, 40000, 31622] n = x at *
              have hmk : m - 1 = out.length - 1 := by rw [HM.out]
              have hm1 : (m : Int) - 1 < (out.length : Int) := by have := HM.out; omega
              rw [← hmk] at hc hf
              clear hmk
              go_wp2_with fail
              go_ret
              have hO := O3.out.set_ (m - 1) x
              refine ⟨some ⟨b, 0, none⟩, c, out.set (m - 1) x, by simp, HW.out.set_ (m - 1) tb.1 tb.2, by simp; omega, ?_, (rd_set R3.out hgb).more (by omega), grown_below G3.out ((Below.refl _ _).setCell (by omega) _)⟩
              have := hO.all
              simpa using this
            · have d2 : (y == 2) = false := beq_eq_false_iff_ne.2 y3
              go_wp2_with fail
              go_ret
              exact ⟨ad, c, out, rfl, HW.out, by omega, O2.out, R2.out.more (by omega), G2.out⟩

/-- A list drawn from a code. -/
def UnitsDrawn (w : World) (e : Ending) (w' : World) : Prop :=
  ∃ a cap zs, e = .returned (.slice a zs.length cap) ∧ Within 0 1000000001 zs ∧ zs.length ≤ 5 ∧ Own w' w.heap.size w'.heap.size (.slice a zs.length cap) zs ∧ Below w.heap.size w w'
theorem drawUnitsSum_any (w : World) (a : Option Addr) (cap : Nat) (zs : List Int) (h : InRow .u8 w a cap zs) :
    Calls Try.prog 24 #[.slice a zs.length cap] w (UnitsDrawn w) := by
  have H := Lib.hid h
  clear h
  go_enter Try.func24, Try.ntmps24
  go_wp2_with fail
  refine (l6Open_any _ _ _ _ H.out).mono ?_
  rintro e w1 ⟨rfl, r1, b1⟩
  have R1 := Lib.hid r1
  have B1 := Lib.hid b1
  clear r1 b1
  go_wp2_with fail
  refine (l91Units_any _ _ _ R1.out (by omega)).mono ?_
  rintro e w2 ⟨a2, c2, ys, rfl, hwi, hlen, o2, r2, g2⟩
  have B2 := Lib.hid (below_rdD B1.out g2)
  have O2 := Lib.hid (o2.mono B1.out.size (Nat.le_refl _) (Nat.le_refl _))
  have HW := Lib.hid hwi
  clear o2 r2 g2 hwi
  go_wp2_with fail
  go_ret
  exact ⟨a2, c2, ys, rfl, HW.out, hlen, O2.out, B2.out⟩

/-- A fraction drawn from a code. -/
def FracDrawn (w : World) (e : Ending) (w' : World) : Prop := ∃ x y : Int, e = .returned (.tuple #[.int .i64 x, .int .i64 y]) ∧ -1 ≤ x ∧ x ≤ 10001 ∧ -1 ≤ y ∧ y ≤ 10001 ∧ Below w.heap.size w w'
def odd4u : List Int := [0, 10001, 10000, 9973]
theorem odd4u_bd {y : Nat} (h : y < 4) : -1 ≤ nth odd4u y ∧ nth odd4u y ≤ 10001 := by
  match y, h with
  | 0, _ => decide
  | 1, _ => decide
  | 2, _ => decide
  | 3, _ => decide
theorem odd4u_at {y : Nat} (h : y < 4) : (#[Value.int .i64 0, .int .i64 10001, .int .i64 10000, .int .i64 9973] : Array Value)[y]? = some (.int .i64 (nth odd4u y)) := by
  match y, h with
  | 0, _ => rfl
  | 1, _ => rfl
  | 2, _ => rfl
  | 3, _ => rfl
theorem odd4u_cell (W : World) {y : Nat} (h : y < 4) : (W.alloc (.cells #[.int .i64 0, .int .i64 10001, .int .i64 10000, .int .i64 9973] 3)).cell? ⟨W.heap.size, y, none⟩ = some (.int .i64 (nth odd4u y)) := (cell_new W _ _ y).trans (odd4u_at h)

set_option maxRecDepth 100000 in
set_option maxHeartbeats 1000000 in
theorem drawUnitsOf_any (w : World) (a : Option Addr) (cap : Nat) (zs : List Int) (h : InRow .u8 w a cap zs) :
    Calls Try.prog 21 #[.slice a zs.length cap] w (FracDrawn w) := by
  have H := Lib.hid h
  clear h
  go_enter Try.func21, Try.ntmps21
  go_wp2_with fail
  refine (l6Open_any _ _ _ _ H.out).mono ?_
  rintro e wa ⟨rfl, ra, ba⟩
  have RA := Lib.hid ra
  have BA := Lib.hid ba
  have sa := ra.lt
  obtain ⟨g, hg⟩ : ∃ g, w.heap.size = g := ⟨_, rfl⟩
  have HG := Lib.hid hg
  rw [hg] at ra ba sa
  have RA := Lib.hid ra
  clear ra ba
  rw [hg]
  clear hg
  go_wp2_with fail
  refine (pick_ok _ g 0 _ RA.out (by omega) (by omega)).mono ?_
  rintro e wb ⟨x, rfl, x0, x1, rb, gb⟩
  have RB := Lib.hid rb
  have GB := Lib.hid gb
  clear rb gb
  go_wp2_with fail
  refine (pick_ok _ g (0 + 1) _ RB.out (by omega) (by omega)).mono ?_
  rintro e w1 ⟨s, rfl, s0, s1, r1, g1⟩
  have R1 := Lib.hid r1
  have sz := g1.size
  have G1 := Lib.hid (grown_trans GB.out g1)
  have sg := r1.lt
  clear r1 g1
  by_cases hx : s = 0
  · subst hx
    have hgw : w1.heap.size ≠ g := by omega
    go_wp2_with fail
    go_region_with ((first
      | (go_at_call_of 32 (Value.int .i64 3); refine (pick_ok _ g (0 + 1 + 1) _ (by first | exact R1.out.drew | exact (R1.out.alloc _).drew) (by omega) (by omega)).mono ?_; rintro e w2 ⟨z, rfl, z0, z1, r2, g2⟩; have s2 : w1.heap.size ≤ w2.heap.size := (by first | exact g2.size | exact Nat.le_trans (Nat.le_of_lt (by simp)) g2.size); have G2 := Lib.hid (show wa.grownBy w2 (some g) from (by first | exact grown_trans (grown_drewW G1.out) g2 | exact grown_trans (grown_drewW (grown_trans G1.out (World.grownBy_alloc w1 _ (some g)))) g2)))
      | (go_at_call_of 32 (Value.int .i64 4); refine (pick_ok _ g (0 + 1 + 1 + 1) _ (by first | exact r2 | exact r2.alloc _) (by omega) (by omega)).mono ?_; rintro e w3 ⟨y', rfl, y0, y1, r3, g3⟩; obtain ⟨y, rfl⟩ : ∃ n : Nat, y' = n := ⟨y'.toNat, by omega⟩; have hy4 : y < 4 := (by omega); have s3 : w2.heap.size ≤ w3.heap.size := (by first | exact g3.size | exact Nat.le_trans (Nat.le_of_lt (by simp)) g3.size); have yb := odd4u_cell w3 hy4; (try have c3 := cell_over (y := y) g3 (cell_over (y := y) g2 (odd4u_cell w1 hy4) hgw) hgw); (try have c3 := cell_over (y := y) g3 (odd4u_cell w2 hy4) (by omega)); have G3 := Lib.hid (show wa.grownBy w3 (some g) from (by first | exact grown_trans G2.out g3 | exact grown_trans (grown_trans G2.out (World.grownBy_alloc w2 _ (some g))) g3)))))
    all_goals
      have yb4 := odd4u_bd hy4
      go_wp2_with fail
      go_ret2
      first
        | exact ⟨_, _, rfl, by omega, by omega, by omega, by omega, below_rdD BA.out (by rw [HG.out]; exact G3.out)⟩
        | exact ⟨_, _, rfl, by omega, by omega, by omega, by omega, below_rdD BA.out (by rw [HG.out]; exact grown_trans G3.out (World.grownBy_alloc w3 _ (some g)))⟩
  · have hx' : (s == 0) = false := beq_eq_false_iff_ne.2 hx
    by_cases hx1 : s = 1
    · subst hx1
      go_wp2_with fail
      refine (pick_ok _ g (0 + 1 + 1) _ (R1.out.alloc _) (by omega) (by omega)).mono ?_
      rintro e w2 ⟨z, rfl, z0, z1, r2, g2⟩
      have e0 := g2.cell (a := ⟨w1.heap.size, 0, none⟩) (v := .int .i64 (1 + x)) ((cell_new _ _ _ _).trans rfl) (by simp; omega)
      have e1 := g2.cell (a := ⟨w1.heap.size, 1, none⟩) (v := .int .i64 (-1)) ((cell_new _ _ _ _).trans rfl) (by simp; omega)
      have G2 := Lib.hid (grown_trans G1.out (grown_trans (World.grownBy_alloc w1 _ (some g)) g2))
      clear r2 g2
      obtain rfl | rfl : z = 0 ∨ z = 1 := by omega
      · go_wp2_with fail
        go_ret2
        exact ⟨_, _, rfl, by omega, by omega, by omega, by omega, below_rdD BA.out (by rw [HG.out]; exact G2.out)⟩
      · go_wp2_with fail
        go_ret2
        exact ⟨_, _, rfl, by omega, by omega, by omega, by omega, below_rdD BA.out (by rw [HG.out]; exact G2.out)⟩
    · have hx1' : (s == 1) = false := beq_eq_false_iff_ne.2 hx1
      go_wp2_with fail
      refine (pick_ok _ g (0 + 1 + 1) _ R1.out (by omega) (by omega)).mono ?_
      rintro e w2 ⟨z, rfl, z0, z1, r2, g2⟩
      have G2 := Lib.hid (grown_trans G1.out g2)
      clear r2 g2
      go_wp2_with fail
      go_ret2
      exact ⟨_, _, rfl, by omega, by omega, by omega, by omega, below_rdD BA.out (by rw [HG.out]; exact G2.out)⟩
end Go.Proofs.Ytgdeaochfmakbaa
