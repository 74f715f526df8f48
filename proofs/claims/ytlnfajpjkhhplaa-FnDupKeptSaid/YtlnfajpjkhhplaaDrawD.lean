
/-
  Contracts of the draws of two factors. No condition but that fewer than some hundred thousand picks came before.
-/
import Derived.Test.YtlnfajpjkhhplaaDraw
import Derived.Deep.RegionWith
import Derived.Deep.RegionHeld3
import Derived.IntWalk
namespace Go.Proofs.Ytlnfajpjkhhplaa
open Go.RowKit

/-- Two numbers drawn. -/
def DrewTwo (w : World) (g q : Nat) (e : Ending) (w' : World) : Prop := ∃ x y : Int, e = .returned (.tuple #[.int .i64 x, .int .i64 y]) ∧ -1 ≤ x ∧ x ≤ 100001 ∧ -1 ≤ y ∧ y ≤ 100001 ∧ RdOk w' g q ∧ w.grownBy w' (some g)

theorem RdOk.drew {w : World} {g q : Nat} (h : RdOk w g q) : RdOk w.drew g q := h.drewN 1
theorem grown_drewW {a w : World} {row : Option Nat} (h : a.grownBy w row) : a.grownBy w.drew row := ⟨h.os, h.tape, h.output, h.size, h.block⟩
/-- The four numbers that are seldom drawn. -/
def odd4 : List Int := [0, -1, 100001, 100000]
theorem odd4_bd {y : Nat} (h : y < 4) : -1 ≤ nth odd4 y ∧ nth odd4 y ≤ 100001 := by
  match y, h with
  | 0, _ => decide
  | 1, _ => decide
  | 2, _ => decide
  | 3, _ => decide
theorem odd4_at {y : Nat} (h : y < 4) : (#[Value.int .i64 0, .int .i64 (-1), .int .i64 100001, .int .i64 100000] : Array Value)[y]? = some (.int .i64 (nth odd4 y)) := by
  match y, h with
  | 0, _ => rfl
  | 1, _ => rfl
  | 2, _ => rfl
  | 3, _ => rfl
theorem odd4_cell (W : World) {y : Nat} (h : y < 4) : (W.alloc (.cells #[.int .i64 0, .int .i64 (-1), .int .i64 100001, .int .i64 100000] 3)).cell? ⟨W.heap.size, y, none⟩ = some (.int .i64 (nth odd4 y)) := (cell_new W _ _ y).trans (odd4_at h)
theorem cell_over {W W' : World} {g b y : Nat} {v : Value} (hg : W.grownBy W' (some g)) (hc : W.cell? ⟨b, y, none⟩ = some v) (hb : b ≠ g) : W'.cell? ⟨b, y, none⟩ = some v :=
  hg.cell (a := ⟨b, y, none⟩) hc (fun e => hb (by simpa using e))

set_option maxRecDepth 100000 in
set_option maxHeartbeats 1000000 in
theorem l91Factors_any (w : World) (g q : Nat) (h : RdOk w g q) (hq : q ≤ 900000) :
    Calls Try.prog 36 #[.pointer (some ⟨g, 0, none⟩)] w (DrewTwo w g (q + 3)) := by
  have H := Lib.hid h
  have hg := h.lt
  clear h
  go_enter Try.func36, Try.ntmps36
  go_wp2_with fail
  refine (pick_ok _ g q _ H.out (by omega) (by omega)).mono ?_
  rintro e w1 ⟨x, rfl, h0, h1, r1, g1⟩
  have R1 := Lib.hid r1
  have G1 := Lib.hid g1
  have s1 := g1.size
  clear r1 g1
  by_cases hx : x = 0
  · subst hx
    go_wp2_with fail
    have hgw : w1.heap.size ≠ g := by omega
    go_region_with ((first
      | (go_at_call_of 40 (Value.int .i64 4); refine (pick_ok _ g (q + 1) _ (by first | exact R1.out.drew | exact (R1.out.alloc _).drew) (by omega) (by omega)).mono ?_; rintro e w2 ⟨y', rfl, y0, y1, r2, g2⟩; obtain ⟨y, rfl⟩ : ∃ n : Nat, y' = n := ⟨y'.toNat, by omega⟩; have hy4 : y < 4 := (by omega); have s2 : w1.heap.size ≤ w2.heap.size := (by first | exact g2.size | exact Nat.le_trans (Nat.le_of_lt (by simp)) g2.size); have ya := odd4_cell w2 hy4; (try have c2 := cell_over (y := y) g2 (odd4_cell w1 hy4) hgw); have G2 := Lib.hid (show w.grownBy w2 (some g) from (by first | exact grown_trans (grown_drewW G1.out) g2 | exact grown_trans (grown_drewW (grown_trans G1.out (World.grownBy_alloc w1 _ (some g)))) g2)))
      | (go_at_call_of 40 (Value.int .i64 9); refine (pick_ok _ g (q + 2) _ (by first | exact r2 | exact r2.alloc _) (by omega) (by omega)).mono ?_; rintro e w3 ⟨z, rfl, z0, z1, r3, g3⟩; have s3 : w2.heap.size ≤ w3.heap.size := (by first | exact g3.size | exact Nat.le_trans (Nat.le_of_lt (by simp)) g3.size); have yb := odd4_cell w3 hy4; (try have c3 := cell_over (y := y) g3 c2 hgw); (try have c3 := cell_over (y := y) g3 (odd4_cell w2 hy4) (by omega)); have G3 := Lib.hid (show w.grownBy w3 (some g) from (by first | exact grown_trans G2.out g3 | exact grown_trans (grown_trans G2.out (World.grownBy_alloc w2 _ (some g))) g3)))))
    all_goals
      have yb4 := odd4_bd hy4
      have uz : IntKind.i64.wrap (1 + z) = 1 + z := IntWalk.i64_in _ (by omega)
      go_wp2_with fail
      go_ret2
      first
        | exact ⟨_, _, rfl, by omega, by omega, by omega, by omega, r3, G3.out⟩
        | exact ⟨_, _, rfl, by omega, by omega, by omega, by omega, r3.alloc _, grown_trans G3.out (World.grownBy_alloc w3 _ (some g))⟩
  · have hx' : (x == 0) = false := beq_eq_false_iff_ne.2 hx
    by_cases hx1 : x = 1
    · subst hx1
      have hgw : w1.heap.size ≠ g := by omega
      go_wp2_with fail
      go_region_with ((first
        | (go_at_call_of 40 (Value.int .i64 9); refine (pick_ok _ g (q + 1) _ (by first | exact R1.out.drew | exact (R1.out.alloc _).drew) (by omega) (by omega)).mono ?_; rintro e w2 ⟨z, rfl, z0, z1, r2, g2⟩; have s2 : w1.heap.size ≤ w2.heap.size := (by first | exact g2.size | exact Nat.le_trans (Nat.le_of_lt (by simp)) g2.size); have G2 := Lib.hid (show w.grownBy w2 (some g) from (by first | exact grown_trans (grown_drewW G1.out) g2 | exact grown_trans (grown_drewW (grown_trans G1.out (World.grownBy_alloc w1 _ (some g)))) g2)))
        | (go_at_call_of 40 (Value.int .i64 4); refine (pick_ok _ g (q + 2) _ (by first | exact r2 | exact r2.alloc _) (by omega) (by omega)).mono ?_; rintro e w3 ⟨y', rfl, y0, y1, r3, g3⟩; obtain ⟨y, rfl⟩ : ∃ n : Nat, y' = n := ⟨y'.toNat, by omega⟩; have hy4 : y < 4 := (by omega); have s3 : w2.heap.size ≤ w3.heap.size := (by first | exact g3.size | exact Nat.le_trans (Nat.le_of_lt (by simp)) g3.size); have yb := odd4_cell w3 hy4; (try have c3 := cell_over (y := y) g3 (cell_over (y := y) g2 (odd4_cell w1 hy4) hgw) hgw); (try have c3 := cell_over (y := y) g3 (odd4_cell w2 hy4) (by omega)); have G3 := Lib.hid (show w.grownBy w3 (some g) from (by first | exact grown_trans G2.out g3 | exact grown_trans (grown_trans G2.out (World.grownBy_alloc w2 _ (some g))) g3)))))
      all_goals
        have yb4 := odd4_bd hy4
        have uz : IntKind.i64.wrap (1 + z) = 1 + z := IntWalk.i64_in _ (by omega)
        go_wp2_with fail
        go_ret2
        first
          | exact ⟨_, _, rfl, by omega, by omega, by omega, by omega, r3, G3.out⟩
          | exact ⟨_, _, rfl, by omega, by omega, by omega, by omega, r3.alloc _, grown_trans G3.out (World.grownBy_alloc w3 _ (some g))⟩
    · have hx1' : (x == 1) = false := beq_eq_false_iff_ne.2 hx1
      go_wp2_with fail
      refine (pick_ok _ g (q + 1) _ R1.out (by omega) (by omega)).mono ?_
      rintro e w2 ⟨y, rfl, y0, y1, r2, g2⟩
      have R2 := Lib.hid r2
      have G2 := Lib.hid (grown_trans G1.out g2)
      clear r2 g2
      go_wp2_with fail
      refine (pick_ok _ g (q + 2) _ R2.out (by omega) (by omega)).mono ?_
      rintro e w3 ⟨z, rfl, z0, z1, r3, g3⟩
      have R3 := Lib.hid r3
      have G3 := Lib.hid (grown_trans G2.out g3)
      clear r3 g3
      go_wp2_with fail
      go_ret2
      exact ⟨_, _, rfl, by omega, by omega, by omega, by omega, R3.out, G3.out⟩

/-- Two factors drawn from a code. -/
def FacsDrawn (w : World) (e : Ending) (w' : World) : Prop := ∃ x y : Int, e = .returned (.tuple #[.int .i64 x, .int .i64 y]) ∧ -1 ≤ x ∧ x ≤ 100001 ∧ -1 ≤ y ∧ y ≤ 100001 ∧ Below w.heap.size w w'
theorem below_rdD {w w1 w2 : World} (hb : Below w.heap.size w w1) (hg : w1.grownBy w2 (some w.heap.size)) : Below w.heap.size w w2 :=
  hb.grown hg hb.size (fun k hk => by injection hk with hk; omega)
theorem drawDupRows_any (w : World) (a : Option Addr) (cap : Nat) (zs : List Int) (h : InRow .u8 w a cap zs) :
    Calls Try.prog 25 #[.slice a zs.length cap] w (FacsDrawn w) := by
  have H := Lib.hid h
  clear h
  go_enter Try.func25, Try.ntmps25
  go_wp2_with fail
  refine (l6Open_any _ _ _ _ H.out).mono ?_
  rintro e w1 ⟨rfl, r1, b1⟩
  have R1 := Lib.hid r1
  have B1 := Lib.hid b1
  clear r1 b1
  go_wp2_with fail
  refine (l91Factors_any _ _ _ R1.out (by omega)).mono ?_
  rintro e w2 ⟨x, y, rfl, x0, x1, y0, y1, r2, g2⟩
  have B2 := Lib.hid (below_rdD B1.out g2)
  clear r2 g2
  go_wp2_with fail
  go_ret2
  exact ⟨x, y, rfl, x0, x1, y0, y1, B2.out⟩
theorem drawDupKept_any (w : World) (a : Option Addr) (cap : Nat) (zs : List Int) (h : InRow .u8 w a cap zs) :
    Calls Try.prog 27 #[.slice a zs.length cap] w (FacsDrawn w) := by
  have H := Lib.hid h
  clear h
  go_enter Try.func27, Try.ntmps27
  go_wp2_with fail
  refine (l6Open_any _ _ _ _ H.out).mono ?_
  rintro e w1 ⟨rfl, r1, b1⟩
  have R1 := Lib.hid r1
  have B1 := Lib.hid b1
  clear r1 b1
  go_wp2_with fail
  refine (l91Factors_any _ _ _ R1.out (by omega)).mono ?_
  rintro e w2 ⟨x, y, rfl, x0, x1, y0, y1, r2, g2⟩
  have B2 := Lib.hid (below_rdD B1.out g2)
  clear r2 g2
  go_wp2_with fail
  go_ret2
  exact ⟨x, y, rfl, x0, x1, y0, y1, B2.out⟩
theorem drawDupTimes_any (w : World) (a : Option Addr) (cap : Nat) (zs : List Int) (h : InRow .u8 w a cap zs) :
    Calls Try.prog 28 #[.slice a zs.length cap] w (FacsDrawn w) := by
  have H := Lib.hid h
  clear h
  go_enter Try.func28, Try.ntmps28
  go_wp2_with fail
  refine (l6Open_any _ _ _ _ H.out).mono ?_
  rintro e w1 ⟨rfl, r1, b1⟩
  have R1 := Lib.hid r1
  have B1 := Lib.hid b1
  clear r1 b1
  go_wp2_with fail
  refine (l91Factors_any _ _ _ R1.out (by omega)).mono ?_
  rintro e w2 ⟨x, y, rfl, x0, x1, y0, y1, r2, g2⟩
  have B2 := Lib.hid (below_rdD B1.out g2)
  clear r2 g2
  go_wp2_with fail
  go_ret2
  exact ⟨x, y, rfl, x0, x1, y0, y1, B2.out⟩
theorem drawDupDivide_any (w : World) (a : Option Addr) (cap : Nat) (zs : List Int) (h : InRow .u8 w a cap zs) :
    Calls Try.prog 30 #[.slice a zs.length cap] w (FacsDrawn w) := by
  have H := Lib.hid h
  clear h
  go_enter Try.func30, Try.ntmps30
  go_wp2_with fail
  refine (l6Open_any _ _ _ _ H.out).mono ?_
  rintro e w1 ⟨rfl, r1, b1⟩
  have R1 := Lib.hid r1
  have B1 := Lib.hid b1
  clear r1 b1
  go_wp2_with fail
  refine (l91Factors_any _ _ _ R1.out (by omega)).mono ?_
  rintro e w2 ⟨x, y, rfl, x0, x1, y0, y1, r2, g2⟩
  have B2 := Lib.hid (below_rdD B1.out g2)
  clear r2 g2
  go_wp2_with fail
  go_ret2
  exact ⟨x, y, rfl, x0, x1, y0, y1, B2.out⟩

end Go.Proofs.Ytlnfajpjkhhplaa
