
/-
  The walk of the law FnBoardFewest: one more needs a counter more, or is raised: it returns true for every code.
-/
import Derived.Test.YtdappacmfpkhcaaBoard3b
import Derived.Test.YtdappacmfpkhcaaDraw
namespace Go.Proofs.Ytdappacmfpkhcaa
open Go.RowKit

/-- The counters of a value, line by line. -/
def few : Nat → Nat → Nat
  | 0, _ => 0
  | n + 1, v => v % 5 + v / 5 % 2 + few n (v / 10)
theorem few_zero : ∀ n, few n 0 = 0
  | 0 => rfl
  | n + 1 => by simp [few, few_zero n]
theorem few_step (n v : Nat) : few (n + 1) v = v % 5 + v / 5 % 2 + few n (v / 10) := rfl
theorem few_base (v : Nat) : few 0 v = 0 := rfl
theorem few_redu (v : Nat) : total (redu v) = ((few 5 v : Nat) : Int) := by
  rw [redu_eq]
  have e : few 5 v = v % 5 + v / 5 % 2 + (v / 10 % 5 + v / 50 % 2 + (v / 100 % 5 + v / 500 % 2 + (v / 1000 % 5 + v / 5000 % 2 + (v / 10000 % 5 + v / 50000 % 2 + 0)))) := by
    rw [few_step 4, few_step 3, few_step 2, few_step 1, few_step 0, few_base]
    simp only [Nat.div_div_eq_div_mul, Nat.reduceMul]
  rw [e]
  simp only [total, List.foldl, Int.natCast_add, Int.zero_add, Int.add_assoc, Int.natCast_zero, Int.add_zero, Nat.add_zero]
theorem few_more : ∀ n v, few n (v + 1) ≤ few n v + 1
  | 0, _ => by simp [few]
  | n + 1, v => by
    have ih := few_more n (v / 10)
    unfold few
    by_cases h : v % 10 = 9
    · have e : (v + 1) / 10 = v / 10 + 1 := by omega
      rw [e]
      omega
    · have e : (v + 1) / 10 = v / 10 := by omega
      rw [e]
      omega
theorem few_pos : ∀ n v, 1 ≤ v → v < 10 ^ n → 1 ≤ few n v
  | 0, v, h, h2 => by simp at h2; omega
  | n + 1, v, h, h2 => by
    unfold few
    by_cases h3 : v / 10 = 0
    · omega
    · have := few_pos n (v / 10) (by omega) (by rw [Nat.pow_succ] at h2; omega)
      omega
theorem few_ten : ∀ n v, v < 10 ^ n → few (n + 1) (10 * v) = few n v
  | n, v, _ => by
    show 10 * v % 5 + 10 * v / 5 % 2 + few n (10 * v / 10) = few n v
    rw [show 10 * v / 10 = v by omega]
    omega
theorem few_wide : ∀ n v, v < 10 ^ n → few (n + 1) v = few n v
  | 0, v, h => by
    have : v = 0 := by simpa using h
    subst this
    rfl
  | n + 1, v, h => by
    have ih := few_wide n (v / 10) (by rw [Nat.pow_succ] at h; omega)
    rw [few, ih, few]
theorem few_le : ∀ n v, few n v ≤ 5 * n
  | 0, _ => by simp [few]
  | n + 1, v => by
    have := few_le n (v / 10)
    unfold few
    omega
theorem fewest_few {n : Nat} (h : n ≤ 99999) : fewest (n : Int) = ((few 5 n : Nat) : Int) := by rw [fewest_yes h, few_redu]

theorem fewest_key (x : Int) (h0 : 0 ≤ x) (h1 : x ≤ 99999) : ∃ F X Y : Int, fewest x = F ∧ 0 ≤ F ∧ F ≤ 25 ∧ fewest (x + 1) = X ∧ fewest (10 * x) = Y ∧ ((X = -1 ∧ x = 99999) ∨ (x < 99999 ∧ X ≤ F + 1 ∧ 1 ≤ X)) ∧ (99999 < 10 * x ∨ (10 * x ≤ 99999 ∧ Y = F)) := by
  obtain ⟨n, rfl⟩ : ∃ n : Nat, x = n := ⟨x.toNat, by omega⟩
  have hn : n ≤ 99999 := by omega
  have k1 := few_more 5 n
  have k2 := few_le 5 n
  refine ⟨_, _, _, fewest_few hn, by omega, by omega, rfl, rfl, ?_, ?_⟩
  · by_cases h9 : n = 99999
    · exact .inl ⟨fewest_no (inB_hi (by omega)), by omega⟩
    · right
      have e : ((n : Int) + 1) = ((n + 1 : Nat) : Int) := by omega
      have := few_pos 5 (n + 1) (by omega) (by omega)
      rw [e, fewest_few (by omega)]
      omega
  · by_cases h9 : 99999 < 10 * (n : Int)
    · exact .inl h9
    · right
      have e : (10 * (n : Int)) = ((10 * n : Nat) : Int) := by omega
      refine ⟨by omega, ?_⟩
      rw [e, fewest_few (by omega), few_ten 4 n (by omega), few_wide 4 n (by omega)]

theorem below_rdF {w w1 w2 : World} (hb : Below w.heap.size w w1) (hg : w1.grownBy w2 (some w.heap.size)) : Below w.heap.size w w2 :=
  hb.grown hg hb.size (fun k hk => by injection hk with hk; omega)

theorem l91Value_any (w : World) (g q : Nat) (h : RdOk w g q) (hq : q ≤ 900000) :
    Calls Try.prog 44 #[.pointer (some ⟨g, 0, none⟩)] w (DrewInt w g (q + 3) (-1) 100000) := by
  have H := Lib.hid h
  have hg := h.lt
  clear h
  go_enter Try.func44, Try.ntmps44
  go_wp2_with fail
  refine (pick_ok _ g q _ H.out (by omega) (by omega)).mono ?_
  rintro e w1 ⟨x, rfl, h0, h1, r1, g1⟩
  have R1 := Lib.hid r1
  have G1 := Lib.hid g1
  have s1 := g1.size
  clear r1 g1
  by_cases hx : x = 0
  · subst hx
    go_wp2_with fail
    refine (pick_ok _ g (q + 1) _ (R1.out.alloc _) (by omega) (by omega)).mono ?_
    rintro e w2 ⟨y, rfl, h2, h3, r2, g2⟩
    have e0 := g2.cell (a := ⟨w1.heap.size, 0, none⟩) (v := .int .i64 (-1)) ((cell_new _ _ _ _).trans rfl) (by simp; omega)
    have e1 := g2.cell (a := ⟨w1.heap.size, 1, none⟩) (v := .int .i64 99999) ((cell_new _ _ _ _).trans rfl) (by simp; omega)
    have e2 := g2.cell (a := ⟨w1.heap.size, 2, none⟩) (v := .int .i64 100000) ((cell_new _ _ _ _).trans rfl) (by simp; omega)
    have e3 := g2.cell (a := ⟨w1.heap.size, 3, none⟩) (v := .int .i64 0) ((cell_new _ _ _ _).trans rfl) (by simp; omega)
    have R2 := Lib.hid r2
    have G2 := Lib.hid (grown_trans G1.out (grown_trans (World.grownBy_alloc w1 _ (some g)) g2))
    clear r2 g2
    obtain rfl | rfl | rfl | rfl : y = 0 ∨ y = 1 ∨ y = 2 ∨ y = 3 := by omega
    all_goals
      go_wp2_with fail
      go_ret
      exact ⟨_, rfl, by omega, by omega, R2.out.more (by omega), G2.out⟩
  · have hx' : (x == 0) = false := beq_eq_false_iff_ne.2 hx
    go_wp2_with fail
    refine (pick_ok _ g (q + 1) _ R1.out (by omega) (by omega)).mono ?_
    rintro e w2 ⟨y, rfl, h2, h3, r2, g2⟩
    have R2 := Lib.hid r2
    have G2 := Lib.hid (grown_trans G1.out g2)
    clear r2 g2
    go_wp2_with fail
    refine (pick_ok _ g (q + 2) _ R2.out (by omega) (by omega)).mono ?_
    rintro e w3 ⟨z, rfl, z2, z3, r3, g3⟩
    have R3 := Lib.hid r3
    have G3 := Lib.hid (grown_trans G2.out g3)
    clear r3 g3
    go_wp2_with fail
    go_ret
    exact ⟨_, rfl, by omega, by omega, R3.out, G3.out⟩

def DrawnF (w : World) (lo hi : Int) (e : Ending) (w' : World) : Prop := ∃ x : Int, e = .returned (.int .i64 x) ∧ lo ≤ x ∧ x ≤ hi ∧ Below w.heap.size w w'
theorem drawBoardFewest_any (w : World) (a : Option Addr) (cap : Nat) (zs : List Int) (h : InRow .u8 w a cap zs) :
    Calls Try.prog 27 #[.slice a zs.length cap] w (DrawnF w (-1) 100000) := by
  have H := Lib.hid h
  clear h
  go_enter Try.func27, Try.ntmps27
  go_wp2_with fail
  refine (l6Open_any _ _ _ _ H.out).mono ?_
  rintro e w1 ⟨rfl, r1, b1⟩
  have R1 := Lib.hid r1
  have B1 := Lib.hid b1
  clear r1 b1
  go_wp2_with fail
  refine (l91Value_any _ _ _ R1.out (by omega)).mono ?_
  rintro e w2 ⟨x, rfl, x0, x1, r2, g2⟩
  have B2 := Lib.hid (below_rdF B1.out g2)
  clear r2 g2
  go_wp2_with fail
  go_ret
  exact ⟨x, rfl, x0, x1, B2.out⟩

set_option maxRecDepth 100000 in
set_option maxHeartbeats 1000000 in
theorem fnBoardFewest_walk (a : Option Addr) (cap : Nat) (zs : List Int) (w : World) (h : InRow .u8 w a cap zs) :
    Calls Try.prog 8 #[.slice a zs.length cap] w fun e w' => e = .returned (.bool true) ∧ Below w.heap.size w w' := by
  have hfit := h.fits
  have hlim := h.lim
  unfold maxLen at hlim
  have H := Lib.hid h
  clear h
  by_cases hl : 1048576 < zs.length
  · go_enter Try.func8, Try.ntmps8
    go_wp2_with fail
    go_ret
    exact ⟨rfl, Below.refl _ _⟩
  · go_enter Try.func8, Try.ntmps8
    go_wp2_with fail
    refine (drawBoardFewest_any _ _ _ _ H.out).mono ?_
    rintro e w1 ⟨x, rfl, x0, x1, b1⟩
    have B1 := Lib.hid b1
    clear b1
    cases hr : inB x 0 99999
    · have E := Lib.hid (fewest_no hr)
      clear hr
      go_wp2_with fail
      refine (implBoardFewest_any _ _).mono ?_
      rintro e w2 ⟨rfl, b2⟩
      rw [E.out]
      have B2 := Lib.hid (B1.out.trans (b2.mono B1.out.size))
      clear b2
      go_wp2_with fail
      refine (specBoardFewest_any _ _).mono ?_
      rintro e w3 ⟨rfl, b3⟩
      rw [E.out]
      have B3 := Lib.hid (B2.out.trans (b3.mono B2.out.size))
      clear b3
      go_wp2_with fail
      go_ret
      exact ⟨rfl, B3.out⟩
    · obtain ⟨l0, u0⟩ := inB_true hr
      obtain ⟨f, X, Y, hF, f0, f1, hX, hY, hk1, hk2⟩ := fewest_key x l0 u0
      have E := Lib.hid hF
      have EX := Lib.hid hX
      have EY := Lib.hid hY
      have K1 := Lib.hid hk1
      have K2 := Lib.hid hk2
      clear hr hF hX hY hk1 hk2
      go_wp2_with fail
      refine (implBoardFewest_any _ _).mono ?_
      rintro e w2 ⟨rfl, b2⟩
      rw [E.out]
      have B2 := Lib.hid (B1.out.trans (b2.mono B1.out.size))
      clear b2
      go_wp2_with fail
      refine (specBoardFewest_any _ _).mono ?_
      rintro e w3 ⟨rfl, b3⟩
      rw [E.out]
      have B3 := Lib.hid (B2.out.trans (b3.mono B2.out.size))
      clear b3
      go_wp2_with fail
      refine (implBoardFewest_any _ _).mono ?_
      rintro e w4 ⟨rfl, b4⟩
      rw [EX.out]
      have B4 := Lib.hid (B3.out.trans (b4.mono B3.out.size))
      clear b4
      go_wp2_with fail
      refine (implBoardFewest_any _ _).mono ?_
      rintro e w5 ⟨rfl, b5⟩
      rw [EY.out]
      have B5 := Lib.hid (B4.out.trans (b5.mono B4.out.size))
      clear b5
      rcases K1.out with ⟨hX, hx9⟩ | ⟨h1, h2, h3⟩
      · subst hX
        have hbig : 99999 < 10 * x := by omega
        have e9 : (x == 99999) = true := by rw [beq_iff_eq]; exact hx9
        clear hx9
        go_wp2_with fail
        go_ret
        exact ⟨rfl, B5.out⟩
      · have hm : (X == -1) = false := beq_eq_false_iff_ne.2 (by omega)
        rcases K2.out with h4 | ⟨h4, h5⟩
        · go_wp2_with fail
          go_ret
          exact ⟨rfl, B5.out⟩
        · subst h5
          go_wp2_with fail
          go_ret
          exact ⟨rfl, B5.out⟩
end Go.Proofs.Ytdappacmfpkhcaa
