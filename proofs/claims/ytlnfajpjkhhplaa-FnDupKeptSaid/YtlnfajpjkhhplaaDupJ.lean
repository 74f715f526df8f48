
/-
  Contracts of the program's functions on the rows of a duplation. No condition.
-/
import Derived.Test.YtlnfajpjkhhplaaDupI2
namespace Go.Proofs.Ytlnfajpjkhhplaa
open Go.RowKit Go.Shelf
attribute [local go_sem] Oper.semAt_some

/-- The sum of the right numbers of the kept rows. -/
def sum3 : List R3 → Nat
  | [] => 0
  | x :: xs => (if x.1.2.1 % 2 = 1 then x.1.2.2 else 0) + sum3 xs
theorem sum3_app (xs ys : List R3) : sum3 (xs ++ ys) = sum3 xs + sum3 ys := by
  induction xs with
  | nil => simp [sum3]
  | cons x xs ih => simp [sum3, ih]; omega
theorem sum3_one (x : R3) : sum3 [x] = if x.1.2.1 % 2 = 1 then x.1.2.2 else 0 := by simp [sum3]
theorem sum3_le (xs : List R3) : sum3 xs ≤ xs.length * 20000000000 := by
  induction xs with
  | nil => simp [sum3]
  | cons x xs ih =>
    have := x.2
    rw [sum3, List.length_cons, Nat.add_mul]
    split <;> omega
theorem sum3_rows {n m : Nat} (hn : n ≤ 100000) (hm : m ≤ 100000) (k : Nat) (hk : k ≤ 18) : sum3 (rows3 n m k) = sumK n m k := by
  induction k with
  | zero => simp [rows3, sum3, sumK_zero]
  | succ k ih =>
    rw [rows3_succ, sum3_app, sum3_one, row3_eq hn hm (by omega), ih (by omega)]
    dsimp only
    by_cases h : n / 2 ^ k % 2 = 1
    · rw [if_pos h, sumK_hit m h]
    · rw [if_neg h, sumK_miss m h]; omega
theorem sum3_rowsOf {n m : Nat} (n1 : 1 ≤ n) (n2 : n ≤ 100000) (m1 : 1 ≤ m) (m2 : m ≤ 100000) : sum3 (rowsOf (n : Int) (m : Int)) = n * m := by
  rw [rowsOf_yes n1 n2 m1 m2, sum3_rows n2 m2 _ (by have := bl_le n2; omega), sumK_all]
/-- The left and the right numbers; the indexes of the kept rows. -/
def lefts (xs : List R3) : List Int := xs.map fun x => (x.1.2.1 : Int)
def rights (xs : List R3) : List Int := xs.map fun x => (x.1.2.2 : Int)
def odds (xs : List R3) : List Int := (xs.filter fun x => x.1.2.1 % 2 == 1).map fun x => (x.1.1 : Int)
theorem lefts_snoc (xs : List R3) (x : R3) : lefts (xs ++ [x]) = lefts xs ++ [(x.1.2.1 : Int)] := by simp [lefts]
theorem rights_snoc (xs : List R3) (x : R3) : rights (xs ++ [x]) = rights xs ++ [(x.1.2.2 : Int)] := by simp [rights]
theorem odds_hit (xs : List R3) {x : R3} (h : x.1.2.1 % 2 = 1) : odds (xs ++ [x]) = odds xs ++ [(x.1.1 : Int)] := by simp [odds, List.filter_append, h]
theorem odds_miss (xs : List R3) {x : R3} (h : x.1.2.1 % 2 ≠ 1) : odds (xs ++ [x]) = odds xs := by
  have : (x.1.2.1 % 2 == 1) = false := beq_eq_false_iff_ne.2 h
  simp [odds, List.filter_append, this]
theorem lefts_len (xs : List R3) : (lefts xs).length = xs.length := by simp [lefts]
theorem rights_len (xs : List R3) : (rights xs).length = xs.length := by simp [rights]
theorem odds_len (xs : List R3) : (odds xs).length ≤ xs.length := by
  have := List.length_filter_le (fun x : R3 => x.1.2.1 % 2 == 1) xs
  simpa [odds] using this
theorem lefts_rows {n m : Nat} (hn : n ≤ 100000) (hm : m ≤ 100000) (k : Nat) (hk : k ≤ 18) : lefts (rows3 n m k) = hl n k ∧ rights (rows3 n m k) = dl m k ∧ odds (rows3 n m k) = kept n k := by
  induction k with
  | zero => simp [rows3, lefts, rights, odds, hl, dl, kept]
  | succ k ih =>
    obtain ⟨h1, h2, h3⟩ := ih (by omega)
    have e := row3_eq hn hm (show k ≤ 17 by omega)
    rw [rows3_succ, lefts_snoc, rights_snoc, e, h1, h2, hl_succ, dl_succ]
    refine ⟨rfl, rfl, ?_⟩
    by_cases h : n / 2 ^ k % 2 = 1
    · rw [odds_hit _ (by rw [e]; exact h), e, h3, kept_hit h]
    · rw [odds_miss _ (by rw [e]; exact h), h3, kept_miss h]

theorem cells_own' {X Y : World} {row : Option Nat} {B t : Nat} {cs : Array Value} {z : Nat × Nat} (h : X.heap[B]? = some (.cells cs t z)) (hg : X.grownBy Y row) (hr : ∀ r, row = some r → ∃ o : Obj, X.heap[r]? = some o ∧ o.isCells = false) : Y.heap[B]? = some (.cells cs t z) := by
  refine (hg.block B (Array.getElem?_eq_some_iff.1 h).1 (fun e => ?_)).trans h
  obtain ⟨o, ho, hc⟩ := hr B e.symm
  rw [h] at ho
  cases ho
  cases hc
theorem KR.box {W : World} {B : Nat} {v : Value} (h : Boxed W B 3 v) (u : Value) : KR W (W.setCell ⟨B, 0, none⟩ u) :=
  KR.grown (grownBy_setCell' W B u) (fun r hr cs z hh => by
    injection hr with hr
    subst hr
    rw [show W.heap[B]? = _ from h] at hh
    simp at hh)
theorem row_cells {W : World} {B : Nat} {x y : Int} (h : W.heap[B]? = some (.cells #[.int .i64 x, .int .i64 y] 44 (0, 0))) : W.cell? ⟨B, 0, none⟩ = some (.int .i64 x) ∧ W.cell? ⟨B, 1, none⟩ = some (.int .i64 y) := by simp [World.cell?, h]

set_option maxRecDepth 100000 in
set_option maxHeartbeats 2000000 in
theorem implDupTimes_yes (w : World) (n m : Nat) (n1 : 1 ≤ n) (n2 : n ≤ 100000) (m1 : 1 ≤ m) (m2 : m ≤ 100000) :
    CallsIn Fence.wide 8 Try.prog 17 #[.int .i64 (n : Int), .int .i64 (m : Int)] w fun e W' => e = .returned (.int .i64 ((n * m : Nat) : Int)) ∧ Below w.heap.size w W' := by
  have FA := Lib.hid (fac_nat n1 n2)
  have FB := Lib.hid (fac_nat m1 m2)
  have ST := Lib.hid (sum3_rowsOf n1 n2 m1 m2)
  have hro : Fence.wide.round = none := rfl
  refine callsIn_of_wp_marks Try.func17 rfl trivial ?_ hro
  simp only [Try.ntmps17, List.size_toArray, List.length_cons, List.length_nil, Nat.reduceAdd, Nat.reduceSub, Array.replicate_succ, Array.replicate_zero, List.push_toArray, List.append_toArray, List.nil_append, List.cons_append]
  gi_wp2_with (first | (refine ⟨trivial, ?_⟩; gi_at_call 33; refine (callsIn_wide.2 (isFactor_any _ _)).mono ?_; rintro e w' ⟨rfl, rfl⟩; first | rw [FA.out] | rw [FB.out]) | (refine ⟨trivial, ?_⟩; gi_at_call 35; refine (dupRows_fn _ _ _ _).mono ?_; rintro e w' ⟨rfl, rfl⟩))
  have bS := ((Boxed.new w 3 (.int .i64 0)).alloc (.cells #[.int .i64 (n : Int)] 3)).alloc (.cells #[.int .i64 (m : Int)] 3)
  have bA := (Boxed.new (w.alloc (.cells #[.int .i64 0] 3)) 3 (.int .i64 (n : Int))).alloc (.cells #[.int .i64 (m : Int)] 3)
  have bB := Boxed.new ((w.alloc (.cells #[.int .i64 0] 3)).alloc (.cells #[.int .i64 (n : Int)] 3)) 3 (.int .i64 (m : Int))
  simp only [World.size_alloc] at bS bA bB
  have hB0 : Below w.heap.size w (((w.alloc (.cells #[.int .i64 0] 3)).alloc (.cells #[.int .i64 (n : Int)] 3)).alloc (.cells #[.int .i64 (m : Int)] 3)) := (((Below.refl _ w).alloc (Nat.le_refl _) _).alloc (by simp) _).alloc (by simp; omega) _
  have hsz : (((w.alloc (.cells #[.int .i64 0] 3)).alloc (.cells #[.int .i64 (n : Int)] 3)).alloc (.cells #[.int .i64 (m : Int)] 3)).heap.size = w.heap.size + 3 := by simp
  obtain ⟨W0, hW0⟩ : ∃ W0, ((w.alloc (.cells #[.int .i64 0] 3)).alloc (.cells #[.int .i64 (n : Int)] 3)).alloc (.cells #[.int .i64 (m : Int)] 3) = W0 := ⟨_, rfl⟩
  rw [hW0] at bS bA bB hB0 hsz ⊢
  clear hW0
  refine wpIn_rangeFunc_ownH hro (by omega) (gf := 39) (lb := #[.pointer (some ⟨w.heap.size + 1, 0, none⟩), .pointer (some ⟨w.heap.size + 1 + 1, 0, none⟩)]) rfl trivial (enters_of Try.func39 (by kernel_rfl) rfl)
    (dup_stops (8 - 1) (by omega) (w.heap.size + 1) (w.heap.size + 1 + 1) n m W0 bA.cell bB.cell) (fun h k => h.trans k) (fun W l o o' _ h1 h2 _ => KR.put W l o o' h1 h2) (Below.refl _ _) (fun _ => rfl)
    (fun pre W => Boxed W w.heap.size 3 (.int .i64 ((sum3 pre : Nat) : Int)) ∧ Below w.heap.size w W)
    (fun _ _ _ => False)
    (OwnFrom.and (Go.Own.from (boxed_own _ _ _) _) (ownFrom_below (Nat.le_refl _) (by omega)))
    (fun _ _ _ _ _ hs _ _ => hs)
    ⟨bS, hB0⟩
    (fun x a' W => ∃ Bx, w.heap.size < Bx ∧ W.heap[Bx]? = some (.cells #[.int .i64 (x.1.2.1 : Int), .int .i64 (x.1.2.2 : Int)] 44 (0, 0)) ∧ a' = { tmps := #[.int .i64 (n : Int), .int .i64 (m : Int), undef, undef, .int .i64 0, .pointer (some ⟨w.heap.size, 0, none⟩), undef, .pointer (some ⟨Bx, 0, none⟩), .int .i64 (n : Int), .bool true, .bool false, .bool false, .int .i64 (m : Int), .bool true, .bool false, .bool false, .int .i64 (n : Int), .int .i64 (m : Int), .func (.func 39) #[] #[.pointer (some ⟨w.heap.size + 1, 0, none⟩), .pointer (some ⟨w.heap.size + 1 + 1, 0, none⟩)], .int .i64 (x.1.1 : Int), .agg #[.int .i64 (x.1.2.1 : Int), .int .i64 (x.1.2.2 : Int)], undef, undef, undef, undef, undef, undef, undef, undef, undef], defers := [] })
    (fun x a' _ X Y row hs hg hr => by obtain ⟨Bx, h1, h2, h3⟩ := hs; exact ⟨Bx, h1, cells_own' h2 hg (fun r e => (hr r e).2), h3⟩)
    ?assign ?body ?done ?stop
  case assign =>
    rintro l pre x W K ⟨bS1, hB1⟩ hK
    gi_wp2
    exact hK _ _ ((KeepsOthers.alloc _ _).from _) (KR.alloc _ _) ⟨bS1.alloc _, hB1.alloc hB1.size _⟩ ⟨W.heap.size, bS1.lt, heap_alloc_new W _, rfl⟩
  case body =>
    rintro l pre x a' W hl ⟨r, hr⟩ ⟨bS1, hB1⟩ ⟨Bx, hBx, bX, rfl⟩ hlt
    obtain ⟨cX0, cX1⟩ := row_cells bX
    have cS := bS1.cell
    have fS := bS1.frozen
    have hx := x.2
    have hs := sum3_le pre
    have SA := Lib.hid (sum3_app pre [x])
    have SO := Lib.hid (sum3_one x)
    have HR := Lib.hid hr
    have HX := Lib.hid bX
    generalize x.1.2.1 = L at *
    generalize x.1.2.2 = R at *
    clear hr bX
    by_cases hodd : L % 2 = 1
    · have e1 : (((L : Nat) : Int) % 2 == 1) = true := by simp; omega
      gi_wp2
      refine ⟨(KeepsOthers.setCell _ _ _).from _, KR.box bS1 _, ?_, hB1.setCell (p := ⟨w.heap.size, 0, none⟩) (Nat.le_refl _) _⟩
      rw [SA.out, SO.out, if_pos hodd, Int.natCast_add]
      exact bS1.set _
    · have e1 : (((L : Nat) : Int) % 2 == 1) = false := beq_eq_false_iff_ne.2 (by omega)
      gi_wp2
      refine ⟨KeepsFrom.refl _ _, KR.refl _, ?_, hB1⟩
      rw [SA.out, SO.out, if_neg hodd, Nat.add_zero]
      exact bS1
  case done =>
    rintro D ys W hD rfl ⟨bS1, hB1⟩ hK
    have cS := bS1.cell
    gi_wp2
    refine ⟨by simp, .inl ⟨_, _, rfl, run_takeDeferred hK, ?_⟩⟩
    exact ⟨_, results_tmp rfl _ _ _, by rw [ST.out]; rfl, hB1.trans (belowK_b (w := w) (Nat.le_refl _) W D _ _ (by omega) hK rfl rfl)⟩
  case stop =>
    rintro D c pre W _ _ h _
    exact h.elim
end Go.Proofs.Ytlnfajpjkhhplaa
