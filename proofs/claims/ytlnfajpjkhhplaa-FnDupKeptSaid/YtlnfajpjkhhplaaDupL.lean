
/-
  The contract of the program's function that lists the left and the right numbers of a duplation. No condition.
-/
import Derived.Test.YtlnfajpjkhhplaaDupK
import Derived.Deep.QuietTactic
namespace Go.Proofs.Ytlnfajpjkhhplaa
open Go.RowKit Go.Shelf
attribute [local go_sem] Oper.semAt_some

theorem Own.cells_ {w : World} {lo hi g : Nat} {v : Value} {zs : List Int} (h : Own w lo hi v zs) (e : v.ownBlock = some g) : ∃ cs, w.heap[g]? = some (.cells cs 3 (0, 0)) := by
  rcases h.owns.2 with ⟨rfl, _⟩ | ⟨g', cap, cur, rfl, h3, h4, h5⟩
  · simp [Value.ownBlock] at e
  · have : g' = g := by simpa [Value.ownBlock] using e
    subst this
    exact ⟨cur, h4⟩
theorem Own.not_box {w : World} {lo hi B t : Nat} {v u : Value} {zs : List Int} (h : Own w lo hi v zs) (hb : Boxed w B t u) (ht : t ≠ 3) : v.ownBlock ≠ some B := fun e => by
  obtain ⟨cs, hc⟩ := h.cells_ e
  rw [show w.heap[B]? = _ from hb] at hc
  simp at hc
  exact ht hc.2
theorem Two.turn {X Y : World} {lo : Nat} {v1 v2 : Value} {xs ys : List Int} {row : Option Nat} (h : Two X lo v1 xs v2 ys) (hg : X.grownBy Y row) (h1 : ∀ r, row = some r → v1.ownBlock ≠ some r) (h2 : ∀ r, row = some r → v2.ownBlock ≠ some r) : Two Y lo v1 xs v2 ys :=
  ⟨(h.fst.apart hg h1).mono (Nat.le_refl _) hg.size (Nat.le_refl _), (h.snd.apart hg h2).mono (Nat.le_refl _) hg.size (Nat.le_refl _), h.sep⟩
theorem Two.other {X Y : World} {lo : Nat} {v1 v2 : Value} {xs ys : List Int} {row : Option Nat} (h : Two X lo v1 xs v2 ys) (hg : X.grownBy Y row) (hr : ∀ r, row = some r → ∃ o : Obj, X.heap[r]? = some o ∧ o.isCells = false) : Two Y lo v1 xs v2 ys := by
  refine h.turn hg (fun r e e2 => ?_) (fun r e e2 => ?_)
  · obtain ⟨cs, hc⟩ := h.fst.cells_ e2
    obtain ⟨o, ho, hn⟩ := hr r e
    rw [hc] at ho; cases ho; cases hn
  · obtain ⟨cs, hc⟩ := h.snd.cells_ e2
    obtain ⟨o, ho, hn⟩ := hr r e
    rw [hc] at ho; cases ho; cases hn
theorem Two.alloc {W : World} {lo : Nat} {v1 v2 : Value} {xs ys : List Int} (h : Two W lo v1 xs v2 ys) (o : Obj) : Two (W.alloc o) lo v1 xs v2 ys := h.turn (World.grownBy_alloc W o none) (fun r e => by cases e) (fun r e => by cases e)
theorem Two.box {W : World} {lo B t : Nat} {v1 v2 u : Value} {xs ys : List Int} (h : Two W lo v1 xs v2 ys) (hb : Boxed W B t u) (ht : t ≠ 3) (x : Value) : Two (W.setCell ⟨B, 0, none⟩ x) lo v1 xs v2 ys :=
  h.turn (grownBy_setCell' W B x) (fun r e => by injection e with e; subst e; exact h.fst.not_box hb ht) (fun r e => by injection e with e; subst e; exact h.snd.not_box hb ht)
theorem keeps_row {W w1 : World} {base k : Nat} {v : Value} {xs : List Value} {tmp : Obj} (hrow : W.ownsRow base 3 1 v k xs) (hg : (W.alloc tmp).grownBy w1 v.ownBlock) : KeepsOthers W w1 :=
  (KeepsOthers.alloc W tmp).trans (KeepsOthers.of_grownBy hg fun j o ej hj => by
    rcases (hrow.alloc tmp).2 with ⟨rfl, _⟩ | ⟨g, cap, cur, rfl, _, hgb, _⟩
    · simp [Value.ownBlock] at ej
    · obtain rfl : g = j := by simpa [Value.ownBlock] using ej
      rw [hgb] at hj; cases hj; rfl)
/-- A variable that holds a slice takes another. -/
theorem wpListIn_box {F : Fence} {n : Nat} {ops : Array Oper} {rest : List Oper} {o : Oper} {a : Act} {Q : Exit → Act → World → Prop} (hgd : o.guard = none) (x y : Operand) (ho : o.op = .store 26 x y)
    (W : World) (B : Nat) (u : Value) (p : Option Addr) (l c : Nat) (hx : a.eval x = .pointer (some ⟨B, 0, none⟩)) (hy : a.eval y = .slice p l c) (hb : Boxed W B 26 u)
    (h : ∀ w', w' = W.setCell ⟨B, 0, none⟩ (.slice p l c) → wpListIn F n Try.prog ops Q rest (a.put o.dst undef) w') : wpListIn F n Try.prog ops Q (o :: rest) a W := by
  have hc := hb.cell
  have hf := hb.frozen
  refine wpListIn_plain hgd fun K hK => ?_
  have hK' := hK _ _ (h _ rfl)
  unfold Oper.wpIn
  refine ⟨?_, ?_⟩
  · simp [Oper.about, ho]
  · rw [Oper.semAt_plain F _ _ (by rw [ho]; intro c hc'; cases hc')]
    simp only [execOp, ho, hx, hy]
    simp [go_sem, hc, hf]
    exact hK'

theorem lr_rowsOf {n m : Nat} (n1 : 1 ≤ n) (n2 : n ≤ 100000) (m1 : 1 ≤ m) (m2 : m ≤ 100000) : lefts (rowsOf (n : Int) (m : Int)) = hl n (bl n) ∧ rights (rowsOf (n : Int) (m : Int)) = dl m (bl n) := by
  rw [rowsOf_yes n1 n2 m1 m2]
  have := lefts_rows n2 m2 (bl n) (by have := bl_le n2; omega)
  exact ⟨this.1, this.2.1⟩

set_option maxRecDepth 100000 in
set_option maxHeartbeats 2000000 in
theorem implDupRows_in (w : World) (n m : Nat) (n1 : 1 ≤ n) (n2 : n ≤ 100000) (m1 : 1 ≤ m) (m2 : m ≤ 100000) :
    CallsIn Fence.wide 8 Try.prog 19 #[.int .i64 (n : Int), .int .i64 (m : Int)] w (FreshTwo w (hl n (bl n)) (dl m (bl n)) true) := by
  have FA := Lib.hid (fac_nat n1 n2)
  have FB := Lib.hid (fac_nat m1 m2)
  have ST := Lib.hid (lr_rowsOf n1 n2 m1 m2)
  obtain ⟨i0, hi, hz0, hz1, hz2⟩ := info_parts int_info
  have hro : Fence.wide.round = none := rfl
  refine callsIn_of_wp_marks Try.func19 rfl trivial ?_ hro
  simp only [Try.ntmps19, List.size_toArray, List.length_cons, List.length_nil, Nat.reduceAdd, Nat.reduceSub, Array.replicate_succ, Array.replicate_zero, List.push_toArray, List.append_toArray, List.nil_append, List.cons_append]
  gi_wp2_with (first | (refine ⟨trivial, ?_⟩; gi_at_call 33; refine (callsIn_wide.2 (isFactor_any _ _)).mono ?_; rintro e w' ⟨rfl, rfl⟩; first | rw [FA.out] | rw [FB.out]) | (refine ⟨trivial, ?_⟩; gi_at_call 35; refine (dupRows_fn _ _ _ _).mono ?_; rintro e w' ⟨rfl, rfl⟩))
  have bL := (((Boxed.new w 26 (.slice none 0 0)).alloc (.cells #[.slice none 0 0] 26)).alloc (.cells #[.int .i64 (n : Int)] 3)).alloc (.cells #[.int .i64 (m : Int)] 3)
  have bR := ((Boxed.new (w.alloc (.cells #[.slice none 0 0] 26)) 26 (.slice none 0 0)).alloc (.cells #[.int .i64 (n : Int)] 3)).alloc (.cells #[.int .i64 (m : Int)] 3)
  have bA := (Boxed.new ((w.alloc (.cells #[.slice none 0 0] 26)).alloc (.cells #[.slice none 0 0] 26)) 3 (.int .i64 (n : Int))).alloc (.cells #[.int .i64 (m : Int)] 3)
  have bB := Boxed.new (((w.alloc (.cells #[.slice none 0 0] 26)).alloc (.cells #[.slice none 0 0] 26)).alloc (.cells #[.int .i64 (n : Int)] 3)) 3 (.int .i64 (m : Int))
  simp only [World.size_alloc] at bL bR bA bB
  have hB0 : Below w.heap.size w ((((w.alloc (.cells #[.slice none 0 0] 26)).alloc (.cells #[.slice none 0 0] 26)).alloc (.cells #[.int .i64 (n : Int)] 3)).alloc (.cells #[.int .i64 (m : Int)] 3)) := ((((Below.refl _ w).alloc (Nat.le_refl _) _).alloc (by simp) _).alloc (by simp; omega) _).alloc (by simp; omega) _
  have hsz : ((((w.alloc (.cells #[.slice none 0 0] 26)).alloc (.cells #[.slice none 0 0] 26)).alloc (.cells #[.int .i64 (n : Int)] 3)).alloc (.cells #[.int .i64 (m : Int)] 3)).heap.size = w.heap.size + 4 := by simp
  obtain ⟨W0, hW0⟩ : ∃ W0, (((w.alloc (.cells #[.slice none 0 0] 26)).alloc (.cells #[.slice none 0 0] 26)).alloc (.cells #[.int .i64 (n : Int)] 3)).alloc (.cells #[.int .i64 (m : Int)] 3) = W0 := ⟨_, rfl⟩
  rw [hW0] at bL bR bA bB hB0 hsz ⊢
  clear hW0
  refine wpIn_rangeFunc_ownH hro (by omega) (gf := 39) (lb := #[.pointer (some ⟨w.heap.size + 1 + 1, 0, none⟩), .pointer (some ⟨w.heap.size + 1 + 1 + 1, 0, none⟩)]) rfl trivial (enters_of Try.func39 (by kernel_rfl) rfl)
    (dup_stops (8 - 1) (by omega) (w.heap.size + 1 + 1) (w.heap.size + 1 + 1 + 1) n m W0 bA.cell bB.cell) (fun h k => h.trans k) (fun W l o o' _ h1 h2 _ => KR.put W l o o' h1 h2) (Below.refl _ _) (fun _ => rfl)
    (fun pre W => (∃ v1 v2, Boxed W w.heap.size 26 v1 ∧ Boxed W (w.heap.size + 1) 26 v2 ∧ Two W w.heap.size v1 (lefts pre) v2 (rights pre)) ∧ Below w.heap.size w W)
    (fun _ _ _ => False)
    (OwnFrom.and (fun pre X Y row hs hg hr => by obtain ⟨v1, v2, h1, h2, h3⟩ := hs; exact ⟨v1, v2, cells_own' h1 hg (fun r e => (hr r e).2), cells_own' h2 hg (fun r e => (hr r e).2), h3.other hg (fun r e => (hr r e).2)⟩) (ownFrom_below (Nat.le_refl _) (by omega)))
    (fun _ _ _ _ _ hs _ _ => hs)
    ⟨⟨_, _, bL, bR, Two.nil_ _ _⟩, hB0⟩
    (fun x a' W => ∃ Bx, w.heap.size + 1 < Bx ∧ W.heap[Bx]? = some (.cells #[.int .i64 (x.1.2.1 : Int), .int .i64 (x.1.2.2 : Int)] 44 (0, 0)) ∧ a' = { tmps := #[.int .i64 (n : Int), .int .i64 (m : Int), undef, undef, .slice none 0 0, .slice none 0 0, .bool false, .pointer (some ⟨w.heap.size, 0, none⟩), .pointer (some ⟨w.heap.size + 1, 0, none⟩), undef, .pointer (some ⟨Bx, 0, none⟩), .int .i64 (n : Int), .bool true, .bool false, .bool false, .int .i64 (m : Int), .bool true, .bool false, .bool false, .int .i64 (n : Int), .int .i64 (m : Int), .func (.func 39) #[] #[.pointer (some ⟨w.heap.size + 1 + 1, 0, none⟩), .pointer (some ⟨w.heap.size + 1 + 1 + 1, 0, none⟩)], .int .i64 (x.1.1 : Int), .agg #[.int .i64 (x.1.2.1 : Int), .int .i64 (x.1.2.2 : Int)], undef, undef, undef, undef, undef, undef, undef, undef, undef, undef, undef, undef], defers := [] })
    (fun x a' _ X Y row hs hg hr => by obtain ⟨Bx, h1, h2, h3⟩ := hs; exact ⟨Bx, h1, cells_own' h2 hg (fun r e => (hr r e).2), h3⟩)
    ?assign ?body ?done ?stop
  case assign =>
    rintro l pre x W K ⟨⟨v1, v2, bL1, bR1, hT⟩, hB1⟩ hK
    gi_wp2
    exact hK _ _ ((KeepsOthers.alloc _ _).from _) (KR.alloc _ _) ⟨⟨v1, v2, bL1.alloc _, bR1.alloc _, hT.alloc _⟩, hB1.alloc hB1.size _⟩ ⟨W.heap.size, bR1.lt, heap_alloc_new W _, rfl⟩
  case body =>
    rintro l pre x a' W hl ⟨r, hr⟩ ⟨⟨v1, v2, bL1, bR1, hT⟩, hB1⟩ ⟨Bx, hBx, bX, rfl⟩ hlt
    obtain ⟨cX0, cX1⟩ := row_cells bX
    have cL := bL1.cell
    have hx := x.2
    have ll := lefts_len pre
    have rl := rights_len pre
    have LS := Lib.hid (lefts_snoc pre x)
    have RS := Lib.hid (rights_snoc pre x)
    have HX := Lib.hid bX
    have xl : (lefts pre).length ≤ 17 := by omega
    have yl : (rights pre).length ≤ 17 := by omega
    generalize x.1.2.1 = L at *
    generalize x.1.2.2 = R at *
    generalize lefts pre = xs at *
    generalize rights pre = ys at *
    clear hr bX ll rl
    have hs1 := hB1.size
    gi_wp2_with (first
      | (gi_at_builtin; refine wpListIn_append_own_at _ rfl _ _ 26 rfl w.heap.size 3 i0 (.int .i64 0) 1 8 Try.underlying26 hi hz0 hz1 hz2 rfl (by decide) v1 xs.length (IV xs) rfl (hT.fst.owns.alloc _) ⟨W.heap.size, 0, none⟩ 1 1 [.int .i64 (L : Int)] rfl rfl (cell_one_new _ _ _) (by simp [Value.oneCell']) (by unfold maxLen; omega) (by omega) (by simp; omega) ?_; intro v' w1 ho' hg' _ hw'; obtain ⟨A1, C1, rfl, hT1, hb1, hz1'⟩ := hT.grown hs1 ho' hg' hw'; have bL2 := (bL1.alloc (.cells #[.int .i64 (L : Int)] 3)).kept hg' (Ne.symm (hT.fst.not_box bL1 (by decide))); have bR2 := (bR1.alloc (.cells #[.int .i64 (L : Int)] 3)).kept hg' (Ne.symm (hT.fst.not_box bR1 (by decide))); have k2 := keeps_row hT.fst.owns hg'; have kr2 := KR.row hT.fst.owns hg')
      | (refine wpListIn_box rfl _ _ rfl w1 w.heap.size _ A1 _ C1 rfl rfl bL2 ?_; intro w2 hw2; have bL3 : Boxed w2 w.heap.size 26 (.slice A1 (xs.length + 1) C1) := (by rw [hw2]; exact bL2.set _); have bR3 : Boxed w2 (w.heap.size + 1) 26 v2 := (by rw [hw2]; exact bR2.other (by omega) _); have hT2 := (show Two w2 w.heap.size (.slice A1 (xs.length + 1) C1) (xs ++ [(L : Int)]) v2 ys from (by rw [hw2]; exact hT1.box bL2 (by decide) _)); have k3 : KeepsOthers W w2 := (by rw [hw2]; exact k2.trans (KeepsOthers.setCell _ _ _)); have kr3 : KR W w2 := (by rw [hw2]; exact kr2.trans (KR.boxT bL2 (by decide) _)); have hb3 : Below w.heap.size W w2 := (by rw [hw2]; exact hb1.setCell (p := ⟨w.heap.size, 0, none⟩) (Nat.le_refl _) _); have cR := bR3.cell; have cX1' := (row_cells (kr3 _ _ _ HX.out)).2; have hs3 := hb3.size; clear hw2)
      | (gi_at_builtin; refine wpListIn_append_own_at _ rfl _ _ 26 rfl w.heap.size 3 i0 (.int .i64 0) 1 8 Try.underlying26 hi hz0 hz1 hz2 rfl (by decide) v2 ys.length (IV ys) rfl (hT2.snd.owns.alloc _) ⟨w2.heap.size, 0, none⟩ 1 1 [.int .i64 (R : Int)] rfl rfl (cell_one_new _ _ _) (by simp [Value.oneCell']) (by unfold maxLen; omega) (by omega) (by simp; omega) ?_; intro v' w4 ho' hg4 _ hw'; obtain ⟨A2, C2, rfl, hT4, hb4, hz4'⟩ := hT2.swap.grown (by omega) ho' hg4 hw'; have bL4 := (bL3.alloc (.cells #[.int .i64 (R : Int)] 3)).kept hg4 (Ne.symm (hT2.snd.not_box bL3 (by decide))); have bR4 := (bR3.alloc (.cells #[.int .i64 (R : Int)] 3)).kept hg4 (Ne.symm (hT2.snd.not_box bR3 (by decide))); have k4 := k3.trans (keeps_row hT2.snd.owns hg4); have kr4 := kr3.trans (KR.row hT2.snd.owns hg4))
      | (refine wpListIn_box rfl _ _ rfl w4 (w.heap.size + 1) _ A2 _ C2 rfl rfl bR4 ?_; intro w5 hw5; have bL5 : Boxed w5 w.heap.size 26 (.slice A1 (xs.length + 1) C1) := (by rw [hw5]; exact bL4.other (by omega) _); have bR5 : Boxed w5 (w.heap.size + 1) 26 (.slice A2 (ys.length + 1) C2) := (by rw [hw5]; exact bR4.set _); have hT5 := (show Two w5 w.heap.size (.slice A1 (xs.length + 1) C1) (xs ++ [(L : Int)]) (.slice A2 (ys.length + 1) C2) (ys ++ [(R : Int)]) from (by rw [hw5]; exact hT4.swap.box bR4 (by decide) _)); have k5 : KeepsOthers W w5 := (by rw [hw5]; exact k4.trans (KeepsOthers.setCell _ _ _)); have kr5 : KR W w5 := (by rw [hw5]; exact kr4.trans (KR.boxT bR4 (by decide) _)); have hb5 : Below w.heap.size W w5 := (by rw [hw5]; exact (hb3.trans hb4).setCell (p := ⟨w.heap.size + 1, 0, none⟩) (by simp) _); clear hw5))
    refine ⟨k5.from _, kr5, ⟨_, _, bL5, bR5, ?_⟩, hB1.trans hb5⟩
    rw [LS.out, RS.out]
    exact hT5
  case done =>
    rintro D ys W hD rfl ⟨⟨v1, v2, bL1, bR1, hT⟩, hB1⟩ hK
    rw [ST.out.1, ST.out.2] at hT
    obtain ⟨A1, C1, rfl⟩ := hT.fst.form
    obtain ⟨A2, C2, rfl⟩ := hT.snd.form
    have cL := bL1.cell
    have cR := bR1.cell
    have HT := Lib.hid hT
    clear hT
    gi_wp2
    gi_region
    gi_wp2
    have hK' : W.drew.heap[D]? = some (.deferred (some [])) := hK
    have hT' : Two W.drew w.heap.size (.slice A1 (hl n (bl n)).length C1) (hl n (bl n)) (.slice A2 (dl m (bl n)).length C2) (dl m (bl n)) := ⟨⟨HT.out.fst.owns, HT.out.fst.top, HT.out.fst.lim⟩, ⟨HT.out.snd.owns, HT.out.snd.top, HT.out.snd.lim⟩, HT.out.sep⟩
    have hB' : Below w.heap.size w W.drew := ⟨hB1.os, hB1.tape, hB1.output, hB1.size, hB1.block⟩
    refine ⟨by simp, .inl ⟨_, _, rfl, run_takeDeferred hK', ?_⟩⟩
    refine ⟨_, results_tmp3 rfl _ _ _, ?_⟩
    show FreshTwo w (hl n (bl n)) (dl m (bl n)) true (.returned (.tuple #[.slice A1 (hl n (bl n)).length C1, .slice A2 (dl m (bl n)).length C2, .bool true])) _
    exact (hT'.other (grownBy_putObj' W.drew D (.deferred none)) (fun r e => by injection e with e; subst e; exact ⟨_, hK', rfl⟩)).fresh (hB'.trans (belowK_b (w := w) (Nat.le_refl _) W.drew D _ _ (by omega) hK' rfl rfl))
  case stop =>
    rintro D c pre W _ _ h _
    exact h.elim

theorem implDupRows_any (w : World) (a b : Int) (r0 r1 : List Int) (ok : Bool) (hr : dupRows a b = (r0, r1, ok)) :
    Calls Try.prog 19 #[.int .i64 a, .int .i64 b] w (FreshTwo w r0 r1 ok) := by
  cases hb : isFac a && isFac b
  · rw [dupRows_no hb] at hr
    injection hr with h1 h2
    injection h2 with h2 h3
    subst h1 h2 h3
    cases ha : isFac a
    · have FA := Lib.hid ha
      clear ha hb
      go_enter Try.func19, Try.ntmps19
      go_wp2_with fail
      refine (isFactor_any _ _).mono ?_
      rintro e w' ⟨rfl, rfl⟩
      rw [FA.out]
      go_wp2_with fail
      go_ret3
      exact (Two.nil_ w w.heap.size).fresh (Below.refl _ _)
    · have hb' : isFac b = false := by rw [ha] at hb; simpa using hb
      have FA := Lib.hid ha
      have FB := Lib.hid hb'
      clear ha hb hb'
      go_enter Try.func19, Try.ntmps19
      go_wp2_with fail
      refine (isFactor_any _ _).mono ?_
      rintro e w' ⟨rfl, rfl⟩
      rw [FA.out]
      go_wp2_with fail
      refine (isFactor_any _ _).mono ?_
      rintro e w' ⟨rfl, rfl⟩
      rw [FB.out]
      go_wp2_with fail
      go_ret3
      exact (Two.nil_ w w.heap.size).fresh (Below.refl _ _)
  · obtain ⟨n, m, rfl, rfl, n1, n2, m1, m2⟩ := facs hb
    rw [dupRows_yes n1 n2 m1 m2] at hr
    injection hr with h1 h2
    injection h2 with h2 h3
    subst h1 h2 h3
    exact callsIn_wide.1 (implDupRows_in w n m n1 n2 m1 m2)
end Go.Proofs.Ytlnfajpjkhhplaa
