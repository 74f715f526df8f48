
/-
  Contracts of the program's functions that list the rows of a duplation. No condition.
-/
import Derived.Test.YtlnfajpjkhhplaaDupJ
namespace Go.Proofs.Ytlnfajpjkhhplaa
open Go.RowKit Go.Shelf
attribute [local go_sem] Oper.semAt_some

theorem implDupTimes_any (w : World) (a b : Int) :
    Calls Try.prog 17 #[.int .i64 a, .int .i64 b] w fun e w' => e = .returned (.int .i64 (dupTimes a b)) ∧ Below w.heap.size w w' := by
  cases hb : isFac a && isFac b
  · rw [dupTimes_no hb]
    cases ha : isFac a
    · have FA := Lib.hid ha
      clear ha hb
      go_enter Try.func17, Try.ntmps17
      go_wp2_with fail
      refine (isFactor_any _ _).mono ?_
      rintro e w' ⟨rfl, rfl⟩
      rw [FA.out]
      go_wp2_with fail
      go_ret
      exact ⟨rfl, Below.refl _ _⟩
    · have hb' : isFac b = false := by rw [ha] at hb; simpa using hb
      have FA := Lib.hid ha
      have FB := Lib.hid hb'
      clear ha hb hb'
      go_enter Try.func17, Try.ntmps17
      go_wp2_with fail
      refine (isFactor_any _ _).mono ?_
      rintro e w' ⟨rfl, rfl⟩
      rw [FA.out]
      go_wp2_with fail
      refine (isFactor_any _ _).mono ?_
      rintro e w' ⟨rfl, rfl⟩
      rw [FB.out]
      go_wp2_with fail
      go_ret
      exact ⟨rfl, Below.refl _ _⟩
  · obtain ⟨n, m, rfl, rfl, n1, n2, m1, m2⟩ := facs hb
    rw [dupTimes_yes n1 n2 m1 m2]
    exact callsIn_wide.1 (implDupTimes_yes w n m n1 n2 m1 m2)

theorem KR.boxT {W : World} {B t : Nat} {v : Value} (h : Boxed W B t v) (ht : t ≠ 44) (u : Value) : KR W (W.setCell ⟨B, 0, none⟩ u) :=
  KR.grown (grownBy_setCell' W B u) (fun r hr cs z hh => by
    injection hr with hr
    subst hr
    rw [show W.heap[B]? = _ from h] at hh
    simp at hh
    exact ht hh.2.1)
theorem KR.row {W w1 : World} {base k : Nat} {v : Value} {xs : List Value} {tmp : Obj} (hrow : W.ownsRow base 3 1 v k xs) (hg : (W.alloc tmp).grownBy w1 v.ownBlock) : KR W w1 :=
  (KR.alloc W tmp).trans (KR.grown hg (fun r hr cs z hh => by
    rcases (hrow.alloc tmp).2 with ⟨rfl, _⟩ | ⟨g, cap, cur, rfl, _, hgb, _⟩
    · simp [Value.ownBlock] at hr
    · obtain rfl : g = r := by simpa [Value.ownBlock] using hr
      rw [hgb] at hh
      simp at hh))
theorem odds_rowsOf (a b : Int) : odds (rowsOf a b) = dupKept a b := by
  cases h : isFac a && isFac b
  · rw [rowsOf_no h, dupKept_no h]; rfl
  · obtain ⟨n, m, rfl, rfl, n1, n2, m1, m2⟩ := facs h
    rw [rowsOf_yes n1 n2 m1 m2, dupKept_yes n1 n2 m1 m2]
    exact (lefts_rows n2 m2 _ (by have := bl_le n2; omega)).2.2
theorem emptyRow (W : World) (lo : Nat) (h : lo ≤ W.heap.size) : (W.alloc (.cells #[] 3)).ownsRow lo 3 1 (.slice (some ⟨W.heap.size, 0, none⟩) 0 0) 0 [] := World.ownsRow_lit W #[] 0 h (by unfold maxLen; omega) rfl

set_option maxRecDepth 100000 in
set_option maxHeartbeats 2000000 in
theorem implDupKept_in (w : World) (a b : Int) (rs : List Int) (hrs : dupKept a b = rs) :
    CallsIn Fence.wide 8 Try.prog 24 #[.int .i64 a, .int .i64 b] w (Fresh w rs) := by
  have ST := Lib.hid ((odds_rowsOf a b).trans hrs)
  clear hrs
  obtain ⟨i0, hi, hz0, hz1, hz2⟩ := info_parts int_info
  have hro : Fence.wide.round = none := rfl
  refine callsIn_of_wp_marks Try.func24 rfl trivial ?_ hro
  simp only [Try.ntmps24, List.size_toArray, List.length_cons, List.length_nil, Nat.reduceAdd, Nat.reduceSub, Array.replicate_succ, Array.replicate_zero, List.push_toArray, List.append_toArray, List.nil_append, List.cons_append]
  gi_wp2_with (first | (refine ⟨trivial, ?_⟩; gi_at_call 35; refine (dupRows_fn _ _ _ _).mono ?_; rintro e w' ⟨rfl, rfl⟩))
  have bS := ((Boxed.new (w.alloc (.cells #[] 3)) 26 (.slice (some ⟨w.heap.size, 0, none⟩) 0 0)).alloc (.cells #[.int .i64 a] 3)).alloc (.cells #[.int .i64 b] 3)
  have bA := (Boxed.new ((w.alloc (.cells #[] 3)).alloc (.cells #[.slice (some ⟨w.heap.size, 0, none⟩) 0 0] 26)) 3 (.int .i64 a)).alloc (.cells #[.int .i64 b] 3)
  have bB := Boxed.new (((w.alloc (.cells #[] 3)).alloc (.cells #[.slice (some ⟨w.heap.size, 0, none⟩) 0 0] 26)).alloc (.cells #[.int .i64 a] 3)) 3 (.int .i64 b)
  have hr0 := (((emptyRow w w.heap.size (Nat.le_refl _)).alloc (.cells #[.slice (some ⟨w.heap.size, 0, none⟩) 0 0] 26)).alloc (.cells #[.int .i64 a] 3)).alloc (.cells #[.int .i64 b] 3)
  simp only [World.size_alloc] at bS bA bB
  have hB0 : Below w.heap.size w ((((w.alloc (.cells #[] 3)).alloc (.cells #[.slice (some ⟨w.heap.size, 0, none⟩) 0 0] 26)).alloc (.cells #[.int .i64 a] 3)).alloc (.cells #[.int .i64 b] 3)) := ((((Below.refl _ w).alloc (Nat.le_refl _) _).alloc (by simp) _).alloc (by simp; omega) _).alloc (by simp; omega) _
  have hsz : ((((w.alloc (.cells #[] 3)).alloc (.cells #[.slice (some ⟨w.heap.size, 0, none⟩) 0 0] 26)).alloc (.cells #[.int .i64 a] 3)).alloc (.cells #[.int .i64 b] 3)).heap.size = w.heap.size + 4 := by simp
  obtain ⟨W0, hW0⟩ : ∃ W0, (((w.alloc (.cells #[] 3)).alloc (.cells #[.slice (some ⟨w.heap.size, 0, none⟩) 0 0] 26)).alloc (.cells #[.int .i64 a] 3)).alloc (.cells #[.int .i64 b] 3) = W0 := ⟨_, rfl⟩
  rw [hW0] at bS bA bB hB0 hsz hr0 ⊢
  clear hW0
  refine wpIn_rangeFunc_ownH hro (by omega) (gf := 39) (lb := #[.pointer (some ⟨w.heap.size + 1 + 1, 0, none⟩), .pointer (some ⟨w.heap.size + 1 + 1 + 1, 0, none⟩)]) rfl trivial (enters_of Try.func39 (by kernel_rfl) rfl)
    (dup_stops (8 - 1) (by omega) (w.heap.size + 1 + 1) (w.heap.size + 1 + 1 + 1) a b W0 bA.cell bB.cell) (fun h k => h.trans k) (fun W l o o' _ h1 h2 _ => KR.put W l o o' h1 h2) (Below.refl _ _) (fun _ => rfl)
    (fun pre W => (∃ v, Boxed W (w.heap.size + 1) 26 v ∧ W.ownsRow w.heap.size 3 1 v (odds pre).length (IV (odds pre)) ∧ True) ∧ Below w.heap.size w W)
    (fun _ _ _ => False)
    (OwnFrom.and (Go.Own.from (holdsRow_own w.heap.size (w.heap.size + 1) 26 3 1 (fun pre => (odds pre).length) (fun pre => IV (odds pre)) (fun _ _ => True)) _) (ownFrom_below (Nat.le_refl _) (by omega)))
    (fun _ _ _ _ _ hs _ _ => hs)
    ⟨⟨_, bS, hr0, trivial⟩, hB0⟩
    (fun x a' W => ∃ Bx, w.heap.size + 1 < Bx ∧ W.heap[Bx]? = some (.cells #[.int .i64 (x.1.2.1 : Int), .int .i64 (x.1.2.2 : Int)] 44 (0, 0)) ∧ a' = { tmps := #[.int .i64 a, .int .i64 b, undef, undef, .slice none 0 0, .pointer (some ⟨w.heap.size + 1, 0, none⟩), .int .i64 (x.1.1 : Int), .pointer (some ⟨Bx, 0, none⟩), .slice (some ⟨w.heap.size, 0, none⟩) 0 0, .int .i64 a, .int .i64 b, .func (.func 39) #[] #[.pointer (some ⟨w.heap.size + 1 + 1, 0, none⟩), .pointer (some ⟨w.heap.size + 1 + 1 + 1, 0, none⟩)], .int .i64 (x.1.1 : Int), .agg #[.int .i64 (x.1.2.1 : Int), .int .i64 (x.1.2.2 : Int)], undef, undef, undef, undef, undef, undef, undef, undef, undef], defers := [] })
    (fun x a' _ X Y row hs hg hr => by obtain ⟨Bx, h1, h2, h3⟩ := hs; exact ⟨Bx, h1, cells_own' h2 hg (fun r e => (hr r e).2), h3⟩)
    ?assign ?body ?done ?stop
  case assign =>
    rintro l pre x W K ⟨⟨v, bS1, hrow, _⟩, hB1⟩ hK
    gi_wp2
    exact hK _ _ ((KeepsOthers.alloc _ _).from _) (KR.alloc _ _) ⟨⟨v, bS1.alloc _, hrow.alloc _, trivial⟩, hB1.alloc hB1.size _⟩ ⟨W.heap.size, bS1.lt, heap_alloc_new W _, rfl⟩
  case body =>
    rintro l pre x a' W hl ⟨r, hr⟩ ⟨⟨v, hv, hrow, _⟩, hB1⟩ ⟨Bx, hBx, bX, rfl⟩ hlt
    obtain ⟨cX0, cX1⟩ := row_cells bX
    have cS := hv.cell
    have hx := x.2
    have ol := odds_len pre
    have HR := Lib.hid hr
    have HX := Lib.hid bX
    have SH : Hid (x.1.2.1 % 2 = 1 → odds (pre ++ [x]) = odds pre ++ [(x.1.1 : Int)]) := Lib.hid (fun h => odds_hit pre h)
    have SM : Hid (x.1.2.1 % 2 ≠ 1 → odds (pre ++ [x]) = odds pre) := Lib.hid (fun h => odds_miss pre h)
    generalize x.1.2.1 = L at *
    generalize x.1.2.2 = R at *
    generalize x.1.1 = I at *
    generalize odds pre = O at *
    clear hr bX
    have hs1 := hB1.size
    by_cases hodd : L % 2 = 1
    · have e1 : (((L : Nat) : Int) % 2 == 1) = true := by simp; omega
      gi_wp2_with (gi_at_builtin; refine wpListIn_append_own _ rfl _ _ 26 rfl w.heap.size 3 i0 (.int .i64 0) 1 8 Try.underlying26 hi hz0 hz1 hz2 rfl (by decide) _ _ _ rfl (hrow.alloc _) ⟨W.heap.size, 0, none⟩ 1 1 [.int .i64 (I : Int)] rfl rfl (cell_one_new _ _ _) (by simp [Value.oneCell']) (by unfold maxLen; omega) (by omega) (by simp; omega) ?_; intro v' w1 hown' hgrow _; obtain ⟨g', cap', rfl⟩ := ownsRow_succ hown'; obtain ⟨hv1, hv2, hr2, hk2, hb2⟩ := hv.appended (by decide) hrow hs1 (by omega) hown' hgrow; have hc1 := hv1.cell; have hf1 := hv1.frozen)
      refine ⟨hk2.from _, (KR.row hrow hgrow).trans (KR.boxT hv1 (by decide) _), ⟨_, hv2, ?_, trivial⟩, hB1.trans hb2⟩
      rw [SH.out hodd, ← IV_snoc, List.length_append]
      exact hr2
    · have e1 : (((L : Nat) : Int) % 2 == 1) = false := beq_eq_false_iff_ne.2 (by omega)
      gi_wp2
      refine ⟨KeepsFrom.refl _ _, KR.refl _, ⟨v, hv, ?_, trivial⟩, hB1⟩
      rw [SM.out hodd]
      exact hrow
  case done =>
    rintro D ys W hD rfl ⟨⟨v, hv, hrow, _⟩, hB1⟩ hK
    rw [ST.out] at hrow
    have cS := hv.cell
    have HW := Lib.hid hrow
    clear hrow
    gi_wp2
    refine ⟨by simp, .inl ⟨_, _, rfl, run_takeDeferred hK, ?_⟩⟩
    have hrow2 := ownsRow_putObj HW.out (.deferred none) hK rfl
    have hO := Own.of hrow2
    obtain ⟨a', c', rfl⟩ := hO.form
    exact ⟨_, results_tmp rfl _ _ _, a', c', rfl, hO, hB1.trans (belowK_b (w := w) (Nat.le_refl _) W D _ _ (by omega) hK rfl rfl)⟩
  case stop =>
    rintro D c pre W _ _ h _
    exact h.elim
theorem implDupKept_any (w : World) (a b : Int) (rs : List Int) (hrs : dupKept a b = rs) : Calls Try.prog 24 #[.int .i64 a, .int .i64 b] w (Fresh w rs) := callsIn_wide.1 (implDupKept_in w a b rs hrs)
end Go.Proofs.Ytlnfajpjkhhplaa
