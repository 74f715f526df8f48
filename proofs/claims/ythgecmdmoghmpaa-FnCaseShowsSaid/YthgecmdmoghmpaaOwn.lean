
/-
  Two steps of a walk on lists of the call's own: 'append(out, x)' and 'append([]int{x}, out...)'. Condition: fewer than a million numbers.
-/
import Derived.Test.YthgecmdmoghmpaaBase
namespace Go.Proofs.Ythgecmdmoghmpaa
open Go.RowKit

theorem cells_own {W : World} {lo hi g n c : Nat} {out : List Int} (h : Own W lo hi (.slice (some ⟨g, 0, none⟩) n c) out) : ∀ j u, (IV out)[j]? = some u → W.cell? ((⟨g, 0, none⟩ : Addr).add j) = some u := h.owns.cells (g := g) rfl

/-- 'append(out, x)': the list grows by one at its end. -/
theorem wpList_push {ops : Array Oper} {rest : List Oper} {o : Oper} {a : Act} {Q : Exit → Act → World → Prop} (hgd : o.guard = none) (s x : Operand)
    (ho : o.op = .call { callee := .builtin .append, args := #[s, x], argTypes := #[23, 23] })
    (W : World) (base hi : Nat) (d : Int) (out : List Int) (a0 : Option Addr) (cap : Nat) (hs : a.eval s = .slice a0 out.length cap) (hx : a.eval x = .slice (some ⟨W.heap.size, 0, none⟩) 1 1)
    (hown : Own W base hi (.slice a0 out.length cap) out) (hb : base ≤ W.heap.size) (hl : out.length ≤ 1000000)
    (h : ∀ a' c' w', Own w' base w'.heap.size (.slice a' (out.length + 1) c') (out ++ [d]) → Below base W w' → W.heap.size ≤ w'.heap.size → wpList Try.prog ops Q rest (a.put o.dst (.slice a' (out.length + 1) c')) w') :
    wpList Try.prog ops Q (o :: rest) a (W.alloc (.cells #[.int .i64 d] 3)) := by
  obtain ⟨i0, hi0, hz0, hz1, hz2⟩ := info_parts int_info
  refine wpList_append_own _ hgd s x 23 ho base 3 i0 (.int .i64 0) 1 8 Try.underlying23 hi0 hz0 hz1 hz2 rfl (by decide) _ _ _ hs (hown.owns.alloc _) ⟨W.heap.size, 0, none⟩ 1 1 [.int .i64 d] hx rfl (news_one _ _ _) (news_one1 rfl) (by unfold maxLen; omega) (by omega) (by simp; omega) ?_
  intro v' w' ho' hg' _
  rw [IV_snoc] at ho'
  have ho2 : w'.ownsRow base 3 1 v' (out ++ [d]).length (IV (out ++ [d])) := by
    rw [List.length_append]
    exact ho'
  have hO := Own.of ho2
  obtain ⟨a', c', rfl⟩ := hO.form
  have hlen : (out ++ [d]).length = out.length + 1 := by simp
  rw [hlen] at hO ⊢
  refine h a' c' w' hO ?_ (Nat.le_trans (by simp) hg'.size)
  exact ((Below.refl base W).alloc hb _).grown hg' (by simp; omega) (fun r hr => (hown.owns.lt r hr).1)

/-- 'append(out, x, y)': the list grows by two at its end. -/
theorem wpList_push2 {ops : Array Oper} {rest : List Oper} {o : Oper} {a : Act} {Q : Exit → Act → World → Prop} (hgd : o.guard = none) (s x : Operand)
    (ho : o.op = .call { callee := .builtin .append, args := #[s, x], argTypes := #[23, 23] })
    (W : World) (base hi : Nat) (d d' : Int) (out : List Int) (a0 : Option Addr) (cap : Nat) (hs : a.eval s = .slice a0 out.length cap) (hx : a.eval x = .slice (some ⟨W.heap.size, 0, none⟩) 2 2)
    (hown : Own W base hi (.slice a0 out.length cap) out) (hb : base ≤ W.heap.size) (hl : out.length ≤ 1000000)
    (h : ∀ a' c' w', Own w' base w'.heap.size (.slice a' (out.length + 2) c') (out ++ [d, d']) → Below base W w' → W.heap.size ≤ w'.heap.size → wpList Try.prog ops Q rest (a.put o.dst (.slice a' (out.length + 2) c')) w') :
    wpList Try.prog ops Q (o :: rest) a (W.alloc (.cells #[.int .i64 d, .int .i64 d'] 3)) := by
  obtain ⟨i0, hi0, hz0, hz1, hz2⟩ := info_parts int_info
  refine wpList_append_own _ hgd s x 23 ho base 3 i0 (.int .i64 0) 1 8 Try.underlying23 hi0 hz0 hz1 hz2 rfl (by decide) _ _ _ hs (hown.owns.alloc _) ⟨W.heap.size, 0, none⟩ 2 2 (IV [d, d']) hx rfl (fun j u hj => ?_) (IV_one _) (by unfold maxLen; omega) (by omega) (by simp; omega) ?_
  · rw [Addr.add_lit, Nat.zero_add, cell_new]
    have : #[Value.int .i64 d, Value.int .i64 d'] = (IV [d, d']).toArray := rfl
    rw [this]
    simpa using hj
  intro v' w' ho' hg' _
  rw [IV_app] at ho'
  have hlen : (out ++ [d, d']).length = out.length + 2 := by simp
  have ho2 : w'.ownsRow base 3 1 v' (out ++ [d, d']).length (IV (out ++ [d, d'])) := by
    rw [hlen]
    exact ho'
  have hO := Own.of ho2
  obtain ⟨a', c', rfl⟩ := hO.form
  rw [hlen] at hO ⊢
  refine h a' c' w' hO ?_ (Nat.le_trans (by simp) hg'.size)
  exact ((Below.refl base W).alloc hb _).grown hg' (by simp; omega) (fun r hr => (hown.owns.lt r hr).1)

/-- 'append([]int{x}, out...)': the list grows by one at its head. -/
theorem wpList_prepend {ops : Array Oper} {rest : List Oper} {o : Oper} {a : Act} {Q : Exit → Act → World → Prop} (hgd : o.guard = none) (s x : Operand)
    (ho : o.op = .call { callee := .builtin .append, args := #[s, x], argTypes := #[23, 23] })
    (W : World) (base hi : Nat) (d : Int) (out : List Int) (g cap : Nat) (hs : a.eval s = .slice (some ⟨W.heap.size, 0, none⟩) 1 1) (hx : a.eval x = .slice (some ⟨g, 0, none⟩) out.length cap)
    (hown : Own W base hi (.slice (some ⟨g, 0, none⟩) out.length cap) out) (hb : base ≤ W.heap.size) (hl : out.length ≤ 1000000)
    (h : ∀ g' c' w', Own w' base w'.heap.size (.slice (some ⟨g', 0, none⟩) (out.length + 1) c') (d :: out) → Below W.heap.size W w' → wpList Try.prog ops Q rest (a.put o.dst (.slice (some ⟨g', 0, none⟩) (out.length + 1) c')) w') :
    wpList Try.prog ops Q (o :: rest) a (W.alloc (.cells #[.int .i64 d] 3)) := by
  obtain ⟨i0, hi0, hz0, hz1, hz2⟩ := info_parts int_info
  have hlit : (W.alloc (.cells #[.int .i64 d] 3)).ownsRow base 3 1 (.slice (some ⟨W.heap.size, 0, none⟩) 1 1) 1 [.int .i64 d] := World.ownsRow_lit W #[.int .i64 d] 1 hb (by unfold maxLen; omega) rfl
  refine wpList_append_own _ hgd s x 23 ho base 3 i0 (.int .i64 0) 1 8 Try.underlying23 hi0 hz0 hz1 hz2 rfl (by decide) _ _ _ hs hlit ⟨g, 0, none⟩ out.length cap (IV out) hx (by rw [IV_len]; omega) (fun j u hj => ?_) (IV_one out) (by unfold maxLen; omega) (by omega) (by simp; omega) ?_
  · have := cells_own hown j u hj
    rw [Addr.add_lit] at this ⊢
    rw [World.cell?_alloc_lt W _ _ (by have := hown.top g rfl; have := hown.lim; show g < _; omega)]
    exact this
  · intro v' w' ho' hg' _
    have ho2 : w'.ownsRow base 3 1 v' (d :: out).length (IV (d :: out)) := by
      rw [List.length_cons, Nat.add_comm]
      exact ho'
    have hO := Own.of ho2
    obtain ⟨g', c', rfl, _, _⟩ := ho2.form (by simp)
    have hlen : (d :: out).length = out.length + 1 := by simp
    rw [hlen] at hO ⊢
    refine h g' c' w' hO ?_
    exact ((Below.refl _ W).alloc (Nat.le_refl _) _).grown hg' (by simp) (fun r hr => by
      have : W.heap.size = r := by simpa [Value.ownBlock] using hr
      omega)
end Go.Proofs.Ythgecmdmoghmpaa
