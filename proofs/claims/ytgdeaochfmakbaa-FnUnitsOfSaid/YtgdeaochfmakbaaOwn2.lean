
/-
  Two steps more on lists of the call's own: 'append(out, ys...)' from a list that lies elsewhere. Condition: fewer than a million numbers.
-/
import Derived.Test.YtgdeaochfmakbaaOwn
namespace Go.Proofs.Ytgdeaochfmakbaa
open Go.RowKit

theorem Row.cells {w : World} {ad : Addr} {ys : List Int} (h : Row .i64 w (some ad) ys) : ∀ j u, (IV ys)[j]? = some u → w.cell? (ad.add j) = some u := by
  intro j u hj
  have hlt : j < ys.length := by
    rcases Nat.lt_or_ge j ys.length with hh | hh
    · exact hh
    · rw [List.getElem?_eq_none (by rw [IV_len]; exact hh)] at hj
      cases hj
  obtain ⟨b, off, e, _, hc⟩ := h (by omega)
  injection e with e
  subst e
  rw [Addr.add_lit, hc j hlt]
  rw [IV_get ys j hlt] at hj
  exact hj
theorem Row.some_ {k : IntKind} {w : World} {a : Option Addr} {ys : List Int} (h : Row k w a ys) (hn : 0 < ys.length) : ∃ ad, a = some ad := by
  obtain ⟨b, off, e, _⟩ := h hn
  exact ⟨_, e⟩

/-- 'append(out, ys...)': the list grows by another that lies in memory. -/
theorem wpList_cat {ops : Array Oper} {rest : List Oper} {o : Oper} {a : Act} {Q : Exit → Act → World → Prop} (hgd : o.guard = none) (s x : Operand)
    (ho : o.op = .call { callee := .builtin .append, args := #[s, x], argTypes := #[22, 22] })
    (W : World) (base hi : Nat) (ys out : List Int) (a0 : Option Addr) (cap : Nat) (ad : Addr) (cy : Nat) (hs : a.eval s = .slice a0 out.length cap) (hx : a.eval x = .slice (some ad) ys.length cy)
    (hown : Own W base hi (.slice a0 out.length cap) out) (hrow : Row .i64 W (some ad) ys) (hb : base ≤ W.heap.size) (hl : out.length + ys.length ≤ 1000000)
    (h : ∀ a' c' w', Own w' base w'.heap.size (.slice a' (out.length + ys.length) c') (out ++ ys) → Below base W w' → W.heap.size ≤ w'.heap.size → wpList Try.prog ops Q rest (a.put o.dst (.slice a' (out.length + ys.length) c')) w') :
    wpList Try.prog ops Q (o :: rest) a W := by
  obtain ⟨i0, hi0, hz0, hz1, hz2⟩ := info_parts int_info
  refine wpList_append_own _ hgd s x 22 ho base 3 i0 (.int .i64 0) 1 8 Try.underlying22 hi0 hz0 hz1 hz2 rfl (by decide) _ _ _ hs hown.owns ad ys.length cy (IV ys) hx (by rw [IV_len]; omega) hrow.cells (IV_one ys) (by unfold maxLen; omega) (by omega) hb ?_
  intro v' w' ho' hg' _
  rw [IV_app] at ho'
  have ho2 : w'.ownsRow base 3 1 v' (out ++ ys).length (IV (out ++ ys)) := by
    rw [List.length_append]
    exact ho'
  have hO := Own.of ho2
  obtain ⟨a', c', rfl⟩ := hO.form
  have hlen : (out ++ ys).length = out.length + ys.length := by simp
  rw [hlen] at hO ⊢
  refine h a' c' w' hO ?_ hg'.size
  exact (Below.refl base W).grown hg' hb (fun r hr => (hown.owns.lt r hr).1)
/-- One cell of a list of the call's own is written. -/
theorem wpList_setOwn {ops : Array Oper} {rest : List Oper} {o : Oper} {a : Act} {Q : Exit → Act → World → Prop} (hgd : o.guard = none) (x y : Operand) (ho : o.op = .store 3 x y)
    (W : World) (lo hi g n cap : Nat) (zs : List Int) (i : Nat) (d : Int) (hx : a.eval x = .pointer (some ⟨g, i, none⟩)) (hy : a.eval y = .int .i64 d)
    (hown : Own W lo hi (.slice (some ⟨g, 0, none⟩) n cap) zs) (hi' : i < zs.length)
    (h : ∀ w', Own w' lo hi (.slice (some ⟨g, 0, none⟩) n cap) (zs.set i d) → Below lo W w' → w'.heap.size = W.heap.size → wpList Try.prog ops Q rest (a.put o.dst undef) w') :
    wpList Try.prog ops Q (o :: rest) a W := by
  obtain ⟨g', hg, h1, h2, hc, hf⟩ := hown.at_ hi'
  obtain rfl : g = g' := by injection hg with hg; injection hg
  refine wpList_plain hgd fun K hK => ?_
  have hK' := hK _ _ (h _ (hown.set_ i d) ((Below.refl lo W).setCell h1 _) (by simp [World.setCell]))
  unfold Oper.wp execOp
  simp only [ho, hx, hy]
  simp [go_sem, hc, hf]
  exact hK'
end Go.Proofs.Ytgdeaochfmakbaa
