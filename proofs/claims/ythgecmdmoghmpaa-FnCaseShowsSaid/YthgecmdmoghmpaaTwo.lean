
/-
  Two lists of the call's own that grow side by side. Condition: fewer than a million numbers. No program text is walked here.
-/
import Derived.Test.YthgecmdmoghmpaaOwn
import Derived.Maps.AppendAt
namespace Go.Proofs.Ythgecmdmoghmpaa
open Go.RowKit

section
variable {w w' : World} {lo hi : Nat} {v : Value} {zs : List Int}
theorem Own.tight (h : Own w lo hi v zs) {g : Nat} (e : v.ownBlock = some g) : Own w g (g + 1) v zs ∧ lo ≤ g ∧ g < hi := by
  have h1 := h.owns.lt g e
  have h2 := h.top g e
  refine ⟨⟨⟨h.owns.1, ?_⟩, fun r hr => by rw [e] at hr; injection hr with hr; omega, by have := h.lim; omega⟩, h1.1, h2⟩
  rcases h.owns.2 with ⟨rfl, _⟩ | ⟨g', cap, cur, rfl, h3, h4, h5⟩
  · simp [Value.ownBlock] at e
  · have : g' = g := by simpa [Value.ownBlock] using e
    subst this
    exact .inr ⟨g', cap, cur, rfl, Nat.le_refl _, h4, h5⟩
theorem Own.loose (h : Own w lo hi v zs) (e : v.ownBlock = none) (n : Nat) (hn : n ≤ w.heap.size) : Own w n n v zs := by
  refine ⟨⟨h.owns.1, ?_⟩, (fun r hr => by rw [e] at hr; cases hr), hn⟩
  rcases h.owns.2 with hh | ⟨g', cap, cur, rfl, h3, h4, h5⟩
  · exact .inl hh
  · simp [Value.ownBlock] at e
theorem Own.apart {row : Option Nat} (h : Own w lo hi v zs) (hg : w.grownBy w' row) (hne : ∀ r, row = some r → v.ownBlock ≠ some r) : Own w' lo hi v zs := by
  refine ⟨h.owns.kept hg ?_, h.top, Nat.le_trans h.lim hg.size⟩
  cases hv : v.ownBlock with
  | none => exact .inl rfl
  | some g => exact .inr fun e => hne g e.symm hv
end

/-- Two lists in blocks of their own. -/
structure Two (w : World) (lo : Nat) (v1 : Value) (xs : List Int) (v2 : Value) (ys : List Int) : Prop where
  fst : Own w lo w.heap.size v1 xs
  snd : Own w lo w.heap.size v2 ys
  sep : ∀ r, v1.ownBlock = some r → v2.ownBlock ≠ some r
theorem Two.swap {w : World} {lo : Nat} {v1 v2 : Value} {xs ys : List Int} (h : Two w lo v1 xs v2 ys) : Two w lo v2 ys v1 xs := ⟨h.snd, h.fst, fun r h1 h2 => h.sep r h2 h1⟩
theorem Two.parts {w : World} {lo : Nat} {v1 v2 : Value} {xs ys : List Int} (h : Two w lo v1 xs v2 ys) (hlo : lo ≤ w.heap.size) :
    ∃ l1 h1 l2 h2, Own w l1 h1 v1 xs ∧ Own w l2 h2 v2 ys ∧ (h1 ≤ l2 ∨ h2 ≤ l1) ∧ lo ≤ l1 ∧ lo ≤ l2 := by
  cases e1 : v1.ownBlock with
  | none =>
    cases e2 : v2.ownBlock with
    | none => exact ⟨_, _, _, _, h.fst.loose e1 lo hlo, h.snd.loose e2 lo hlo, .inl (Nat.le_refl _), Nat.le_refl _, Nat.le_refl _⟩
    | some g2 =>
      obtain ⟨o2, l2, _⟩ := h.snd.tight e2
      exact ⟨_, _, _, _, h.fst.loose e1 lo hlo, o2, .inl l2, Nat.le_refl _, l2⟩
  | some g1 =>
    obtain ⟨o1, l1, _⟩ := h.fst.tight e1
    cases e2 : v2.ownBlock with
    | none => exact ⟨_, _, _, _, o1, h.snd.loose e2 lo hlo, .inr l1, l1, Nat.le_refl _⟩
    | some g2 =>
      obtain ⟨o2, l2, _⟩ := h.snd.tight e2
      have hne : g1 ≠ g2 := fun e => h.sep g1 e1 (by rw [e]; exact e2)
      exact ⟨_, _, _, _, o1, o2, by omega, l1, l2⟩
theorem own_new (W : World) (lo : Nat) (h : lo ≤ W.heap.size) : Own (W.alloc (.cells #[] 3)) lo (W.heap.size + 1) (.slice (some ⟨W.heap.size, 0, none⟩) 0 0) [] := by
  have h1 : (W.alloc (.cells #[] 3)).ownsRow lo 3 1 (.slice (some ⟨W.heap.size, 0, none⟩) 0 0) 0 [] := World.ownsRow_lit W #[] 0 h (by unfold maxLen; omega) rfl
  have := Own.of (zs := []) h1
  simpa using this
theorem Two.empty (w : World) : Two ((w.alloc (.cells #[] 3)).alloc (.cells #[] 3)) w.heap.size (.slice (some ⟨w.heap.size, 0, none⟩) 0 0) [] (.slice (some ⟨w.heap.size + 1, 0, none⟩) 0 0) [] := by
  have h1 := (own_new w w.heap.size (Nat.le_refl _)).kept (World.grownBy_alloc _ (.cells #[] 3) none) (fun r hr => by cases hr)
  have h2 := own_new (w.alloc (.cells #[] 3)) w.heap.size (by simp)
  refine ⟨h1.all, ?_, ?_⟩
  · have := h2.all
    simpa using this
  · intro r h3 h4
    simp [Value.ownBlock] at h3 h4
    omega
theorem Two.nil_ (w : World) (lo : Nat) : Two w lo (.slice none 0 0) [] (.slice none 0 0) [] := ⟨Own.nil_ w lo, Own.nil_ w lo, fun r h => by simp [Value.ownBlock] at h⟩
/-- What an append to the first list leaves. -/
theorem Two.grown {W w' : World} {lo : Nat} {d : Int} {tmp : Obj} {v1 v1' v2 : Value} {xs ys : List Int} (h : Two W lo v1 xs v2 ys) (hlo : lo ≤ W.heap.size)
    (ho : w'.ownsRow lo 3 1 v1' (xs.length + 1) (IV xs ++ [.int .i64 d])) (hg : (W.alloc tmp).grownBy w' v1.ownBlock) (hw : v1'.ownBlock = v1.ownBlock ∨ v1'.ownBlock = some (W.alloc tmp).heap.size) :
    ∃ a' c', v1' = .slice a' (xs.length + 1) c' ∧ Two w' lo v1' (xs ++ [d]) v2 ys ∧ Below lo W w' ∧ W.heap.size ≤ w'.heap.size := by
  rw [IV_snoc] at ho
  have ho2 : w'.ownsRow lo 3 1 v1' (xs ++ [d]).length (IV (xs ++ [d])) := by rw [List.length_append]; exact ho
  have hO := Own.of ho2
  obtain ⟨a', c', e⟩ := hO.form
  have hlen : (xs ++ [d]).length = xs.length + 1 := by simp
  rw [hlen] at e
  have hsz : W.heap.size + 1 ≤ w'.heap.size := by have := hg.size; simpa using this
  refine ⟨a', c', e, ⟨hO, ?_, ?_⟩, ((Below.refl lo W).alloc hlo _).grown hg (by simp; omega) (fun r hr => (h.fst.owns.lt r hr).1), by omega⟩
  · exact ((h.snd.kept (World.grownBy_alloc W tmp none) (fun r hr => by cases hr)).apart hg (fun r hr => h.sep r hr)).mono (Nat.le_refl _) (by omega) (Nat.le_refl _)
  · intro r hr1 hr2
    rcases hw with hw | hw
    · exact h.sep r (hw ▸ hr1) hr2
    · rw [hw] at hr1
      injection hr1 with hr1
      have := h.snd.top r hr2
      simp at hr1
      omega

/-- 'append(xs, d)' on the first of two lists. -/
theorem wpList_push_fst {ops : Array Oper} {rest : List Oper} {o : Oper} {a : Act} {Q : Exit → Act → World → Prop} (hgd : o.guard = none) (s x : Operand)
    (ho : o.op = .call { callee := .builtin .append, args := #[s, x], argTypes := #[23, 23] })
    (W : World) (lo : Nat) (d : Int) (xs ys : List Int) (a1 : Option Addr) (c1 : Nat) (v2 : Value) (hs : a.eval s = .slice a1 xs.length c1) (hx : a.eval x = .slice (some ⟨W.heap.size, 0, none⟩) 1 1)
    (h2 : Two W lo (.slice a1 xs.length c1) xs v2 ys) (hlo : lo ≤ W.heap.size) (hl : xs.length ≤ 1000000)
    (h : ∀ a' c' w', Two w' lo (.slice a' (xs.length + 1) c') (xs ++ [d]) v2 ys → Below lo W w' → W.heap.size ≤ w'.heap.size → wpList Try.prog ops Q rest (a.put o.dst (.slice a' (xs.length + 1) c')) w') :
    wpList Try.prog ops Q (o :: rest) a (W.alloc (.cells #[.int .i64 d] 3)) := by
  obtain ⟨i0, hi0, hz0, hz1, hz2⟩ := info_parts int_info
  refine wpList_append_own_at _ hgd s x 23 ho lo 3 i0 (.int .i64 0) 1 8 Try.underlying23 hi0 hz0 hz1 hz2 rfl (by decide) _ _ _ hs (h2.fst.owns.alloc _) ⟨W.heap.size, 0, none⟩ 1 1 [.int .i64 d] hx rfl (news_one _ _ _) (news_one1 rfl) (by unfold maxLen; omega) (by omega) (by simp; omega) ?_
  intro v' w' ho' hg' _ hw'
  obtain ⟨a', c', rfl, ht, hb, hsz⟩ := h2.grown hlo ho' hg' hw'
  exact h a' c' w' ht hb hsz
/-- 'append(ys, d)' on the second of two lists. -/
theorem wpList_push_snd {ops : Array Oper} {rest : List Oper} {o : Oper} {a : Act} {Q : Exit → Act → World → Prop} (hgd : o.guard = none) (s x : Operand)
    (ho : o.op = .call { callee := .builtin .append, args := #[s, x], argTypes := #[23, 23] })
    (W : World) (lo : Nat) (d : Int) (xs ys : List Int) (v1 : Value) (a2 : Option Addr) (c2 : Nat) (hs : a.eval s = .slice a2 ys.length c2) (hx : a.eval x = .slice (some ⟨W.heap.size, 0, none⟩) 1 1)
    (h2 : Two W lo v1 xs (.slice a2 ys.length c2) ys) (hlo : lo ≤ W.heap.size) (hl : ys.length ≤ 1000000)
    (h : ∀ a' c' w', Two w' lo v1 xs (.slice a' (ys.length + 1) c') (ys ++ [d]) → Below lo W w' → W.heap.size ≤ w'.heap.size → wpList Try.prog ops Q rest (a.put o.dst (.slice a' (ys.length + 1) c')) w') :
    wpList Try.prog ops Q (o :: rest) a (W.alloc (.cells #[.int .i64 d] 3)) :=
  wpList_push_fst hgd s x ho W lo d ys xs a2 c2 v1 hs hx h2.swap hlo hl (fun a' c' w' ht hb hsz => h a' c' w' ht.swap hb hsz)

/-- Two lists of the call's own and a bool. -/
def FreshTwo (w : World) (xs ys : List Int) (b : Bool) (e : Ending) (w' : World) : Prop :=
  ∃ a c a' c' l1 h1 l2 h2, e = .returned (.tuple #[.slice a xs.length c, .slice a' ys.length c', .bool b]) ∧ Own w' l1 h1 (.slice a xs.length c) xs ∧ Own w' l2 h2 (.slice a' ys.length c') ys ∧ (h1 ≤ l2 ∨ h2 ≤ l1) ∧ w.heap.size ≤ l1 ∧ w.heap.size ≤ l2 ∧ Below w.heap.size w w'
theorem Two.fresh {w w' : World} {a a' : Option Addr} {c c' : Nat} {xs ys : List Int} {b : Bool} (h : Two w' w.heap.size (.slice a xs.length c) xs (.slice a' ys.length c') ys) (hb : Below w.heap.size w w') :
    FreshTwo w xs ys b (.returned (.tuple #[.slice a xs.length c, .slice a' ys.length c', .bool b])) w' := by
  obtain ⟨l1, h1, l2, h2, o1, o2, d, e1, e2⟩ := h.parts hb.size
  exact ⟨a, c, a', c', l1, h1, l2, h2, rfl, o1, o2, d, e1, e2, hb⟩
end Go.Proofs.Ythgecmdmoghmpaa
