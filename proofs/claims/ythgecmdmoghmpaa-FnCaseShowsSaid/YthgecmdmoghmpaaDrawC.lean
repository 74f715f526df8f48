
/-
  Words for drawn rods: a slice of rods of the call's own, built up by appends; what is left of it when a side is stored anew.
-/
import Derived.Test.YthgecmdmoghmpaaRods2
import Derived.Test.YthgecmdmoghmpaaDrawN
import Derived.Test.YthgecmdmoghmpaaTwo
namespace Go.Proofs.Ythgecmdmoghmpaa
open Go.RowKit

/-- A row that lies in blocks from lo on. -/
def RowFrom (lo : Nat) (w : World) (a : Option Addr) (zs : List Int) : Prop :=
  0 < zs.length → ∃ b off, a = some ⟨b, off, none⟩ ∧ lo ≤ b ∧ b < w.heap.size ∧ ∀ i, i < zs.length → w.cell? ⟨b, off + i, none⟩ = some (.int .i64 (nth zs i))
def RodsFrom (lo : Nat) (w : World) (a : Option Addr) (rs : List (List Int)) : Prop :=
  0 < rs.length → ∃ b off, a = some ⟨b, off, none⟩ ∧ lo ≤ b ∧ b < w.heap.size ∧ ∀ i, i < rs.length → ∃ a' c', w.cell? ⟨b, off + i, none⟩ = some (.slice a' (rod rs i).length c') ∧ (rod rs i).length ≤ c' ∧ c' ≤ maxLen ∧ RowFrom lo w a' (rod rs i)
section
variable {lo lo' : Nat} {w w' : World} {a : Option Addr} {zs : List Int} {rs : List (List Int)}
theorem RowFrom.row (h : RowFrom lo w a zs) : Row .i64 w a zs := fun hn => by
  obtain ⟨b, off, e, _, hlt, hc⟩ := h hn
  exact ⟨b, off, e, hlt, hc⟩
theorem RodsFrom.rods (h : RodsFrom lo w a rs) : Rods w a rs := fun hn => by
  obtain ⟨b, off, e, _, hlt, hc⟩ := h hn
  refine ⟨b, off, e, hlt, fun i hi => ?_⟩
  obtain ⟨a', c', h1, h2, h3, h4⟩ := hc i hi
  exact ⟨a', c', h1, h2, h3, h4.row⟩
theorem RowFrom.grown {row : Option Nat} (h : RowFrom lo w a zs) (hg : w.grownBy w' row) (hr : ∀ r, row = some r → r < lo) : RowFrom lo w' a zs := fun hn => by
  obtain ⟨b, off, e, h1, h2, hc⟩ := h hn
  exact ⟨b, off, e, h1, Nat.lt_of_lt_of_le h2 hg.size, fun i hi => hg.cell (a := ⟨b, off + i, none⟩) (hc i hi) (fun e => by have := hr b e.symm; omega)⟩
theorem RodsFrom.grown {row : Option Nat} (h : RodsFrom lo w a rs) (hg : w.grownBy w' row) (hr : ∀ r, row = some r → r < lo) : RodsFrom lo w' a rs := fun hn => by
  obtain ⟨b, off, e, h1, h2, hc⟩ := h hn
  refine ⟨b, off, e, h1, Nat.lt_of_lt_of_le h2 hg.size, fun i hi => ?_⟩
  obtain ⟨a', c', k1, k2, k3, k4⟩ := hc i hi
  exact ⟨a', c', hg.cell (a := ⟨b, off + i, none⟩) k1 (fun e => by have := hr b e.symm; omega), k2, k3, k4.grown hg hr⟩
theorem RowFrom.mono (h : RowFrom lo w a zs) (hl : lo' ≤ lo) : RowFrom lo' w a zs := fun hn => by
  obtain ⟨b, off, e, h1, h2, hc⟩ := h hn
  exact ⟨b, off, e, by omega, h2, hc⟩
theorem RodsFrom.mono (h : RodsFrom lo w a rs) (hl : lo' ≤ lo) : RodsFrom lo' w a rs := fun hn => by
  obtain ⟨b, off, e, h1, h2, hc⟩ := h hn
  refine ⟨b, off, e, by omega, h2, fun i hi => ?_⟩
  obtain ⟨a', c', k1, k2, k3, k4⟩ := hc i hi
  exact ⟨a', c', k1, k2, k3, k4.mono hl⟩
/-- Behind a store of a number somewhere a row is a row of as many numbers. -/
theorem RowFrom.poke (h : RowFrom lo w a zs) (g i : Nat) (x : Int) : ∃ zs' : List Int, zs'.length = zs.length ∧ RowFrom lo (w.setCell ⟨g, i, none⟩ (.int .i64 x)) a zs' := by
  by_cases hn : 0 < zs.length
  · obtain ⟨b, off, rfl, h1, h2, hc⟩ := h hn
    by_cases hh : b = g ∧ off ≤ i ∧ i < off + zs.length
    · obtain ⟨rfl, h3, h4⟩ := hh
      refine ⟨zs.set (i - off) x, by simp, fun _ => ⟨b, off, rfl, h1, by simpa using h2, fun j hj => ?_⟩⟩
      rw [List.length_set] at hj
      by_cases e : off + j = i
      · have hz : nth (zs.set (i - off) x) j = x := by
          rw [nth_of _ _ (by simpa using hj)]
          simp [show i - off = j by omega]
        rw [hz, e]
        exact World.cell?_setCell_same _ _ _ (by rw [← e]; exact hc j hj)
      · have hz : nth (zs.set (i - off) x) j = nth zs j := by
          rw [nth_of _ _ (by simpa using hj), nth_of _ _ hj, List.getElem_set_ne (by omega)]
        rw [hz]
        exact (World.cell?_setCell_other w _ _ _ (fun e' => e (by injection e' with _ e'; exact e'.symm))).trans (hc j hj)
    · refine ⟨zs, rfl, fun _ => ⟨b, off, rfl, h1, by simpa using h2, fun j hj => ?_⟩⟩
      refine (World.cell?_setCell_other w _ _ _ (fun e' => hh ?_)).trans (hc j hj)
      injection e' with e1 e2
      exact ⟨e1.symm, by omega, by omega⟩
  · exact ⟨zs, rfl, fun h' => absurd h' hn⟩
/-- Behind a store of a number into a cell that holds a number, rods are as many rods with as many sides. -/
theorem RodsFrom.poke (h : RodsFrom lo w a rs) {g i : Nat} {x y : Int} (hc : w.cell? ⟨g, i, none⟩ = some (.int .i64 y)) :
    ∃ rs' : List (List Int), rs'.length = rs.length ∧ (∀ j, j < rs.length → (rod rs' j).length = (rod rs j).length) ∧ RodsFrom lo (w.setCell ⟨g, i, none⟩ (.int .i64 x)) a rs' := by
  by_cases hn : 0 < rs.length
  · obtain ⟨b, off, rfl, h1, h2, hcell⟩ := h hn
    have each : ∀ j, j < rs.length → ∃ zs' : List Int, zs'.length = (rod rs j).length ∧ ∃ a' c', w.cell? ⟨b, off + j, none⟩ = some (.slice a' (rod rs j).length c') ∧ (rod rs j).length ≤ c' ∧ c' ≤ maxLen ∧ RowFrom lo (w.setCell ⟨g, i, none⟩ (.int .i64 x)) a' zs' := by
      intro j hj
      obtain ⟨a', c', k1, k2, k3, k4⟩ := hcell j hj
      obtain ⟨zs', l1, l2⟩ := k4.poke g i x
      exact ⟨zs', l1, a', c', k1, k2, k3, l2⟩
    let f : Nat → List Int := fun j => if hj : j < rs.length then (each j hj).choose else []
    have hf : ∀ j, j < rs.length → (f j).length = (rod rs j).length ∧ ∃ a' c', w.cell? ⟨b, off + j, none⟩ = some (.slice a' (rod rs j).length c') ∧ (rod rs j).length ≤ c' ∧ c' ≤ maxLen ∧ RowFrom lo (w.setCell ⟨g, i, none⟩ (.int .i64 x)) a' (f j) := by
      intro j hj
      have e : f j = (each j hj).choose := by simp [f, hj]
      rw [e]
      exact (each j hj).choose_spec
    have hlen : ((List.range rs.length).map f).length = rs.length := by simp
    have hrod : ∀ j, j < rs.length → rod ((List.range rs.length).map f) j = f j := fun j hj => by simp [rod, hj]
    refine ⟨(List.range rs.length).map f, hlen, fun j hj => by rw [hrod j hj]; exact (hf j hj).1, fun _ => ⟨b, off, rfl, h1, by simpa using h2, fun j hj => ?_⟩⟩
    rw [hlen] at hj
    rw [hrod j hj]
    obtain ⟨e1, a', c', k1, k2, k3, k4⟩ := hf j hj
    refine ⟨a', c', ?_, by omega, k3, k4⟩
    rw [e1]
    refine (World.cell?_setCell_other w _ _ _ (fun e' => ?_)).trans k1
    injection e' with e2 e3
    subst e2 e3
    rw [hc] at k1
    injection k1 with k1
    cases k1
  · exact ⟨rs, rfl, fun _ _ => rfl, fun h' => absurd h' hn⟩
end

/-- Rods of the call's own in a slice of the call's own; no rod's sides lie in the slice's block. -/
structure OwnR (w : World) (lo : Nat) (v : Value) (xs : List Value) (rs : List (List Int)) : Prop where
  owns : w.ownsRow lo 41 1 v rs.length xs
  len : xs.length = rs.length
  side : ∀ i, i < rs.length → ∃ a c, xs[i]? = some (.slice a (rod rs i).length c) ∧ Own w lo w.heap.size (.slice a (rod rs i).length c) (rod rs i) ∧ ∀ g, (Value.slice a (rod rs i).length c).ownBlock = some g → v.ownBlock ≠ some g
section
variable {lo : Nat} {w w' : World} {v : Value} {xs : List Value} {rs : List (List Int)}
theorem OwnR.form (h : OwnR w lo v xs rs) : ∃ a cap, v = .slice a rs.length cap ∧ rs.length ≤ cap ∧ cap ≤ maxLen := by
  rcases h.owns.2 with ⟨rfl, hn⟩ | ⟨g, cap, cur, rfl, _, _, h3, h4, _⟩
  · exact ⟨none, 0, by rw [hn], by omega, by unfold maxLen; omega⟩
  · exact ⟨_, cap, rfl, h3, h4⟩
theorem OwnR.kept {row : Option Nat} (h : OwnR w lo v xs rs) (hg : w.grownBy w' row) (hr : ∀ r, row = some r → r < lo) : OwnR w' lo v xs rs := by
  refine ⟨h.owns.kept hg ?_, h.len, fun i hi => ?_⟩
  · cases hv : v.ownBlock with
    | none => exact .inl rfl
    | some g => exact .inr fun e => by have h1 := h.owns.lt g hv; have := hr g e.symm; omega
  · obtain ⟨a, c, h1, h2, h3⟩ := h.side i hi
    exact ⟨a, c, h1, (h2.kept hg (fun r e => .inl (hr r e))).all, h3⟩
theorem OwnR.rods {a : Option Addr} {n cap : Nat} (h : OwnR w lo (.slice a n cap) xs rs) : RodsFrom lo w a rs := fun hn => by
  rcases h.owns.2 with ⟨_, hz⟩ | ⟨g, cap', cur, hv, hlo, hh, _, _, _, _⟩
  · omega
  · have ha : a = some ⟨g, 0, none⟩ := by injection hv
    subst ha
    refine ⟨g, 0, rfl, hlo, (Array.getElem?_eq_some_iff.1 hh).1, fun i hi => ?_⟩
    obtain ⟨a', c', h1, h2, h3⟩ := h.side i hi
    have hvn : n = rs.length := by injection hv
    refine ⟨a', c', ?_, h2.caps.1, h2.caps.2, ?_⟩
    · subst hvn
      rw [Nat.zero_add, h.owns.cellAt i (by omega), h1]
    · intro hn2
      rcases h2.owns.2 with ⟨_, hz⟩ | ⟨g2, cap2, cur2, hv2, hlo2, hh2, _, _, _, _⟩
      · omega
      · have ha2 : a' = some ⟨g2, 0, none⟩ := by injection hv2
        subst ha2
        refine ⟨g2, 0, rfl, hlo2, (Array.getElem?_eq_some_iff.1 hh2).1, fun j hj => ?_⟩
        rw [Nat.zero_add, h2.owns.cellAt j (by omega), IV_get _ j hj]
theorem OwnR.new (W : World) (lo : Nat) (h : lo ≤ W.heap.size) : OwnR (W.alloc (.cells #[] 41)) lo (.slice (some ⟨W.heap.size, 0, none⟩) 0 0) [] [] :=
  ⟨World.ownsRow_lit W #[] 0 h (by unfold maxLen; omega) rfl, rfl, fun i hi => by simp at hi⟩
end

theorem oneCell_slice (a : Option Addr) (n c : Nat) : (Value.slice a n c).oneCell' = true := rfl
/-- 'append(out, Rod{sides})'. -/
theorem wpList_push_rod {ops : Array Oper} {rest : List Oper} {o : Oper} {a : Act} {Q : Exit → Act → World → Prop} (hgd : o.guard = none) (s x : Operand)
    (ho : o.op = .call { callee := .builtin .append, args := #[s, x], argTypes := #[26, 26] })
    (W : World) (lo : Nat) (zs : List Int) (az : Option Addr) (cz : Nat) (xs : List Value) (rs : List (List Int)) (a1 : Option Addr) (c1 : Nat) (hs : a.eval s = .slice a1 rs.length c1) (hx : a.eval x = .slice (some ⟨W.heap.size, 0, none⟩) 1 1)
    (h2 : OwnR W lo (.slice a1 rs.length c1) xs rs) (hz : Own W lo W.heap.size (.slice az zs.length cz) zs) (hsep : ∀ g, (Value.slice az zs.length cz).ownBlock = some g → (Value.slice a1 rs.length c1).ownBlock ≠ some g) (hlo : lo ≤ W.heap.size) (hl : rs.length ≤ 1000000)
    (h : ∀ a' c' w', OwnR w' lo (.slice a' (rs.length + 1) c') (xs ++ [.slice az zs.length cz]) (rs ++ [zs]) → Below lo W w' → W.heap.size ≤ w'.heap.size → wpList Try.prog ops Q rest (a.put o.dst (.slice a' (rs.length + 1) c')) w') :
    wpList Try.prog ops Q (o :: rest) a (W.alloc (.cells #[.slice az zs.length cz] 41)) := by
  obtain ⟨i0, hi0, hz0, hz1, hz2⟩ := info_parts rod_info
  refine wpList_append_own_at _ hgd s x 26 ho lo 41 i0 (.agg #[.slice none 0 0]) 1 24 Try.underlying26 hi0 hz0 hz1 hz2 rfl (by decide) _ _ _ hs (h2.owns.alloc _) ⟨W.heap.size, 0, none⟩ 1 1 [.slice az zs.length cz] hx rfl (news_one _ _ _) (news_one1 rfl) (by unfold maxLen; omega) (by omega) (by simp; omega) ?_
  intro v' w' ho' hg' _ hw'
  have hlen : (rs ++ [zs]).length = rs.length + 1 := by simp
  have hsz : W.heap.size + 1 ≤ w'.heap.size := by have := hg'.size; simpa using this
  have keep : ∀ {u : Value} {ys : List Int}, Own W lo W.heap.size u ys → (∀ g, u.ownBlock = some g → (Value.slice a1 rs.length c1).ownBlock ≠ some g) → Own w' lo w'.heap.size u ys := fun hu hs2 => by
    have := (hu.kept (World.grownBy_alloc W (.cells #[.slice az zs.length cz] 41) none) (fun r hr => by cases hr)).apart hg' (fun r hr h3 => hs2 r h3 hr)
    exact this.mono (Nat.le_refl _) this.lim (Nat.le_refl _)
  have sepn : ∀ {u : Value} {ys : List Int}, Own W lo W.heap.size u ys → (∀ g, u.ownBlock = some g → (Value.slice a1 rs.length c1).ownBlock ≠ some g) → ∀ g, u.ownBlock = some g → v'.ownBlock ≠ some g := fun hu hs2 g hg3 h4 => by
    rcases hw' with hw | hw
    · exact hs2 g hg3 (hw ▸ h4)
    · rw [hw] at h4
      injection h4 with h4
      have := hu.top g hg3
      simp at h4
      omega
  have ho2 : w'.ownsRow lo 41 1 v' (rs ++ [zs]).length (xs ++ [.slice az zs.length cz]) := by rw [hlen]; exact ho'
  have hO : OwnR w' lo v' (xs ++ [.slice az zs.length cz]) (rs ++ [zs]) := by
    refine ⟨ho2, by simp [h2.len], fun i hi => ?_⟩
    rw [hlen] at hi
    by_cases e : i < rs.length
    · obtain ⟨a', c', k1, k2, k3⟩ := h2.side i e
      rw [rod_snoc e]
      exact ⟨a', c', by rw [List.getElem?_append_left (by rw [h2.len]; exact e)]; exact k1, keep k2 k3, sepn k2 k3⟩
    · have : i = rs.length := by omega
      subst this
      have hr : rod (rs ++ [zs]) rs.length = zs := by simp [rod]
      rw [hr]
      exact ⟨az, cz, by rw [← h2.len]; simp, keep hz hsep, sepn hz hsep⟩
  obtain ⟨a', c', rfl, _, _⟩ := hO.form
  rw [hlen] at hO ⊢
  exact h a' c' w' hO (((Below.refl lo W).alloc hlo _).grown hg' (by simp; omega) (fun r hr => (h2.owns.lt r hr).1)) (by omega)
end Go.Proofs.Ythgecmdmoghmpaa
