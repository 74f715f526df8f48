
/-
  A slice of rods that came in, opened to the lists of their sides.
-/
import Derived.Test.YthgecmdmoghmpaaRods
import Derived.ProofKit
import Derived.OpenShut
import Derived.Deep.Slices
namespace Go.Proofs.Ythgecmdmoghmpaa
open Go.RowKit Go.ChangeShapes Go.WideShapes Go.Deep

/-- What a law is told of a slice of rods that came in. -/
structure InRods (w : World) (a : Option Addr) (cap : Nat) (rs : List (List Int)) : Prop where
  row : Rods w a rs
  fits : rs.length ≤ cap
  lim : cap ≤ maxLen

section
variable {H : Type} {enc : TypeId × Value → H} {w : World} {base : Nat} {spare : Nat → Bool} {held : Bool} {fuel : Nat}
theorem open_sides {v : Value} {x : DataW H × List MemPlace} (h : DataW.trod enc Try.prog w base spare held fuel 23 [v] = some x) :
    ∃ a c zs, v = .slice a zs.length c ∧ zs.length ≤ c ∧ c ≤ maxLen ∧ Row .i64 w a zs := by
  rcases open_ints Try.underlying23 Try.underlying3 (by kernel_rfl) h with ⟨hcs, _⟩ | ⟨x, l, c, zs, hcs, _, hl, hm, hz, _, hcell, hwz⟩
  · injection hcs with hv
    exact ⟨none, 0, [], hv, by simp, Nat.zero_le _, Row.nil_⟩
  · injection hcs with hv
    have hle : l ≤ zs.length := by
      rw [hz]
      split <;> omega
    refine ⟨some x, c, zs.take l, by rw [hv, List.length_take, Nat.min_eq_left hle], by rw [List.length_take]; omega, hm, ?_⟩
    intro hn
    have hlen : (zs.take l).length = l := by rw [List.length_take]; omega
    obtain ⟨b, off, spot⟩ := x
    have h0 := hcell 0 (by omega)
    have hspot : spot = none := by simpa [Addr.add] using World.cell?_spot h0
    subst hspot
    have hb : b < w.heap.size := by
      have := World.block_lt_of_cell? w _ h0
      simpa [Addr.add] using this
    refine ⟨b, off, rfl, hb, fun i hi => ?_⟩
    have := hcell i (by omega)
    rw [Addr.add_lit] at this
    rw [this]
    have : i < l := by omega
    simp [nth, this]
theorem open_rods {cs : List Value} {x : DataW H × List MemPlace} (h : DataW.trod enc Try.prog w base spare held fuel 22 cs = some x) :
    ∃ a cap rs, cs = [.slice a (List.length rs) cap] ∧ InRods w a cap rs := by
  rcases open_slice Try.underlying22 h with ⟨rfl, _⟩ | ⟨a, len, cap, m, n, D, Pl, rfl, _, hl, hm, hmm, _, hi⟩
  · exact ⟨none, 0, [], rfl, Rods.nil_, by simp, Nat.zero_le _⟩
  · have hlm : len ≤ m := by
      rw [hmm]
      split <;> omega
    have hC : Try.prog.cellsOf 44 = 1 := by kernel_rfl
    have hCi : Try.prog.cellsOf 23 = 1 := by kernel_rfl
    have each : ∀ i, i < len → ∃ a' c' zs, w.cell? (a.add i) = some (.slice a' (List.length zs) c') ∧ zs.length ≤ c' ∧ c' ≤ maxLen ∧ Row .i64 w a' zs := by
      intro i him
      obtain ⟨cs', hc, ht⟩ := hi i (by omega)
      rw [hC] at hc
      obtain ⟨_, hlen, hat⟩ := World.cells?_some hc
      obtain ⟨ys, n', _, _, _, hys, hf⟩ := DataW.trod_struct Try.underlying44 ht
      match cs', hlen with
      | [v], _ =>
        have h0 := hat 0 (by omega)
        have hfield := hf 0 _ rfl
        match ys, hys with
        | [y], _ =>
          have h1 : DataW.trod enc Try.prog w base spare held n' 23 [v] = some y := by
            have := hfield
            simpa [hCi] using this
          obtain ⟨a', c', zs, hv, l1, l2, hr⟩ := open_sides h1
          refine ⟨a', c', zs, ?_, l1, l2, hr⟩
          rw [← hv]
          have e : (a.add (i * 1)).add 0 = a.add i := by simp [Addr.add]
          rw [e] at h0
          simpa using h0
    let f : Nat → List Int := fun i => if hi : i < len then (each i hi).choose_spec.choose_spec.choose else []
    have hf : ∀ i, i < len → ∃ a' c', w.cell? (a.add i) = some (.slice a' (f i).length c') ∧ (f i).length ≤ c' ∧ c' ≤ maxLen ∧ Row .i64 w a' (f i) := by
      intro i hi
      have e : f i = (each i hi).choose_spec.choose_spec.choose := by simp [f, hi]
      rw [e]
      exact ⟨_, _, (each i hi).choose_spec.choose_spec.choose_spec⟩
    have hlen : ((List.range len).map f).length = len := by simp
    refine ⟨some a, cap, (List.range len).map f, by rw [hlen], ?_, by rw [hlen]; exact hl, hm⟩
    intro hn
    rw [hlen] at hn
    obtain ⟨b, off, spot⟩ := a
    obtain ⟨a0, c0, h0, _⟩ := hf 0 hn
    have hspot : spot = none := by simpa [Addr.add] using World.cell?_spot h0
    subst hspot
    have hb : b < w.heap.size := by
      have := World.block_lt_of_cell? w _ h0
      simpa [Addr.add] using this
    refine ⟨b, off, rfl, hb, fun i hi => ?_⟩
    rw [hlen] at hi
    have e : rod ((List.range len).map f) i = f i := by simp [rod, hi]
    rw [e]
    obtain ⟨a', c', h1, h2⟩ := hf i hi
    rw [Addr.add_lit] at h1
    exact ⟨a', c', h1, h2⟩
end
end Go.Proofs.Ythgecmdmoghmpaa
