
/-
  Words for memory: a slice of integers that reads as a list ('Row'), one that lies in memory of the call's own ('Own'), and how both are kept while other memory is written. No program text is walked here.
-/
import Derived.Test.YtapcnpkaphdlkaaDoorProg
import Derived.WalkKit
import Derived.WalkLawsBesides
import Derived.Lib.Hide
import Derived.Below
import Derived.OwnWalk
import Derived.OneCell
import Derived.Laws.OwnMore
import Derived.Deep.AppendLies
import Derived.Deep.Onto
import Derived.Deep.Draws
import Derived.Lib.SmallJoins
import Derived.Maps.AppendAt
import Derived.Laws.Rows
namespace Go.Proofs.YtapcnpkaphdlkaaDoor
open Go.RowKit

def inB (n lo hi : Int) : Bool := decide (lo ≤ n ∧ n ≤ hi)
theorem inB_true {n lo hi : Int} (h : inB n lo hi = true) : lo ≤ n ∧ n ≤ hi := by simpa [inB] using h
theorem inB_false {n lo hi : Int} (h : inB n lo hi = false) : n < lo ∨ hi < n := by
  have h' : ¬ (lo ≤ n ∧ n ≤ hi) := by simpa [inB] using h
  omega
theorem inB_mk {n lo hi : Int} (h1 : lo ≤ n) (h2 : n ≤ hi) : inB n lo hi = true := by simp [inB, h1, h2]
theorem inB_lo {n lo hi : Int} (h1 : n < lo) : inB n lo hi = false := by simp [inB]; omega
theorem inB_hi {n lo hi : Int} (h1 : hi < n) : inB n lo hi = false := by simp [inB]; omega

/-- The element at a place; 0 where there is none. -/
def nth (zs : List Int) (i : Nat) : Int := zs.getD i 0
/-- The cells of a list of integers of type int. -/
def IV (zs : List Int) : List Value := zs.map (Value.int .i64)
theorem IV_len (zs : List Int) : (IV zs).length = zs.length := by simp [IV]
theorem IV_one (zs : List Int) : ∀ u ∈ IV zs, u.oneCell' = true := ints_oneCell .i64 zs
theorem IV_get (zs : List Int) (i : Nat) (h : i < zs.length) : (IV zs)[i]? = some (.int .i64 (nth zs i)) := by
  simp [IV, nth, h]
theorem IV_nil : IV [] = [] := rfl
theorem IV_snoc (zs : List Int) (x : Int) : IV zs ++ [.int .i64 x] = IV (zs ++ [x]) := by simp [IV]
theorem IV_app (zs ys : List Int) : IV zs ++ IV ys = IV (zs ++ ys) := by simp [IV]
theorem IV_set (zs : List Int) (i : Nat) (x : Int) : (IV zs).set i (.int .i64 x) = IV (zs.set i x) := by simp [IV, List.map_set]
theorem nth_of (zs : List Int) (i : Nat) (h : i < zs.length) : nth zs i = zs[i] := by simp [nth, h]
theorem take_snoc (zs : List Int) (k : Nat) (h : k < zs.length) : zs.take (k + 1) = zs.take k ++ [nth zs k] := by
  rw [List.take_succ_eq_append_getElem h, nth_of zs k h]
theorem nth_mem (zs : List Int) (i : Nat) (h : i < zs.length) : nth zs i ∈ zs := by rw [nth_of zs i h]; exact List.getElem_mem h

/-- The slice at 'a' reads as 'zs'; it lies in memory that is there. -/
def Row (k : IntKind) (w : World) (a : Option Addr) (zs : List Int) : Prop :=
  0 < zs.length → ∃ b off, a = some ⟨b, off, none⟩ ∧ b < w.heap.size ∧ ∀ i, i < zs.length → w.cell? ⟨b, off + i, none⟩ = some (.int k (nth zs i))

section
variable {k : IntKind} {w w' : World} {a : Option Addr} {zs : List Int}
theorem Row.nil_ : Row k w a [] := fun h => absurd h (by simp)
theorem Row.below (h : Row k w a zs) (hb : Below w.heap.size w w') : Row k w' a zs := fun hn => by
  obtain ⟨b, off, e, hlt, hc⟩ := h hn
  exact ⟨b, off, e, Nat.lt_of_lt_of_le hlt hb.size, fun i hi => (hb.cell (p := ⟨b, off + i, none⟩) hlt).trans (hc i hi)⟩
theorem Row.drewN (h : Row k w a zs) (n : Nat) : Row k (w.drewN n) a zs := h
theorem Row.at_ (h : Row k w a zs) {i : Nat} (hi : i < zs.length) : ∃ b off, a = some ⟨b, off, none⟩ ∧ b < w.heap.size ∧ w.cell? ⟨b, off + i, none⟩ = some (.int k (nth zs i)) := by
  obtain ⟨b, off, e, hlt, hc⟩ := h (by omega)
  exact ⟨b, off, e, hlt, hc i hi⟩
end

/-- The slice '.slice a n cap' owns a row of integers 'zs' in a block from 'lo' on and below 'hi'. -/
structure Own (w : World) (lo hi : Nat) (v : Value) (zs : List Int) : Prop where
  owns : w.ownsRow lo 3 1 v zs.length (IV zs)
  top : ∀ g, v.ownBlock = some g → g < hi
  lim : hi ≤ w.heap.size

section
variable {w w' : World} {lo hi lo' hi' : Nat} {v : Value} {zs : List Int}
theorem Own.of (h : w.ownsRow lo 3 1 v zs.length (IV zs)) : Own w lo w.heap.size v zs := ⟨h, fun g hg => (h.lt g hg).2, Nat.le_refl _⟩
theorem Own.nil_ (w : World) (lo : Nat) : Own w lo w.heap.size (.slice none 0 0) [] := Own.of (World.ownsRow_nil w lo _ 1)
theorem Own.mono (h : Own w lo hi v zs) (h1 : lo' ≤ lo) (h2 : hi ≤ hi') (h3 : hi' ≤ w.heap.size) : Own w lo' hi' v zs :=
  ⟨h.owns.mono h1, fun g hg => Nat.lt_of_lt_of_le (h.top g hg) h2, h3⟩
theorem Own.kept {row : Option Nat} (h : Own w lo hi v zs) (hg : w.grownBy w' row) (hne : ∀ r, row = some r → r < lo ∨ hi ≤ r) : Own w' lo hi v zs := by
  refine ⟨h.owns.kept hg ?_, h.top, Nat.le_trans h.lim hg.size⟩
  cases hv : v.ownBlock with
  | none => exact .inl rfl
  | some g =>
    right
    intro e
    have h1 := h.owns.lt g hv
    have h2 := h.top g hv
    rcases hne g e.symm with h3 | h3 <;> omega
theorem Own.below (h : Own w lo hi v zs) (hb : Below hi w w') : Own w' lo hi v zs := by
  refine ⟨⟨h.owns.1, ?_⟩, h.top, Nat.le_trans h.lim hb.size⟩
  rcases h.owns.2 with hn | ⟨g, cap, cur, rfl, h1, h2, h3⟩
  · exact .inl hn
  · exact .inr ⟨g, cap, cur, rfl, h1, (hb.block g (h.top g rfl)).trans h2, h3⟩
theorem Own.drewN (h : Own w lo hi v zs) (n : Nat) : Own (w.drewN n) lo hi v zs := ⟨h.owns, h.top, h.lim⟩
theorem Own.form (h : Own w lo hi v zs) : ∃ a cap, v = .slice a zs.length cap := by
  rcases h.owns.2 with ⟨rfl, hn⟩ | ⟨g, cap, cur, rfl, _⟩
  · exact ⟨none, 0, by rw [hn]⟩
  · exact ⟨_, _, rfl⟩
theorem Own.row {a : Option Addr} {n cap : Nat} (h : Own w lo hi (.slice a n cap) zs) : Row .i64 w a zs := fun hn => by
  rcases h.owns.2 with ⟨_, hz⟩ | ⟨g, cap', cur, hv, _, hh, _, _, _, _⟩
  · omega
  · have ha : a = some ⟨g, 0, none⟩ := by injection hv
    have hnn : n = zs.length := by injection hv
    subst ha hnn
    refine ⟨g, 0, rfl, (Array.getElem?_eq_some_iff.1 hh).1, fun i hi => ?_⟩
    rw [Nat.zero_add, h.owns.cellAt i (by omega), IV_get zs i hi]
end
theorem ownBlock_slice {a : Option Addr} {n cap : Nat} {r : Nat} (h : (Value.slice a n cap).ownBlock = some r) : ∃ ad, a = some ad ∧ ad.block = r := by
  cases a with
  | none => simp [Value.ownBlock] at h
  | some ad => exact ⟨ad, rfl, by simpa [Value.ownBlock] using h⟩

/-! ### What a function that writes one row of the call's own does to the rest -/
theorem grown_trans {a b c : World} {row : Option Nat} (h : a.grownBy b row) (k : b.grownBy c row) : a.grownBy c row :=
  ⟨k.os.trans h.os, k.tape.trans h.tape, k.output.trans h.output, Nat.le_trans h.size k.size, fun i hi hne => (k.block i (Nat.lt_of_lt_of_le hi h.size) hne).trans (h.block i hi hne)⟩
theorem grown_of_below {a b : World} (h : Below a.heap.size a b) (row : Option Nat) : a.grownBy b row := ⟨h.os, h.tape, h.output, h.size, fun i hi _ => h.block i hi⟩
theorem grown_drewN {a w : World} {row : Option Nat} (h : a.grownBy w row) (n : Nat) : a.grownBy (w.drewN n) row := ⟨h.os, h.tape, h.output, h.size, h.block⟩
theorem below_drewN {B : Nat} {a w : World} (h : Below B a w) (n : Nat) : Below B a (w.drewN n) := ⟨h.os, h.tape, h.output, h.size, h.block⟩
theorem below_of_grown {a b : World} {row : Option Nat} {B : Nat} (hg : a.grownBy b row) (hB : B ≤ a.heap.size) (hr : ∀ r, row = some r → B ≤ r) : Below B a b := (Below.refl B a).grown hg hB hr

/-- What a law is told of a slice of integers that came in. -/
structure InRow (k : IntKind) (w : World) (a : Option Addr) (cap : Nat) (zs : List Int) : Prop where
  row : Row k w a zs
  wf : ∀ n ∈ zs, (Lit.int k n).wf = true
  fits : zs.length ≤ cap
  lim : cap ≤ maxLen
theorem InRow.nil_ {k : IntKind} {w : World} {a : Option Addr} : InRow k w a 0 [] := ⟨Row.nil_, by simp, by simp, Nat.zero_le _⟩
theorem InRow.of_open {k : IntKind} {w : World} {x : Addr} {len cap : Nat} {zs : List Int} (hl : len ≤ cap) (hm : cap ≤ maxLen) (hz : zs.length = cap)
    (hcell : ∀ i, i < zs.length → w.cell? (x.add i) = some (.int k (zs.getD i 0))) (hwz : ∀ n ∈ zs, (Lit.int k n).wf = true) :
    ∃ ys : List Int, len = ys.length ∧ InRow k w (some x) cap ys := by
  refine ⟨zs.take len, by simp; omega, ?_, fun n hn => hwz n (List.mem_of_mem_take hn), by simp; omega, hm⟩
  intro hn
  have hlen : (zs.take len).length = len := by simp; omega
  obtain ⟨b, off, spot⟩ := x
  have h0 := hcell 0 (by omega)
  have hspot : spot = none := by simpa [Addr.add] using World.cell?_spot h0
  subst hspot
  have hb : b < w.heap.size := by
    have := World.block_lt_of_cell? w _ h0
    simpa [Addr.add] using this
  refine ⟨b, off, rfl, hb, fun i hi => ?_⟩
  have := hcell i (by omega)
  rw [Addr.add_lit] at this
  rw [this]
  have : i < len := by omega
  simp [nth, this]

section
variable {w : World} {lo hi g n cap : Nat} {a : Option Addr} {zs : List Int}
theorem Own.at_ (h : Own w lo hi (.slice a n cap) zs) {i : Nat} (hlt : i < zs.length) :
    ∃ g, a = some ⟨g, 0, none⟩ ∧ lo ≤ g ∧ g < hi ∧ w.cell? ⟨g, i, none⟩ = some (.int .i64 (nth zs i)) ∧ w.frozen? ⟨g, i, none⟩ = false := by
  obtain ⟨h1, h2, h3⟩ := h
  obtain ⟨g, cap', hv, _, _⟩ := h1.form (by omega)
  have ha : a = some ⟨g, 0, none⟩ := by injection hv
  have hn : n = zs.length := by injection hv
  subst ha hn
  refine ⟨g, rfl, (h1.lt g rfl).1, h2 g rfl, ?_, h1.frozenAt i⟩
  rw [h1.cellAt i (by omega), IV_get zs i hlt]
theorem Own.set_ (h : Own w lo hi (.slice (some ⟨g, 0, none⟩) n cap) zs) (i : Nat) (x : Int) :
    Own (w.setCell ⟨g, i, none⟩ (.int .i64 x)) lo hi (.slice (some ⟨g, 0, none⟩) n cap) (zs.set i x) := by
  obtain ⟨a', c', hv⟩ := h.form
  have hn : n = zs.length := by injection hv
  subst hn
  obtain ⟨h1, h2, h3⟩ := h
  refine ⟨?_, h2, by simpa [World.setCell] using h3⟩
  have := (h1.stored i (.int .i64 x)).1
  rw [IV_set] at this
  simpa using this
theorem Own.all (h : Own w lo hi (.slice a n cap) zs) : Own w lo w.heap.size (.slice a n cap) zs := h.mono (Nat.le_refl _) h.lim (Nat.le_refl _)
theorem grown_set (w : World) (g i : Nat) (u : Value) : w.grownBy (w.setCell ⟨g, i, none⟩ u) (some g) :=
  ⟨rfl, rfl, rfl, by simp [World.setCell], fun k hk hne => Below.heap_setCell w _ u k (fun e => hne (by rw [e]))⟩
theorem grown_refl (w : World) (row : Option Nat) : w.grownBy w row := ⟨rfl, rfl, rfl, Nat.le_refl _, fun _ _ _ => rfl⟩
end
theorem cell_new (w : World) (cs : Array Value) (t : TypeId) (i : Nat) : (w.alloc (.cells cs t)).cell? ⟨w.heap.size, i, none⟩ = cs[i]? := cell_of_row _ _ i cs t (0, 0) (heap_alloc_new w _)

/-- A list of the call's own, in memory made by the call. -/
def Fresh (w : World) (zs : List Int) (e : Ending) (w' : World) : Prop :=
  ∃ a cap, e = .returned (.slice a zs.length cap) ∧ Own w' w.heap.size w'.heap.size (.slice a zs.length cap) zs ∧ Below w.heap.size w w'
/-- The same, with a bool. -/
def FreshOk (w : World) (zs : List Int) (b : Bool) (e : Ending) (w' : World) : Prop :=
  ∃ a cap, e = .returned (.tuple #[.slice a zs.length cap, .bool b]) ∧ Own w' w.heap.size w'.heap.size (.slice a zs.length cap) zs ∧ Below w.heap.size w w'

/-- One new cell, as 'append' of one element lays it. -/
theorem news_one (w : World) (v : Value) (t : TypeId) : ∀ j u, [v][j]? = some u → (w.alloc (.cells #[v] t)).cell? ((⟨w.heap.size, 0, none⟩ : Addr).add j) = some u := by
  intro j u hj
  match j, hj with
  | 0, hj =>
    have : v = u := by simpa using hj
    subst this
    rw [Addr.add_lit]
    exact cell_new w #[v] t _
theorem news_one1 {v : Value} (h : v.oneCell' = true) : ∀ u ∈ [v], u.oneCell' = true := by
  intro u hu
  have : u = v := by simpa using hu
  subst this
  exact h
theorem int_info : (Tryd.prog.info? 3).map (fun i => (i.zero, i.size, i.bytes)) = some (some (.int .i64 0), 1, 8) := by kernel_rfl
theorem made_ints (n : Nat) : (madeCells (Value.int .i64 0).cells (n * 1)).toList = IV (List.replicate n 0) := by
  apply List.ext_getElem
  · simp [IV, madeCells]
  · intro i h1 h2
    simp [IV, madeCells, Value.cells, Nat.mod_one]
end Go.Proofs.YtapcnpkaphdlkaaDoor
