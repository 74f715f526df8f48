
/-
  Contracts of the draws of numerals. No condition but that fewer than some hundred thousand picks came before.
-/
import Derived.Test.YtgdeaochfmakbaaDraw
import Derived.Test.YtgdeaochfmakbaaOwn
import Derived.Test.YtgdeaochfmakbaaCommon
namespace Go.Proofs.Ytgdeaochfmakbaa
open Go.RowKit

theorem grown_below {a b c : World} {row : Option Nat} (h : a.grownBy b row) (hb : Below a.heap.size b c) : a.grownBy c row :=
  ⟨hb.os.trans h.os, hb.tape.trans h.tape, hb.output.trans h.output, Nat.le_trans h.size hb.size, fun i hi hne => (hb.block i hi).trans (h.block i hi hne)⟩
theorem Own.rd {w w' : World} {lo hi g : Nat} {v : Value} {zs : List Int} (h : Own w lo hi v zs) (hg : w.grownBy w' (some g)) (hlt : g < lo) : Own w' lo hi v zs :=
  h.kept hg (fun r hr => by injection hr with hr; omega)
theorem own_lit (W : World) (lo : Nat) (ds : List Int) (h : lo ≤ W.heap.size) (hl : ds.length ≤ 1000) : Own (W.alloc (.cells (IV ds).toArray 3)) lo (W.heap.size + 1) (.slice (some ⟨W.heap.size, 0, none⟩) ds.length ds.length) ds := by
  have h1 := World.ownsRow_lit (e := 3) (size := 1) W (IV ds).toArray ds.length h (by unfold maxLen; omega) (by simp [IV_len])
  have h2 : (W.alloc (.cells (IV ds).toArray 3)).ownsRow lo 3 1 (.slice (some ⟨W.heap.size, 0, none⟩) ds.length ds.length) ds.length (IV ds) := by simpa using h1
  have := Own.of (zs := ds) h2
  simpa using this

/-- Every number lies between lo and hi. -/
def Within (lo hi : Int) (zs : List Int) : Prop := ∀ d ∈ zs, lo ≤ d ∧ d ≤ hi
theorem Within.nil {lo hi : Int} : Within lo hi [] := fun d hd => by simp at hd
theorem Within.snoc {lo hi : Int} {zs : List Int} {d : Int} (h : Within lo hi zs) (h1 : lo ≤ d) (h2 : d ≤ hi) : Within lo hi (zs ++ [d]) := fun x hx => by
  rcases List.mem_append.1 hx with hx | hx
  · exact h x hx
  · have : x = d := by simpa using hx
    omega
theorem Within.set_ {lo hi : Int} {zs : List Int} {d : Int} (h : Within lo hi zs) (i : Nat) (h1 : lo ≤ d) (h2 : d ≤ hi) : Within lo hi (zs.set i d) := fun x hx => by
  rcases List.mem_or_eq_of_mem_set hx with hx | rfl
  · exact h x hx
  · exact ⟨h1, h2⟩

/-- What a draw of a list leaves. -/
def DrewList (w : World) (g q : Nat) (lo hi : Int) (m : Nat) (e : Ending) (w' : World) : Prop :=
  ∃ a cap zs, e = .returned (.slice a zs.length cap) ∧ Within lo hi zs ∧ zs.length ≤ m ∧ Own w' w.heap.size w'.heap.size (.slice a zs.length cap) zs ∧ RdOk w' g q ∧ w.grownBy w' (some g)

end Go.Proofs.Ytgdeaochfmakbaa
