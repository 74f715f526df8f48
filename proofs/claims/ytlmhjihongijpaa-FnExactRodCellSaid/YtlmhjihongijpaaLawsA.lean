/-
  The walks of three laws: the constants, a cell of two digits, a step of a carry strip: each returns true for every input.
-/
import Derived.Test.YtlmhjihongijpaaDig
import Derived.Test.YtlmhjihongijpaaBase
namespace Go.Proofs.Ytlmhjihongijpaa
open Go.RowKit

theorem fnExactConstants_walk (w : World) :
    Calls Try.prog 3 #[] w fun e w' => e = .returned (.bool true) ∧ Below w.heap.size w w' := by
  go_enter Try.func3, Try.ntmps3
  go_wp2
  go_ret
  exact ⟨rfl, Below.refl _ _⟩

theorem fnExactRodCell_walk (a b : Int) (w : World) (_ha : (Lit.int .i64 a).wf = true) (_hb : (Lit.int .i64 b).wf = true) :
    Calls Try.prog 4 #[.int .i64 a, .int .i64 b] w fun e w' => e = .returned (.bool true) ∧ Below w.heap.size w w' := by
  generalize ht : rodCell a b = t
  have T := Lib.hid ht
  clear ht
  obtain ⟨x, y, z⟩ := t
  go_enter Try.func4, Try.ntmps4
  go_wp2_with fail
  refine (specRodCell_any _ _ _).mono ?_
  rintro e w' ⟨rfl, rfl⟩
  rw [T.out]
  unfold tri
  go_wp2_with fail
  refine (implRodCell_any _ _ _).mono ?_
  rintro e w' ⟨rfl, rfl⟩
  rw [T.out]
  unfold tri
  go_wp2_with fail
  go_ret
  exact ⟨rfl, Below.refl _ _⟩

theorem fnExactStripStep_walk (a b c : Int) (w : World) (_ha : (Lit.int .i64 a).wf = true) (_hb : (Lit.int .i64 b).wf = true) (_hc : (Lit.int .i64 c).wf = true) :
    Calls Try.prog 5 #[.int .i64 a, .int .i64 b, .int .i64 c] w fun e w' => e = .returned (.bool true) ∧ Below w.heap.size w w' := by
  generalize ht : stripStep a b c = t
  have T := Lib.hid ht
  clear ht
  obtain ⟨x, y, z⟩ := t
  go_enter Try.func5, Try.ntmps5
  go_wp2_with fail
  refine (specStripStep_any _ _ _ _).mono ?_
  rintro e w' ⟨rfl, rfl⟩
  rw [T.out]
  unfold tri
  go_wp2_with fail
  refine (implStripStep_any _ _ _ _).mono ?_
  rintro e w' ⟨rfl, rfl⟩
  rw [T.out]
  unfold tri
  go_wp2_with fail
  go_ret
  exact ⟨rfl, Below.refl _ _⟩
end Go.Proofs.Ytlmhjihongijpaa
