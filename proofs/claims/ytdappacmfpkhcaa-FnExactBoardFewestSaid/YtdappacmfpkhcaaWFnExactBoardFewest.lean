
/-
  The walk of the law FnExactBoardFewest: it returns true for every input. (Printed by a program over the contracts of the two functions.)
-/
import Derived.Test.YtdappacmfpkhcaaBoard3b
import Derived.Test.YtdappacmfpkhcaaCommon
namespace Go.Proofs.Ytdappacmfpkhcaa
open Go.RowKit

set_option maxRecDepth 100000 in
set_option maxHeartbeats 1000000 in
theorem fnExactBoardFewest_walk (n0 : Int) (w : World) (_h0 : (Lit.int .i64 n0).wf = true) :
    Calls Try.prog 4 #[.int .i64 n0] w fun e w' => e = .returned (.bool true) ∧ Below w.heap.size w w' := by
  generalize ht : fewest n0 = t
  have T := Lib.hid ht
  clear ht
  have B0 := Lib.hid (Below.refl w.heap.size w)
  go_enter Try.func4, Try.ntmps4
  go_wp2_with fail
  refine (specBoardFewest_any _ _).mono ?_
  rintro e w1 ⟨rfl, b⟩
  have B1 := Lib.hid (B0.out.trans (b.mono B0.out.size))
  have s1 := b.size
  clear b B0
  rw [T.out]
  go_wp2_with fail
  refine (implBoardFewest_any _ _).mono ?_
  rintro e w2 ⟨rfl, b⟩
  have B2 := Lib.hid (B1.out.trans (b.mono B1.out.size))
  have s2 := b.size
  clear b B1
  rw [T.out]
  go_wp2_with fail
  go_ret
  exact ⟨rfl, B2.out⟩
end Go.Proofs.Ytdappacmfpkhcaa
