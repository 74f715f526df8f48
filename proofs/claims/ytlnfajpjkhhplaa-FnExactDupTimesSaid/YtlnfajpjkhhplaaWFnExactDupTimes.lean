
/-
  The walk of the law FnExactDupTimes: it returns true for every input. (Printed by a program over the contracts of the two functions.)
-/
import Derived.Test.YtlnfajpjkhhplaaDupR
import Derived.Test.YtlnfajpjkhhplaaDupK
import Derived.Test.YtlnfajpjkhhplaaCommon
namespace Go.Proofs.Ytlnfajpjkhhplaa
open Go.RowKit

set_option maxRecDepth 100000 in
set_option maxHeartbeats 1000000 in
theorem fnExactDupTimes_walk (n0 : Int) (n1 : Int) (w : World) (_h0 : (Lit.int .i64 n0).wf = true) (_h1 : (Lit.int .i64 n1).wf = true) :
    Calls Try.prog 5 #[.int .i64 n0, .int .i64 n1] w fun e w' => e = .returned (.bool true) ∧ Below w.heap.size w w' := by
  generalize ht : dupTimes n0 n1 = t
  have T := Lib.hid ht
  clear ht
  have B0 := Lib.hid (Below.refl w.heap.size w)
  go_enter Try.func5, Try.ntmps5
  go_wp2_with fail
  refine (specDupTimes_any _ _ _).mono ?_
  rintro e w1 ⟨rfl, b⟩
  have B1 := Lib.hid (B0.out.trans (b.mono B0.out.size))
  have s1 := b.size
  clear b B0
  rw [T.out]
  go_wp2_with fail
  refine (implDupTimes_any _ _ _).mono ?_
  rintro e w2 ⟨rfl, b⟩
  have B2 := Lib.hid (B1.out.trans (b.mono B1.out.size))
  have s2 := b.size
  clear b B1
  rw [T.out]
  go_wp2_with fail
  go_ret
  exact ⟨rfl, B2.out⟩
end Go.Proofs.Ytlnfajpjkhhplaa
