
/-
  Contracts of the functions on single digits: whether a number is in a range, the cell of two digits, a step of a carry strip. No condition on the arguments.
-/
import Derived.Test.YtapcnpkaphdlkaaDoorBase
namespace Go.Proofs.YtapcnpkaphdlkaaDoor
open Go.RowKit


theorem l6In_any (n lo hi : Int) (w : World) :
    Calls Tryd.prog 18 #[.int .i64 n, .int .i64 lo, .int .i64 hi] w fun e w' => e = .returned (.bool (inB n lo hi)) ∧ w = w' := by
  by_cases h1 : lo ≤ n
  · by_cases h2 : n ≤ hi
    · rw [inB_mk h1 h2]
      go_enter Tryd.func18, Tryd.ntmps18
      go_wp2
      go_ret
      exact ⟨rfl, rfl⟩
    · rw [inB_hi (by omega)]
      go_enter Tryd.func18, Tryd.ntmps18
      go_wp2
      go_ret
      exact ⟨rfl, rfl⟩
  · rw [inB_lo (by omega)]
    go_enter Tryd.func18, Tryd.ntmps18
    go_wp2
    go_ret
    exact ⟨rfl, rfl⟩



theorem mul_digits {a b : Int} (a0 : 0 ≤ a) (a9 : a ≤ 9) (b0 : 0 ≤ b) (b9 : b ≤ 9) : 0 ≤ a * b ∧ a * b ≤ 81 := by
  refine ⟨Int.mul_nonneg a0 b0, ?_⟩
  have h1 : a * b ≤ 9 * b := Int.mul_le_mul_of_nonneg_right a9 b0
  omega

/-- What the cell of two digits is. -/
def rodCell (a b : Int) : Int × Int × Bool := if inB a 0 9 && inB b 0 9 then (a * b / 10, a * b % 10, true) else (0, 0, false)
/-- What a step of a carry strip tells. -/
def stripStep (d t c : Int) : Int × Int × Bool := if inB d 0 9 && inB t 0 9 && inB c 0 9 then ((d * t + c) % 10, (d * t + c) / 10, true) else (0, 0, false)
/-- Two integers and a bool, as a function hands them back. -/
def tri (t : Int × Int × Bool) : Value := .tuple #[.int .i64 t.1, .int .i64 t.2.1, .bool t.2.2]





end Go.Proofs.YtapcnpkaphdlkaaDoor
