/-
  No cell of these rows narrows 'for every input' (looked for: loops, veiled, ifaces, maps, wideKeys, modest, calm, conditions, laid).
  DERIVED. THE GIVEN ROWS OF THIS SEAT. 10 by the template 'for every input the law returns true; each argument reads behind the call as it read before'; 0 by the template 'total and deterministic' (their statements: YtdappacmfpkhcaaTotals.lean).
  GIVEN WITH THE SEED: the statements are not yours to turn. If you find one false, say at which input.
  Laid BY PROGRAM, IN A SANDBOX (cutbox-rows.mjs): the forced cells as the released guide's own fill.sh prints them over the translation f8599fb5e68c410c… (all of the seat's roots in one cut). By AI agents, Wed Nov 11 2026. No macro, syntax, notation, axiom, sorry.
-/
import Derived.Test.YtdappacmfpkhcaaChecked
import GoSem.Claim
import GoSem.ClaimJoined
import GoSem.ClaimMapViews
import Derived.JoinedTies
import Derived.KernelRfl
namespace Go.Proofs.Ytdappacmfpkhcaa
/- THE CELL 'sum', in the pinned program and in every row, IS THE sha256 OF THE DUMP (.gsa) THAT YtdappacmfpkhcaaProg.lean LOADS. Nothing in Lean hashes anything: it is a label: what it is worth is what the hold of that sum in a sandbox is worth. -/
noncomputable def Try.pinned : Pinned := { name := "ytdappacmfpkhcaa", sum := "f8599fb5e68c410c0037ef8f3b82c84b3198c89631577584f6f5479bfd57e01e", checked := Try.checked }
namespace Rows
def none {H : Type} : Left H := { results := [], args := [] }

/-- 'laws.FnExactBoardValid': WHATEVER THE INPUT: true; the input reads as it did. -/
def fnExactBoardValidSpec : ChangeSpec := { name := "fnExactBoardValid", fn := fun _ => fun
  | [d] => { results := [.lit (.bool true)], args := [d] }
  | _ => none }
def fnExactBoardValidRow : OpenClaim := { program := "ytdappacmfpkhcaa", sum := "f8599fb5e68c410c0037ef8f3b82c84b3198c89631577584f6f5479bfd57e01e", func := "loop.example/countingboards/laws.FnExactBoardValid", spec := "fnExactBoardValid", apart := false }
def FnExactBoardValidSaid : Prop := fnExactBoardValidRow.holds Try.pinned (OpenSpec.ofChange fnExactBoardValidSpec)

/-- ITS FALSE NEIGHBOUR: 'it returns false'. Refute it at one input. -/
def fnExactBoardValidWrong : ChangeSpec := { name := "fnExactBoardValid", fn := fun _ => fun
  | [d] => { results := [.lit (.bool false)], args := [d] }
  | _ => none }
def FnExactBoardValidWrongFalsely : Prop := fnExactBoardValidRow.holds Try.pinned (OpenSpec.ofChange fnExactBoardValidWrong)

/-- 'laws.FnExactBoardFewest': WHATEVER THE INPUT: true; the input reads as it did. -/
def fnExactBoardFewestSpec : ChangeSpec := { name := "fnExactBoardFewest", fn := fun _ => fun
  | [d] => { results := [.lit (.bool true)], args := [d] }
  | _ => none }
def fnExactBoardFewestRow : OpenClaim := { program := "ytdappacmfpkhcaa", sum := "f8599fb5e68c410c0037ef8f3b82c84b3198c89631577584f6f5479bfd57e01e", func := "loop.example/countingboards/laws.FnExactBoardFewest", spec := "fnExactBoardFewest", apart := false }
def FnExactBoardFewestSaid : Prop := fnExactBoardFewestRow.holds Try.pinned (OpenSpec.ofChange fnExactBoardFewestSpec)

/-- ITS FALSE NEIGHBOUR: 'it returns false'. Refute it at one input. -/
def fnExactBoardFewestWrong : ChangeSpec := { name := "fnExactBoardFewest", fn := fun _ => fun
  | [d] => { results := [.lit (.bool false)], args := [d] }
  | _ => none }
def FnExactBoardFewestWrongFalsely : Prop := fnExactBoardFewestRow.holds Try.pinned (OpenSpec.ofChange fnExactBoardFewestWrong)

/-- 'laws.FnExactBoardCounters': WHATEVER THE INPUT: true; the input reads as it did. -/
def fnExactBoardCountersSpec : ChangeSpec := { name := "fnExactBoardCounters", fn := fun _ => fun
  | [d] => { results := [.lit (.bool true)], args := [d] }
  | _ => none }
def fnExactBoardCountersRow : OpenClaim := { program := "ytdappacmfpkhcaa", sum := "f8599fb5e68c410c0037ef8f3b82c84b3198c89631577584f6f5479bfd57e01e", func := "loop.example/countingboards/laws.FnExactBoardCounters", spec := "fnExactBoardCounters", apart := false }
def FnExactBoardCountersSaid : Prop := fnExactBoardCountersRow.holds Try.pinned (OpenSpec.ofChange fnExactBoardCountersSpec)

/-- ITS FALSE NEIGHBOUR: 'it returns false'. Refute it at one input. -/
def fnExactBoardCountersWrong : ChangeSpec := { name := "fnExactBoardCounters", fn := fun _ => fun
  | [d] => { results := [.lit (.bool false)], args := [d] }
  | _ => none }
def FnExactBoardCountersWrongFalsely : Prop := fnExactBoardCountersRow.holds Try.pinned (OpenSpec.ofChange fnExactBoardCountersWrong)

/-- 'laws.FnExactBoardOf': WHATEVER THE INPUT: true; the input reads as it did. -/
def fnExactBoardOfSpec : ChangeSpec := { name := "fnExactBoardOf", fn := fun _ => fun
  | [d] => { results := [.lit (.bool true)], args := [d] }
  | _ => none }
def fnExactBoardOfRow : OpenClaim := { program := "ytdappacmfpkhcaa", sum := "f8599fb5e68c410c0037ef8f3b82c84b3198c89631577584f6f5479bfd57e01e", func := "loop.example/countingboards/laws.FnExactBoardOf", spec := "fnExactBoardOf", apart := false }
def FnExactBoardOfSaid : Prop := fnExactBoardOfRow.holds Try.pinned (OpenSpec.ofChange fnExactBoardOfSpec)

/-- ITS FALSE NEIGHBOUR: 'it returns false'. Refute it at one input. -/
def fnExactBoardOfWrong : ChangeSpec := { name := "fnExactBoardOf", fn := fun _ => fun
  | [d] => { results := [.lit (.bool false)], args := [d] }
  | _ => none }
def FnExactBoardOfWrongFalsely : Prop := fnExactBoardOfRow.holds Try.pinned (OpenSpec.ofChange fnExactBoardOfWrong)

/-- 'laws.FnExactBoardReduced': WHATEVER THE INPUT: true; the input reads as it did. -/
def fnExactBoardReducedSpec : ChangeSpec := { name := "fnExactBoardReduced", fn := fun _ => fun
  | [d] => { results := [.lit (.bool true)], args := [d] }
  | _ => none }
def fnExactBoardReducedRow : OpenClaim := { program := "ytdappacmfpkhcaa", sum := "f8599fb5e68c410c0037ef8f3b82c84b3198c89631577584f6f5479bfd57e01e", func := "loop.example/countingboards/laws.FnExactBoardReduced", spec := "fnExactBoardReduced", apart := false }
def FnExactBoardReducedSaid : Prop := fnExactBoardReducedRow.holds Try.pinned (OpenSpec.ofChange fnExactBoardReducedSpec)

/-- ITS FALSE NEIGHBOUR: 'it returns false'. Refute it at one input. -/
def fnExactBoardReducedWrong : ChangeSpec := { name := "fnExactBoardReduced", fn := fun _ => fun
  | [d] => { results := [.lit (.bool false)], args := [d] }
  | _ => none }
def FnExactBoardReducedWrongFalsely : Prop := fnExactBoardReducedRow.holds Try.pinned (OpenSpec.ofChange fnExactBoardReducedWrong)

/-- 'laws.FnBoardFewest': WHATEVER THE INPUT: true; the input reads as it did. -/
def fnBoardFewestSpec : ChangeSpec := { name := "fnBoardFewest", fn := fun _ => fun
  | [d] => { results := [.lit (.bool true)], args := [d] }
  | _ => none }
def fnBoardFewestRow : OpenClaim := { program := "ytdappacmfpkhcaa", sum := "f8599fb5e68c410c0037ef8f3b82c84b3198c89631577584f6f5479bfd57e01e", func := "loop.example/countingboards/laws.FnBoardFewest", spec := "fnBoardFewest", apart := false }
def FnBoardFewestSaid : Prop := fnBoardFewestRow.holds Try.pinned (OpenSpec.ofChange fnBoardFewestSpec)

/-- ITS FALSE NEIGHBOUR: 'it returns false'. Refute it at one input. -/
def fnBoardFewestWrong : ChangeSpec := { name := "fnBoardFewest", fn := fun _ => fun
  | [d] => { results := [.lit (.bool false)], args := [d] }
  | _ => none }
def FnBoardFewestWrongFalsely : Prop := fnBoardFewestRow.holds Try.pinned (OpenSpec.ofChange fnBoardFewestWrong)

/-- 'laws.FnExactBoardLay': WHATEVER THE INPUT: true; the input reads as it did. -/
def fnExactBoardLaySpec : ChangeSpec := { name := "fnExactBoardLay", fn := fun _ => fun
  | [d1, d2] => { results := [.lit (.bool true)], args := [d1, d2] }
  | _ => none }
def fnExactBoardLayRow : OpenClaim := { program := "ytdappacmfpkhcaa", sum := "f8599fb5e68c410c0037ef8f3b82c84b3198c89631577584f6f5479bfd57e01e", func := "loop.example/countingboards/laws.FnExactBoardLay", spec := "fnExactBoardLay", apart := false }
def FnExactBoardLaySaid : Prop := fnExactBoardLayRow.holds Try.pinned (OpenSpec.ofChange fnExactBoardLaySpec)

/-- ITS FALSE NEIGHBOUR: 'it returns false'. Refute it at one input. -/
def fnExactBoardLayWrong : ChangeSpec := { name := "fnExactBoardLay", fn := fun _ => fun
  | [d1, d2] => { results := [.lit (.bool false)], args := [d1, d2] }
  | _ => none }
def FnExactBoardLayWrongFalsely : Prop := fnExactBoardLayRow.holds Try.pinned (OpenSpec.ofChange fnExactBoardLayWrong)

/-- 'laws.FnExactBoardDouble': WHATEVER THE INPUT: true; the input reads as it did. -/
def fnExactBoardDoubleSpec : ChangeSpec := { name := "fnExactBoardDouble", fn := fun _ => fun
  | [d] => { results := [.lit (.bool true)], args := [d] }
  | _ => none }
def fnExactBoardDoubleRow : OpenClaim := { program := "ytdappacmfpkhcaa", sum := "f8599fb5e68c410c0037ef8f3b82c84b3198c89631577584f6f5479bfd57e01e", func := "loop.example/countingboards/laws.FnExactBoardDouble", spec := "fnExactBoardDouble", apart := false }
def FnExactBoardDoubleSaid : Prop := fnExactBoardDoubleRow.holds Try.pinned (OpenSpec.ofChange fnExactBoardDoubleSpec)

/-- ITS FALSE NEIGHBOUR: 'it returns false'. Refute it at one input. -/
def fnExactBoardDoubleWrong : ChangeSpec := { name := "fnExactBoardDouble", fn := fun _ => fun
  | [d] => { results := [.lit (.bool false)], args := [d] }
  | _ => none }
def FnExactBoardDoubleWrongFalsely : Prop := fnExactBoardDoubleRow.holds Try.pinned (OpenSpec.ofChange fnExactBoardDoubleWrong)

/-- 'laws.FnExactBoardLower': WHATEVER THE INPUT: true; the input reads as it did. -/
def fnExactBoardLowerSpec : ChangeSpec := { name := "fnExactBoardLower", fn := fun _ => fun
  | [d1, d2] => { results := [.lit (.bool true)], args := [d1, d2] }
  | _ => none }
def fnExactBoardLowerRow : OpenClaim := { program := "ytdappacmfpkhcaa", sum := "f8599fb5e68c410c0037ef8f3b82c84b3198c89631577584f6f5479bfd57e01e", func := "loop.example/countingboards/laws.FnExactBoardLower", spec := "fnExactBoardLower", apart := false }
def FnExactBoardLowerSaid : Prop := fnExactBoardLowerRow.holds Try.pinned (OpenSpec.ofChange fnExactBoardLowerSpec)

/-- ITS FALSE NEIGHBOUR: 'it returns false'. Refute it at one input. -/
def fnExactBoardLowerWrong : ChangeSpec := { name := "fnExactBoardLower", fn := fun _ => fun
  | [d1, d2] => { results := [.lit (.bool false)], args := [d1, d2] }
  | _ => none }
def FnExactBoardLowerWrongFalsely : Prop := fnExactBoardLowerRow.holds Try.pinned (OpenSpec.ofChange fnExactBoardLowerWrong)

/-- 'laws.FnExactBoardRaise': WHATEVER THE INPUT: true; the input reads as it did. -/
def fnExactBoardRaiseSpec : ChangeSpec := { name := "fnExactBoardRaise", fn := fun _ => fun
  | [d1, d2] => { results := [.lit (.bool true)], args := [d1, d2] }
  | _ => none }
def fnExactBoardRaiseRow : OpenClaim := { program := "ytdappacmfpkhcaa", sum := "f8599fb5e68c410c0037ef8f3b82c84b3198c89631577584f6f5479bfd57e01e", func := "loop.example/countingboards/laws.FnExactBoardRaise", spec := "fnExactBoardRaise", apart := false }
def FnExactBoardRaiseSaid : Prop := fnExactBoardRaiseRow.holds Try.pinned (OpenSpec.ofChange fnExactBoardRaiseSpec)

/-- ITS FALSE NEIGHBOUR: 'it returns false'. Refute it at one input. -/
def fnExactBoardRaiseWrong : ChangeSpec := { name := "fnExactBoardRaise", fn := fun _ => fun
  | [d1, d2] => { results := [.lit (.bool false)], args := [d1, d2] }
  | _ => none }
def FnExactBoardRaiseWrongFalsely : Prop := fnExactBoardRaiseRow.holds Try.pinned (OpenSpec.ofChange fnExactBoardRaiseWrong)

/- THE SECOND FORM. 'bulk': how many values and letters a reading holds, each counted each time it is reached (what is shared counts as often as it is met; a slice's spare places count too). A statement '..UptoSaid' is the law's where the arguments, and the package variables that the reading takes, are together of bulk at most 1048576: NARROWER than '..Said'. Prove '..Said' where nothing that the law and all that it calls make is longer than what came in: it says more and counts as full. Else prove '..UptoSaid'. A law counts once. -/
mutual
def uptoBulk {H : Type} : DataW H → Nat
  | .lit (.string bytes) => bytes.length + 1
  | .lit _ => 1
  | .nil => 1
  | .ptr d => uptoBulk d + 1
  | .slice elems spare => uptoBulkAll elems + uptoBulkAll spare + 1
  | .agg parts => uptoBulkAll parts + 1
  | .iface _ d => uptoBulk d + 1
  | .map entries => uptoBulkEntries entries + 1
  | .held _ => 1
def uptoBulkAll {H : Type} : List (DataW H) → Nat
  | [] => 0
  | d :: r => uptoBulk d + uptoBulkAll r
def uptoBulkEntries {H : Type} : List (Lit × DataW H) → Nat
  | [] => 0
  | x :: r => uptoBulkEntry x + uptoBulkEntries r
def uptoBulkEntry {H : Type} : Lit × DataW H → Nat
  | (.string bytes, d) => bytes.length + uptoBulk d + 1
  | (_, d) => uptoBulk d + 1
 end
def uptoSmall : (H : Type) → List (DataW H) → Bool := fun _ ds => decide (uptoBulkAll ds ≤ 1048576)
def OpenSpec.upto (s : _root_.Go.ChangeSpec) : _root_.Go.OpenSpec := { _root_.Go.OpenSpec.ofChange s with cond := some uptoSmall }

/-- 'laws.FnExactBoardValid', WHERE WHAT IT READS IS OF BULK AT MOST 1048576: true; the input reads as it did. -/
def fnExactBoardValidUptoRow : OpenClaim := { program := "ytdappacmfpkhcaa", sum := "f8599fb5e68c410c0037ef8f3b82c84b3198c89631577584f6f5479bfd57e01e", func := "loop.example/countingboards/laws.FnExactBoardValid", spec := "fnExactBoardValid", apart := false, narrowed := true }
def FnExactBoardValidUptoSaid : Prop := fnExactBoardValidUptoRow.holds Try.pinned (OpenSpec.upto fnExactBoardValidSpec)

/-- 'laws.FnExactBoardFewest', WHERE WHAT IT READS IS OF BULK AT MOST 1048576: true; the input reads as it did. -/
def fnExactBoardFewestUptoRow : OpenClaim := { program := "ytdappacmfpkhcaa", sum := "f8599fb5e68c410c0037ef8f3b82c84b3198c89631577584f6f5479bfd57e01e", func := "loop.example/countingboards/laws.FnExactBoardFewest", spec := "fnExactBoardFewest", apart := false, narrowed := true }
def FnExactBoardFewestUptoSaid : Prop := fnExactBoardFewestUptoRow.holds Try.pinned (OpenSpec.upto fnExactBoardFewestSpec)

/-- 'laws.FnExactBoardCounters', WHERE WHAT IT READS IS OF BULK AT MOST 1048576: true; the input reads as it did. -/
def fnExactBoardCountersUptoRow : OpenClaim := { program := "ytdappacmfpkhcaa", sum := "f8599fb5e68c410c0037ef8f3b82c84b3198c89631577584f6f5479bfd57e01e", func := "loop.example/countingboards/laws.FnExactBoardCounters", spec := "fnExactBoardCounters", apart := false, narrowed := true }
def FnExactBoardCountersUptoSaid : Prop := fnExactBoardCountersUptoRow.holds Try.pinned (OpenSpec.upto fnExactBoardCountersSpec)

/-- 'laws.FnExactBoardOf', WHERE WHAT IT READS IS OF BULK AT MOST 1048576: true; the input reads as it did. -/
def fnExactBoardOfUptoRow : OpenClaim := { program := "ytdappacmfpkhcaa", sum := "f8599fb5e68c410c0037ef8f3b82c84b3198c89631577584f6f5479bfd57e01e", func := "loop.example/countingboards/laws.FnExactBoardOf", spec := "fnExactBoardOf", apart := false, narrowed := true }
def FnExactBoardOfUptoSaid : Prop := fnExactBoardOfUptoRow.holds Try.pinned (OpenSpec.upto fnExactBoardOfSpec)

/-- 'laws.FnExactBoardReduced', WHERE WHAT IT READS IS OF BULK AT MOST 1048576: true; the input reads as it did. -/
def fnExactBoardReducedUptoRow : OpenClaim := { program := "ytdappacmfpkhcaa", sum := "f8599fb5e68c410c0037ef8f3b82c84b3198c89631577584f6f5479bfd57e01e", func := "loop.example/countingboards/laws.FnExactBoardReduced", spec := "fnExactBoardReduced", apart := false, narrowed := true }
def FnExactBoardReducedUptoSaid : Prop := fnExactBoardReducedUptoRow.holds Try.pinned (OpenSpec.upto fnExactBoardReducedSpec)

/-- 'laws.FnBoardFewest', WHERE WHAT IT READS IS OF BULK AT MOST 1048576: true; the input reads as it did. -/
def fnBoardFewestUptoRow : OpenClaim := { program := "ytdappacmfpkhcaa", sum := "f8599fb5e68c410c0037ef8f3b82c84b3198c89631577584f6f5479bfd57e01e", func := "loop.example/countingboards/laws.FnBoardFewest", spec := "fnBoardFewest", apart := false, narrowed := true }
def FnBoardFewestUptoSaid : Prop := fnBoardFewestUptoRow.holds Try.pinned (OpenSpec.upto fnBoardFewestSpec)

/-- 'laws.FnExactBoardLay', WHERE WHAT IT READS IS OF BULK AT MOST 1048576: true; the input reads as it did. -/
def fnExactBoardLayUptoRow : OpenClaim := { program := "ytdappacmfpkhcaa", sum := "f8599fb5e68c410c0037ef8f3b82c84b3198c89631577584f6f5479bfd57e01e", func := "loop.example/countingboards/laws.FnExactBoardLay", spec := "fnExactBoardLay", apart := false, narrowed := true }
def FnExactBoardLayUptoSaid : Prop := fnExactBoardLayUptoRow.holds Try.pinned (OpenSpec.upto fnExactBoardLaySpec)

/-- 'laws.FnExactBoardDouble', WHERE WHAT IT READS IS OF BULK AT MOST 1048576: true; the input reads as it did. -/
def fnExactBoardDoubleUptoRow : OpenClaim := { program := "ytdappacmfpkhcaa", sum := "f8599fb5e68c410c0037ef8f3b82c84b3198c89631577584f6f5479bfd57e01e", func := "loop.example/countingboards/laws.FnExactBoardDouble", spec := "fnExactBoardDouble", apart := false, narrowed := true }
def FnExactBoardDoubleUptoSaid : Prop := fnExactBoardDoubleUptoRow.holds Try.pinned (OpenSpec.upto fnExactBoardDoubleSpec)

/-- 'laws.FnExactBoardLower', WHERE WHAT IT READS IS OF BULK AT MOST 1048576: true; the input reads as it did. -/
def fnExactBoardLowerUptoRow : OpenClaim := { program := "ytdappacmfpkhcaa", sum := "f8599fb5e68c410c0037ef8f3b82c84b3198c89631577584f6f5479bfd57e01e", func := "loop.example/countingboards/laws.FnExactBoardLower", spec := "fnExactBoardLower", apart := false, narrowed := true }
def FnExactBoardLowerUptoSaid : Prop := fnExactBoardLowerUptoRow.holds Try.pinned (OpenSpec.upto fnExactBoardLowerSpec)

/-- 'laws.FnExactBoardRaise', WHERE WHAT IT READS IS OF BULK AT MOST 1048576: true; the input reads as it did. -/
def fnExactBoardRaiseUptoRow : OpenClaim := { program := "ytdappacmfpkhcaa", sum := "f8599fb5e68c410c0037ef8f3b82c84b3198c89631577584f6f5479bfd57e01e", func := "loop.example/countingboards/laws.FnExactBoardRaise", spec := "fnExactBoardRaise", apart := false, narrowed := true }
def FnExactBoardRaiseUptoSaid : Prop := fnExactBoardRaiseUptoRow.holds Try.pinned (OpenSpec.upto fnExactBoardRaiseSpec)

end Rows
end Go.Proofs.Ytdappacmfpkhcaa
