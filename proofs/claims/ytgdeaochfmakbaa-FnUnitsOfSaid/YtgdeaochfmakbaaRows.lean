/-
  No cell of these rows narrows 'for every input' (looked for: loops, veiled, ifaces, maps, wideKeys, modest, calm, conditions, laid).
  DERIVED. THE GIVEN ROWS OF THIS SEAT. 6 by the template 'for every input the law returns true; each argument reads behind the call as it read before'; 0 by the template 'total and deterministic' (their statements: YtgdeaochfmakbaaTotals.lean).
  GIVEN WITH THE SEED: the statements are not yours to turn. If you find one false, say at which input.
  Laid BY PROGRAM, IN A SANDBOX (cutbox-rows.mjs): the forced cells as the released guide's own fill.sh prints them over the translation fdd33211512b9d30… (all of the seat's roots in one cut). By AI agents, Wed Nov 11 2026. No macro, syntax, notation, axiom, sorry.
-/
import Derived.Test.YtgdeaochfmakbaaChecked
import GoSem.Claim
import GoSem.ClaimJoined
import GoSem.ClaimMapViews
import Derived.JoinedTies
import Derived.KernelRfl
namespace Go.Proofs.Ytgdeaochfmakbaa
/- THE CELL 'sum', in the pinned program and in every row, IS THE sha256 OF THE DUMP (.gsa) THAT YtgdeaochfmakbaaProg.lean LOADS. Nothing in Lean hashes anything: it is a label: what it is worth is what the hold of that sum in a sandbox is worth. -/
noncomputable def Try.pinned : Pinned := { name := "ytgdeaochfmakbaa", sum := "fdd33211512b9d301e955628ff427f3a89be69b9e711bfbc4fed00812093a796", checked := Try.checked }
namespace Rows
def none {H : Type} : Left H := { results := [], args := [] }

/-- 'laws.FnExactUnitsValid': WHATEVER THE INPUT: true; the input reads as it did. -/
def fnExactUnitsValidSpec : ChangeSpec := { name := "fnExactUnitsValid", fn := fun _ => fun
  | [d] => { results := [.lit (.bool true)], args := [d] }
  | _ => none }
def fnExactUnitsValidRow : OpenClaim := { program := "ytgdeaochfmakbaa", sum := "fdd33211512b9d301e955628ff427f3a89be69b9e711bfbc4fed00812093a796", func := "loop.example/countingboards/laws.FnExactUnitsValid", spec := "fnExactUnitsValid", apart := false }
def FnExactUnitsValidSaid : Prop := fnExactUnitsValidRow.holds Try.pinned (OpenSpec.ofChange fnExactUnitsValidSpec)

/-- ITS FALSE NEIGHBOUR: 'it returns false'. Refute it at one input. -/
def fnExactUnitsValidWrong : ChangeSpec := { name := "fnExactUnitsValid", fn := fun _ => fun
  | [d] => { results := [.lit (.bool false)], args := [d] }
  | _ => none }
def FnExactUnitsValidWrongFalsely : Prop := fnExactUnitsValidRow.holds Try.pinned (OpenSpec.ofChange fnExactUnitsValidWrong)

/-- 'laws.FnExactUnitsDrop': WHATEVER THE INPUT: true; the input reads as it did. -/
def fnExactUnitsDropSpec : ChangeSpec := { name := "fnExactUnitsDrop", fn := fun _ => fun
  | [d1, d2] => { results := [.lit (.bool true)], args := [d1, d2] }
  | _ => none }
def fnExactUnitsDropRow : OpenClaim := { program := "ytgdeaochfmakbaa", sum := "fdd33211512b9d301e955628ff427f3a89be69b9e711bfbc4fed00812093a796", func := "loop.example/countingboards/laws.FnExactUnitsDrop", spec := "fnExactUnitsDrop", apart := false }
def FnExactUnitsDropSaid : Prop := fnExactUnitsDropRow.holds Try.pinned (OpenSpec.ofChange fnExactUnitsDropSpec)

/-- ITS FALSE NEIGHBOUR: 'it returns false'. Refute it at one input. -/
def fnExactUnitsDropWrong : ChangeSpec := { name := "fnExactUnitsDrop", fn := fun _ => fun
  | [d1, d2] => { results := [.lit (.bool false)], args := [d1, d2] }
  | _ => none }
def FnExactUnitsDropWrongFalsely : Prop := fnExactUnitsDropRow.holds Try.pinned (OpenSpec.ofChange fnExactUnitsDropWrong)

/-- 'laws.FnExactUnitsSum': WHATEVER THE INPUT: true; the input reads as it did. -/
def fnExactUnitsSumSpec : ChangeSpec := { name := "fnExactUnitsSum", fn := fun _ => fun
  | [d] => { results := [.lit (.bool true)], args := [d] }
  | _ => none }
def fnExactUnitsSumRow : OpenClaim := { program := "ytgdeaochfmakbaa", sum := "fdd33211512b9d301e955628ff427f3a89be69b9e711bfbc4fed00812093a796", func := "loop.example/countingboards/laws.FnExactUnitsSum", spec := "fnExactUnitsSum", apart := false }
def FnExactUnitsSumSaid : Prop := fnExactUnitsSumRow.holds Try.pinned (OpenSpec.ofChange fnExactUnitsSumSpec)

/-- ITS FALSE NEIGHBOUR: 'it returns false'. Refute it at one input. -/
def fnExactUnitsSumWrong : ChangeSpec := { name := "fnExactUnitsSum", fn := fun _ => fun
  | [d] => { results := [.lit (.bool false)], args := [d] }
  | _ => none }
def FnExactUnitsSumWrongFalsely : Prop := fnExactUnitsSumRow.holds Try.pinned (OpenSpec.ofChange fnExactUnitsSumWrong)

/-- 'laws.FnExactUnitsOf': WHATEVER THE INPUT: true; the input reads as it did. -/
def fnExactUnitsOfSpec : ChangeSpec := { name := "fnExactUnitsOf", fn := fun _ => fun
  | [d1, d2] => { results := [.lit (.bool true)], args := [d1, d2] }
  | _ => none }
def fnExactUnitsOfRow : OpenClaim := { program := "ytgdeaochfmakbaa", sum := "fdd33211512b9d301e955628ff427f3a89be69b9e711bfbc4fed00812093a796", func := "loop.example/countingboards/laws.FnExactUnitsOf", spec := "fnExactUnitsOf", apart := false }
def FnExactUnitsOfSaid : Prop := fnExactUnitsOfRow.holds Try.pinned (OpenSpec.ofChange fnExactUnitsOfSpec)

/-- ITS FALSE NEIGHBOUR: 'it returns false'. Refute it at one input. -/
def fnExactUnitsOfWrong : ChangeSpec := { name := "fnExactUnitsOf", fn := fun _ => fun
  | [d1, d2] => { results := [.lit (.bool false)], args := [d1, d2] }
  | _ => none }
def FnExactUnitsOfWrongFalsely : Prop := fnExactUnitsOfRow.holds Try.pinned (OpenSpec.ofChange fnExactUnitsOfWrong)

/-- 'laws.FnUnitsOf': WHATEVER THE INPUT: true; the input reads as it did. -/
def fnUnitsOfSpec : ChangeSpec := { name := "fnUnitsOf", fn := fun _ => fun
  | [d] => { results := [.lit (.bool true)], args := [d] }
  | _ => none }
def fnUnitsOfRow : OpenClaim := { program := "ytgdeaochfmakbaa", sum := "fdd33211512b9d301e955628ff427f3a89be69b9e711bfbc4fed00812093a796", func := "loop.example/countingboards/laws.FnUnitsOf", spec := "fnUnitsOf", apart := false }
def FnUnitsOfSaid : Prop := fnUnitsOfRow.holds Try.pinned (OpenSpec.ofChange fnUnitsOfSpec)

/-- ITS FALSE NEIGHBOUR: 'it returns false'. Refute it at one input. -/
def fnUnitsOfWrong : ChangeSpec := { name := "fnUnitsOf", fn := fun _ => fun
  | [d] => { results := [.lit (.bool false)], args := [d] }
  | _ => none }
def FnUnitsOfWrongFalsely : Prop := fnUnitsOfRow.holds Try.pinned (OpenSpec.ofChange fnUnitsOfWrong)

/-- 'laws.FnUnitsSum': WHATEVER THE INPUT: true; the input reads as it did. -/
def fnUnitsSumSpec : ChangeSpec := { name := "fnUnitsSum", fn := fun _ => fun
  | [d] => { results := [.lit (.bool true)], args := [d] }
  | _ => none }
def fnUnitsSumRow : OpenClaim := { program := "ytgdeaochfmakbaa", sum := "fdd33211512b9d301e955628ff427f3a89be69b9e711bfbc4fed00812093a796", func := "loop.example/countingboards/laws.FnUnitsSum", spec := "fnUnitsSum", apart := false }
def FnUnitsSumSaid : Prop := fnUnitsSumRow.holds Try.pinned (OpenSpec.ofChange fnUnitsSumSpec)

/-- ITS FALSE NEIGHBOUR: 'it returns false'. Refute it at one input. -/
def fnUnitsSumWrong : ChangeSpec := { name := "fnUnitsSum", fn := fun _ => fun
  | [d] => { results := [.lit (.bool false)], args := [d] }
  | _ => none }
def FnUnitsSumWrongFalsely : Prop := fnUnitsSumRow.holds Try.pinned (OpenSpec.ofChange fnUnitsSumWrong)

/- THE SECOND FORM. 'bulk': how many values and letters a reading holds, each counted each time it is reached (what is shared counts as often as it is met; a slice's spare places count too). A statement '..UptoSaid' is the law's where the arguments, and the package variables that the reading takes, are together of bulk at most 1048576: NARROWER than '..Said'. Prove '..Said' where nothing that the law and all that it calls make is longer than what came in: it says more and counts as full. Else prove '..UptoSaid'. A law counts once. -/
mutual
def uptoBulk {H : Type} : DataW H → Nat
  | .lit (.string bytes) => bytes.length + 1
  | .lit _ => 1
  | .nil => 1
  | .ptr d => uptoBulk d + 1
  | .slice elems spare => uptoBulkAll elems + uptoBulkAll spare + 1
  | .agg parts => uptoBulkAll parts + 1
  | .iface _ d => uptoBulk d + 1
  | .map entries => uptoBulkEntries entries + 1
  | .held _ => 1
def uptoBulkAll {H : Type} : List (DataW H) → Nat
  | [] => 0
  | d :: r => uptoBulk d + uptoBulkAll r
def uptoBulkEntries {H : Type} : List (Lit × DataW H) → Nat
  | [] => 0
  | x :: r => uptoBulkEntry x + uptoBulkEntries r
def uptoBulkEntry {H : Type} : Lit × DataW H → Nat
  | (.string bytes, d) => bytes.length + uptoBulk d + 1
  | (_, d) => uptoBulk d + 1
 end
def uptoSmall : (H : Type) → List (DataW H) → Bool := fun _ ds => decide (uptoBulkAll ds ≤ 1048576)
def OpenSpec.upto (s : _root_.Go.ChangeSpec) : _root_.Go.OpenSpec := { _root_.Go.OpenSpec.ofChange s with cond := some uptoSmall }

/-- 'laws.FnExactUnitsValid', WHERE WHAT IT READS IS OF BULK AT MOST 1048576: true; the input reads as it did. -/
def fnExactUnitsValidUptoRow : OpenClaim := { program := "ytgdeaochfmakbaa", sum := "fdd33211512b9d301e955628ff427f3a89be69b9e711bfbc4fed00812093a796", func := "loop.example/countingboards/laws.FnExactUnitsValid", spec := "fnExactUnitsValid", apart := false, narrowed := true }
def FnExactUnitsValidUptoSaid : Prop := fnExactUnitsValidUptoRow.holds Try.pinned (OpenSpec.upto fnExactUnitsValidSpec)

/-- 'laws.FnExactUnitsDrop', WHERE WHAT IT READS IS OF BULK AT MOST 1048576: true; the input reads as it did. -/
def fnExactUnitsDropUptoRow : OpenClaim := { program := "ytgdeaochfmakbaa", sum := "fdd33211512b9d301e955628ff427f3a89be69b9e711bfbc4fed00812093a796", func := "loop.example/countingboards/laws.FnExactUnitsDrop", spec := "fnExactUnitsDrop", apart := false, narrowed := true }
def FnExactUnitsDropUptoSaid : Prop := fnExactUnitsDropUptoRow.holds Try.pinned (OpenSpec.upto fnExactUnitsDropSpec)

/-- 'laws.FnExactUnitsSum', WHERE WHAT IT READS IS OF BULK AT MOST 1048576: true; the input reads as it did. -/
def fnExactUnitsSumUptoRow : OpenClaim := { program := "ytgdeaochfmakbaa", sum := "fdd33211512b9d301e955628ff427f3a89be69b9e711bfbc4fed00812093a796", func := "loop.example/countingboards/laws.FnExactUnitsSum", spec := "fnExactUnitsSum", apart := false, narrowed := true }
def FnExactUnitsSumUptoSaid : Prop := fnExactUnitsSumUptoRow.holds Try.pinned (OpenSpec.upto fnExactUnitsSumSpec)

/-- 'laws.FnExactUnitsOf', WHERE WHAT IT READS IS OF BULK AT MOST 1048576: true; the input reads as it did. -/
def fnExactUnitsOfUptoRow : OpenClaim := { program := "ytgdeaochfmakbaa", sum := "fdd33211512b9d301e955628ff427f3a89be69b9e711bfbc4fed00812093a796", func := "loop.example/countingboards/laws.FnExactUnitsOf", spec := "fnExactUnitsOf", apart := false, narrowed := true }
def FnExactUnitsOfUptoSaid : Prop := fnExactUnitsOfUptoRow.holds Try.pinned (OpenSpec.upto fnExactUnitsOfSpec)

/-- 'laws.FnUnitsOf', WHERE WHAT IT READS IS OF BULK AT MOST 1048576: true; the input reads as it did. -/
def fnUnitsOfUptoRow : OpenClaim := { program := "ytgdeaochfmakbaa", sum := "fdd33211512b9d301e955628ff427f3a89be69b9e711bfbc4fed00812093a796", func := "loop.example/countingboards/laws.FnUnitsOf", spec := "fnUnitsOf", apart := false, narrowed := true }
def FnUnitsOfUptoSaid : Prop := fnUnitsOfUptoRow.holds Try.pinned (OpenSpec.upto fnUnitsOfSpec)

/-- 'laws.FnUnitsSum', WHERE WHAT IT READS IS OF BULK AT MOST 1048576: true; the input reads as it did. -/
def fnUnitsSumUptoRow : OpenClaim := { program := "ytgdeaochfmakbaa", sum := "fdd33211512b9d301e955628ff427f3a89be69b9e711bfbc4fed00812093a796", func := "loop.example/countingboards/laws.FnUnitsSum", spec := "fnUnitsSum", apart := false, narrowed := true }
def FnUnitsSumUptoSaid : Prop := fnUnitsSumUptoRow.holds Try.pinned (OpenSpec.upto fnUnitsSumSpec)

end Rows
end Go.Proofs.Ytgdeaochfmakbaa
