/-
  No cell of these rows narrows 'for every input' (looked for: loops, veiled, ifaces, maps, wideKeys, modest, calm, conditions, laid).
  DERIVED. THE GIVEN ROWS OF THIS SEAT. 5 by the template 'for every input the law returns true; each argument reads behind the call as it read before'; 0 by the template 'total and deterministic' (their statements: YtlmhjihongijpaaTotals.lean).
  GIVEN WITH THE SEED: the statements are not yours to turn. If you find one false, say at which input.
  Laid BY PROGRAM, IN A SANDBOX (cutbox-rows.mjs): the forced cells as the released guide's own fill.sh prints them over the translation 028969062f02a0b7… (all of the seat's roots in one cut). By AI agents, Wed Nov 11 2026. No macro, syntax, notation, axiom, sorry.
-/
import Derived.Test.YtlmhjihongijpaaChecked
import GoSem.Claim
import GoSem.ClaimJoined
import GoSem.ClaimMapViews
import Derived.JoinedTies
import Derived.KernelRfl
namespace Go.Proofs.Ytlmhjihongijpaa
/- THE CELL 'sum', in the pinned program and in every row, IS THE sha256 OF THE DUMP (.gsa) THAT YtlmhjihongijpaaProg.lean LOADS. Nothing in Lean hashes anything: it is a label: what it is worth is what the hold of that sum in a sandbox is worth. -/
noncomputable def Try.pinned : Pinned := { name := "ytlmhjihongijpaa", sum := "028969062f02a0b79ca9b97d50c5fd02ed1c1377eebec1a4e51ba88451dfe6b7", checked := Try.checked }
namespace Rows
def none {H : Type} : Left H := { results := [], args := [] }

/-- 'laws.FnExactConstants': WHATEVER THE INPUT: true; the input reads as it did. -/
def fnExactConstantsSpec : ChangeSpec := { name := "fnExactConstants", fn := fun _ => fun
  | [] => { results := [.lit (.bool true)], args := [] }
  | _ => none }
def fnExactConstantsRow : OpenClaim := { program := "ytlmhjihongijpaa", sum := "028969062f02a0b79ca9b97d50c5fd02ed1c1377eebec1a4e51ba88451dfe6b7", func := "loop.example/countingboards/laws.FnExactConstants", spec := "fnExactConstants", apart := false }
def FnExactConstantsSaid : Prop := fnExactConstantsRow.holds Try.pinned (OpenSpec.ofChange fnExactConstantsSpec)

/-- ITS FALSE NEIGHBOUR: 'it returns false'. Refute it at one input. -/
def fnExactConstantsWrong : ChangeSpec := { name := "fnExactConstants", fn := fun _ => fun
  | [] => { results := [.lit (.bool false)], args := [] }
  | _ => none }
def FnExactConstantsWrongFalsely : Prop := fnExactConstantsRow.holds Try.pinned (OpenSpec.ofChange fnExactConstantsWrong)

/-- 'laws.FnExactRodCell': WHATEVER THE INPUT: true; the input reads as it did. -/
def fnExactRodCellSpec : ChangeSpec := { name := "fnExactRodCell", fn := fun _ => fun
  | [d1, d2] => { results := [.lit (.bool true)], args := [d1, d2] }
  | _ => none }
def fnExactRodCellRow : OpenClaim := { program := "ytlmhjihongijpaa", sum := "028969062f02a0b79ca9b97d50c5fd02ed1c1377eebec1a4e51ba88451dfe6b7", func := "loop.example/countingboards/laws.FnExactRodCell", spec := "fnExactRodCell", apart := false }
def FnExactRodCellSaid : Prop := fnExactRodCellRow.holds Try.pinned (OpenSpec.ofChange fnExactRodCellSpec)

/-- ITS FALSE NEIGHBOUR: 'it returns false'. Refute it at one input. -/
def fnExactRodCellWrong : ChangeSpec := { name := "fnExactRodCell", fn := fun _ => fun
  | [d1, d2] => { results := [.lit (.bool false)], args := [d1, d2] }
  | _ => none }
def FnExactRodCellWrongFalsely : Prop := fnExactRodCellRow.holds Try.pinned (OpenSpec.ofChange fnExactRodCellWrong)

/-- 'laws.FnExactStripStep': WHATEVER THE INPUT: true; the input reads as it did. -/
def fnExactStripStepSpec : ChangeSpec := { name := "fnExactStripStep", fn := fun _ => fun
  | [d1, d2, d3] => { results := [.lit (.bool true)], args := [d1, d2, d3] }
  | _ => none }
def fnExactStripStepRow : OpenClaim := { program := "ytlmhjihongijpaa", sum := "028969062f02a0b79ca9b97d50c5fd02ed1c1377eebec1a4e51ba88451dfe6b7", func := "loop.example/countingboards/laws.FnExactStripStep", spec := "fnExactStripStep", apart := false }
def FnExactStripStepSaid : Prop := fnExactStripStepRow.holds Try.pinned (OpenSpec.ofChange fnExactStripStepSpec)

/-- ITS FALSE NEIGHBOUR: 'it returns false'. Refute it at one input. -/
def fnExactStripStepWrong : ChangeSpec := { name := "fnExactStripStep", fn := fun _ => fun
  | [d1, d2, d3] => { results := [.lit (.bool false)], args := [d1, d2, d3] }
  | _ => none }
def FnExactStripStepWrongFalsely : Prop := fnExactStripStepRow.holds Try.pinned (OpenSpec.ofChange fnExactStripStepWrong)

/-- 'laws.FnRodCell': WHATEVER THE INPUT: true; the input reads as it did. -/
def fnRodCellSpec : ChangeSpec := { name := "fnRodCell", fn := fun _ => fun
  | [d] => { results := [.lit (.bool true)], args := [d] }
  | _ => none }
def fnRodCellRow : OpenClaim := { program := "ytlmhjihongijpaa", sum := "028969062f02a0b79ca9b97d50c5fd02ed1c1377eebec1a4e51ba88451dfe6b7", func := "loop.example/countingboards/laws.FnRodCell", spec := "fnRodCell", apart := false }
def FnRodCellSaid : Prop := fnRodCellRow.holds Try.pinned (OpenSpec.ofChange fnRodCellSpec)

/-- ITS FALSE NEIGHBOUR: 'it returns false'. Refute it at one input. -/
def fnRodCellWrong : ChangeSpec := { name := "fnRodCell", fn := fun _ => fun
  | [d] => { results := [.lit (.bool false)], args := [d] }
  | _ => none }
def FnRodCellWrongFalsely : Prop := fnRodCellRow.holds Try.pinned (OpenSpec.ofChange fnRodCellWrong)

/-- 'laws.FnStripStep': WHATEVER THE INPUT: true; the input reads as it did. -/
def fnStripStepSpec : ChangeSpec := { name := "fnStripStep", fn := fun _ => fun
  | [d] => { results := [.lit (.bool true)], args := [d] }
  | _ => none }
def fnStripStepRow : OpenClaim := { program := "ytlmhjihongijpaa", sum := "028969062f02a0b79ca9b97d50c5fd02ed1c1377eebec1a4e51ba88451dfe6b7", func := "loop.example/countingboards/laws.FnStripStep", spec := "fnStripStep", apart := false }
def FnStripStepSaid : Prop := fnStripStepRow.holds Try.pinned (OpenSpec.ofChange fnStripStepSpec)

/-- ITS FALSE NEIGHBOUR: 'it returns false'. Refute it at one input. -/
def fnStripStepWrong : ChangeSpec := { name := "fnStripStep", fn := fun _ => fun
  | [d] => { results := [.lit (.bool false)], args := [d] }
  | _ => none }
def FnStripStepWrongFalsely : Prop := fnStripStepRow.holds Try.pinned (OpenSpec.ofChange fnStripStepWrong)

/- THE SECOND FORM. 'bulk': how many values and letters a reading holds, each counted each time it is reached (what is shared counts as often as it is met; a slice's spare places count too). A statement '..UptoSaid' is the law's where the arguments, and the package variables that the reading takes, are together of bulk at most 1048576: NARROWER than '..Said'. Prove '..Said' where nothing that the law and all that it calls make is longer than what came in: it says more and counts as full. Else prove '..UptoSaid'. A law counts once. -/
mutual
def uptoBulk {H : Type} : DataW H → Nat
  | .lit (.string bytes) => bytes.length + 1
  | .lit _ => 1
  | .nil => 1
  | .ptr d => uptoBulk d + 1
  | .slice elems spare => uptoBulkAll elems + uptoBulkAll spare + 1
  | .agg parts => uptoBulkAll parts + 1
  | .iface _ d => uptoBulk d + 1
  | .map entries => uptoBulkEntries entries + 1
  | .held _ => 1
def uptoBulkAll {H : Type} : List (DataW H) → Nat
  | [] => 0
  | d :: r => uptoBulk d + uptoBulkAll r
def uptoBulkEntries {H : Type} : List (Lit × DataW H) → Nat
  | [] => 0
  | x :: r => uptoBulkEntry x + uptoBulkEntries r
def uptoBulkEntry {H : Type} : Lit × DataW H → Nat
  | (.string bytes, d) => bytes.length + uptoBulk d + 1
  | (_, d) => uptoBulk d + 1
 end
def uptoSmall : (H : Type) → List (DataW H) → Bool := fun _ ds => decide (uptoBulkAll ds ≤ 1048576)
def OpenSpec.upto (s : _root_.Go.ChangeSpec) : _root_.Go.OpenSpec := { _root_.Go.OpenSpec.ofChange s with cond := some uptoSmall }

/-- 'laws.FnExactConstants', WHERE WHAT IT READS IS OF BULK AT MOST 1048576: true; the input reads as it did. -/
def fnExactConstantsUptoRow : OpenClaim := { program := "ytlmhjihongijpaa", sum := "028969062f02a0b79ca9b97d50c5fd02ed1c1377eebec1a4e51ba88451dfe6b7", func := "loop.example/countingboards/laws.FnExactConstants", spec := "fnExactConstants", apart := false, narrowed := true }
def FnExactConstantsUptoSaid : Prop := fnExactConstantsUptoRow.holds Try.pinned (OpenSpec.upto fnExactConstantsSpec)

/-- 'laws.FnExactRodCell', WHERE WHAT IT READS IS OF BULK AT MOST 1048576: true; the input reads as it did. -/
def fnExactRodCellUptoRow : OpenClaim := { program := "ytlmhjihongijpaa", sum := "028969062f02a0b79ca9b97d50c5fd02ed1c1377eebec1a4e51ba88451dfe6b7", func := "loop.example/countingboards/laws.FnExactRodCell", spec := "fnExactRodCell", apart := false, narrowed := true }
def FnExactRodCellUptoSaid : Prop := fnExactRodCellUptoRow.holds Try.pinned (OpenSpec.upto fnExactRodCellSpec)

/-- 'laws.FnExactStripStep', WHERE WHAT IT READS IS OF BULK AT MOST 1048576: true; the input reads as it did. -/
def fnExactStripStepUptoRow : OpenClaim := { program := "ytlmhjihongijpaa", sum := "028969062f02a0b79ca9b97d50c5fd02ed1c1377eebec1a4e51ba88451dfe6b7", func := "loop.example/countingboards/laws.FnExactStripStep", spec := "fnExactStripStep", apart := false, narrowed := true }
def FnExactStripStepUptoSaid : Prop := fnExactStripStepUptoRow.holds Try.pinned (OpenSpec.upto fnExactStripStepSpec)

/-- 'laws.FnRodCell', WHERE WHAT IT READS IS OF BULK AT MOST 1048576: true; the input reads as it did. -/
def fnRodCellUptoRow : OpenClaim := { program := "ytlmhjihongijpaa", sum := "028969062f02a0b79ca9b97d50c5fd02ed1c1377eebec1a4e51ba88451dfe6b7", func := "loop.example/countingboards/laws.FnRodCell", spec := "fnRodCell", apart := false, narrowed := true }
def FnRodCellUptoSaid : Prop := fnRodCellUptoRow.holds Try.pinned (OpenSpec.upto fnRodCellSpec)

/-- 'laws.FnStripStep', WHERE WHAT IT READS IS OF BULK AT MOST 1048576: true; the input reads as it did. -/
def fnStripStepUptoRow : OpenClaim := { program := "ytlmhjihongijpaa", sum := "028969062f02a0b79ca9b97d50c5fd02ed1c1377eebec1a4e51ba88451dfe6b7", func := "loop.example/countingboards/laws.FnStripStep", spec := "fnStripStep", apart := false, narrowed := true }
def FnStripStepUptoSaid : Prop := fnStripStepUptoRow.holds Try.pinned (OpenSpec.upto fnStripStepSpec)

end Rows
end Go.Proofs.Ytlmhjihongijpaa
