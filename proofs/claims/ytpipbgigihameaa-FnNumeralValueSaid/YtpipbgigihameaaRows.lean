/-
  No cell of these rows narrows 'for every input' (looked for: loops, veiled, ifaces, maps, wideKeys, modest, calm, conditions, laid).
  DERIVED. THE GIVEN ROWS OF THIS SEAT. 8 by the template 'for every input the law returns true; each argument reads behind the call as it read before'; 0 by the template 'total and deterministic' (their statements: YtpipbgigihameaaTotals.lean).
  GIVEN WITH THE SEED: the statements are not yours to turn. If you find one false, say at which input.
  Laid BY PROGRAM, IN A SANDBOX (cutbox-rows.mjs): the forced cells as the released guide's own fill.sh prints them over the translation fcbaeb5095e4ef3f… (all of the seat's roots in one cut). By AI agents, Wed Nov 11 2026. No macro, syntax, notation, axiom, sorry.
-/
import Derived.Test.YtpipbgigihameaaChecked
import GoSem.Claim
import GoSem.ClaimJoined
import GoSem.ClaimMapViews
import Derived.JoinedTies
import Derived.KernelRfl
namespace Go.Proofs.Ytpipbgigihameaa
/- THE CELL 'sum', in the pinned program and in every row, IS THE sha256 OF THE DUMP (.gsa) THAT YtpipbgigihameaaProg.lean LOADS. Nothing in Lean hashes anything: it is a label: what it is worth is what the hold of that sum in a sandbox is worth. -/
noncomputable def Try.pinned : Pinned := { name := "ytpipbgigihameaa", sum := "fcbaeb5095e4ef3fbba81b22d78c9aba59e0c93e4199f64d8861cb05883ecab2", checked := Try.checked }
namespace Rows
def none {H : Type} : Left H := { results := [], args := [] }

/-- 'laws.FnExactNumeralValid': WHATEVER THE INPUT: true; the input reads as it did. -/
def fnExactNumeralValidSpec : ChangeSpec := { name := "fnExactNumeralValid", fn := fun _ => fun
  | [d] => { results := [.lit (.bool true)], args := [d] }
  | _ => none }
def fnExactNumeralValidRow : OpenClaim := { program := "ytpipbgigihameaa", sum := "fcbaeb5095e4ef3fbba81b22d78c9aba59e0c93e4199f64d8861cb05883ecab2", func := "loop.example/countingboards/laws.FnExactNumeralValid", spec := "fnExactNumeralValid", apart := false }
def FnExactNumeralValidSaid : Prop := fnExactNumeralValidRow.holds Try.pinned (OpenSpec.ofChange fnExactNumeralValidSpec)

/-- ITS FALSE NEIGHBOUR: 'it returns false'. Refute it at one input. -/
def fnExactNumeralValidWrong : ChangeSpec := { name := "fnExactNumeralValid", fn := fun _ => fun
  | [d] => { results := [.lit (.bool false)], args := [d] }
  | _ => none }
def FnExactNumeralValidWrongFalsely : Prop := fnExactNumeralValidRow.holds Try.pinned (OpenSpec.ofChange fnExactNumeralValidWrong)

/-- 'laws.FnExactNumeralOf': WHATEVER THE INPUT: true; the input reads as it did. -/
def fnExactNumeralOfSpec : ChangeSpec := { name := "fnExactNumeralOf", fn := fun _ => fun
  | [d] => { results := [.lit (.bool true)], args := [d] }
  | _ => none }
def fnExactNumeralOfRow : OpenClaim := { program := "ytpipbgigihameaa", sum := "fcbaeb5095e4ef3fbba81b22d78c9aba59e0c93e4199f64d8861cb05883ecab2", func := "loop.example/countingboards/laws.FnExactNumeralOf", spec := "fnExactNumeralOf", apart := false }
def FnExactNumeralOfSaid : Prop := fnExactNumeralOfRow.holds Try.pinned (OpenSpec.ofChange fnExactNumeralOfSpec)

/-- ITS FALSE NEIGHBOUR: 'it returns false'. Refute it at one input. -/
def fnExactNumeralOfWrong : ChangeSpec := { name := "fnExactNumeralOf", fn := fun _ => fun
  | [d] => { results := [.lit (.bool false)], args := [d] }
  | _ => none }
def FnExactNumeralOfWrongFalsely : Prop := fnExactNumeralOfRow.holds Try.pinned (OpenSpec.ofChange fnExactNumeralOfWrong)

/-- 'laws.FnExactNumeralValue': WHATEVER THE INPUT: true; the input reads as it did. -/
def fnExactNumeralValueSpec : ChangeSpec := { name := "fnExactNumeralValue", fn := fun _ => fun
  | [d] => { results := [.lit (.bool true)], args := [d] }
  | _ => none }
def fnExactNumeralValueRow : OpenClaim := { program := "ytpipbgigihameaa", sum := "fcbaeb5095e4ef3fbba81b22d78c9aba59e0c93e4199f64d8861cb05883ecab2", func := "loop.example/countingboards/laws.FnExactNumeralValue", spec := "fnExactNumeralValue", apart := false }
def FnExactNumeralValueSaid : Prop := fnExactNumeralValueRow.holds Try.pinned (OpenSpec.ofChange fnExactNumeralValueSpec)

/-- ITS FALSE NEIGHBOUR: 'it returns false'. Refute it at one input. -/
def fnExactNumeralValueWrong : ChangeSpec := { name := "fnExactNumeralValue", fn := fun _ => fun
  | [d] => { results := [.lit (.bool false)], args := [d] }
  | _ => none }
def FnExactNumeralValueWrongFalsely : Prop := fnExactNumeralValueRow.holds Try.pinned (OpenSpec.ofChange fnExactNumeralValueWrong)

/-- 'laws.FnExactRodTimes': WHATEVER THE INPUT: true; the input reads as it did. -/
def fnExactRodTimesSpec : ChangeSpec := { name := "fnExactRodTimes", fn := fun _ => fun
  | [d1, d2] => { results := [.lit (.bool true)], args := [d1, d2] }
  | _ => none }
def fnExactRodTimesRow : OpenClaim := { program := "ytpipbgigihameaa", sum := "fcbaeb5095e4ef3fbba81b22d78c9aba59e0c93e4199f64d8861cb05883ecab2", func := "loop.example/countingboards/laws.FnExactRodTimes", spec := "fnExactRodTimes", apart := false }
def FnExactRodTimesSaid : Prop := fnExactRodTimesRow.holds Try.pinned (OpenSpec.ofChange fnExactRodTimesSpec)

/-- ITS FALSE NEIGHBOUR: 'it returns false'. Refute it at one input. -/
def fnExactRodTimesWrong : ChangeSpec := { name := "fnExactRodTimes", fn := fun _ => fun
  | [d1, d2] => { results := [.lit (.bool false)], args := [d1, d2] }
  | _ => none }
def FnExactRodTimesWrongFalsely : Prop := fnExactRodTimesRow.holds Try.pinned (OpenSpec.ofChange fnExactRodTimesWrong)

/-- 'laws.FnNumeral': WHATEVER THE INPUT: true; the input reads as it did. -/
def fnNumeralSpec : ChangeSpec := { name := "fnNumeral", fn := fun _ => fun
  | [d] => { results := [.lit (.bool true)], args := [d] }
  | _ => none }
def fnNumeralRow : OpenClaim := { program := "ytpipbgigihameaa", sum := "fcbaeb5095e4ef3fbba81b22d78c9aba59e0c93e4199f64d8861cb05883ecab2", func := "loop.example/countingboards/laws.FnNumeral", spec := "fnNumeral", apart := false }
def FnNumeralSaid : Prop := fnNumeralRow.holds Try.pinned (OpenSpec.ofChange fnNumeralSpec)

/-- ITS FALSE NEIGHBOUR: 'it returns false'. Refute it at one input. -/
def fnNumeralWrong : ChangeSpec := { name := "fnNumeral", fn := fun _ => fun
  | [d] => { results := [.lit (.bool false)], args := [d] }
  | _ => none }
def FnNumeralWrongFalsely : Prop := fnNumeralRow.holds Try.pinned (OpenSpec.ofChange fnNumeralWrong)

/-- 'laws.FnExactStripTimes': WHATEVER THE INPUT: true; the input reads as it did. -/
def fnExactStripTimesSpec : ChangeSpec := { name := "fnExactStripTimes", fn := fun _ => fun
  | [d1, d2] => { results := [.lit (.bool true)], args := [d1, d2] }
  | _ => none }
def fnExactStripTimesRow : OpenClaim := { program := "ytpipbgigihameaa", sum := "fcbaeb5095e4ef3fbba81b22d78c9aba59e0c93e4199f64d8861cb05883ecab2", func := "loop.example/countingboards/laws.FnExactStripTimes", spec := "fnExactStripTimes", apart := false }
def FnExactStripTimesSaid : Prop := fnExactStripTimesRow.holds Try.pinned (OpenSpec.ofChange fnExactStripTimesSpec)

/-- ITS FALSE NEIGHBOUR: 'it returns false'. Refute it at one input. -/
def fnExactStripTimesWrong : ChangeSpec := { name := "fnExactStripTimes", fn := fun _ => fun
  | [d1, d2] => { results := [.lit (.bool false)], args := [d1, d2] }
  | _ => none }
def FnExactStripTimesWrongFalsely : Prop := fnExactStripTimesRow.holds Try.pinned (OpenSpec.ofChange fnExactStripTimesWrong)

/-- 'laws.FnNumeralValue': WHATEVER THE INPUT: true; the input reads as it did. -/
def fnNumeralValueSpec : ChangeSpec := { name := "fnNumeralValue", fn := fun _ => fun
  | [d] => { results := [.lit (.bool true)], args := [d] }
  | _ => none }
def fnNumeralValueRow : OpenClaim := { program := "ytpipbgigihameaa", sum := "fcbaeb5095e4ef3fbba81b22d78c9aba59e0c93e4199f64d8861cb05883ecab2", func := "loop.example/countingboards/laws.FnNumeralValue", spec := "fnNumeralValue", apart := false }
def FnNumeralValueSaid : Prop := fnNumeralValueRow.holds Try.pinned (OpenSpec.ofChange fnNumeralValueSpec)

/-- ITS FALSE NEIGHBOUR: 'it returns false'. Refute it at one input. -/
def fnNumeralValueWrong : ChangeSpec := { name := "fnNumeralValue", fn := fun _ => fun
  | [d] => { results := [.lit (.bool false)], args := [d] }
  | _ => none }
def FnNumeralValueWrongFalsely : Prop := fnNumeralValueRow.holds Try.pinned (OpenSpec.ofChange fnNumeralValueWrong)

/-- 'laws.FnStripTimes': WHATEVER THE INPUT: true; the input reads as it did. -/
def fnStripTimesSpec : ChangeSpec := { name := "fnStripTimes", fn := fun _ => fun
  | [d] => { results := [.lit (.bool true)], args := [d] }
  | _ => none }
def fnStripTimesRow : OpenClaim := { program := "ytpipbgigihameaa", sum := "fcbaeb5095e4ef3fbba81b22d78c9aba59e0c93e4199f64d8861cb05883ecab2", func := "loop.example/countingboards/laws.FnStripTimes", spec := "fnStripTimes", apart := false }
def FnStripTimesSaid : Prop := fnStripTimesRow.holds Try.pinned (OpenSpec.ofChange fnStripTimesSpec)

/-- ITS FALSE NEIGHBOUR: 'it returns false'. Refute it at one input. -/
def fnStripTimesWrong : ChangeSpec := { name := "fnStripTimes", fn := fun _ => fun
  | [d] => { results := [.lit (.bool false)], args := [d] }
  | _ => none }
def FnStripTimesWrongFalsely : Prop := fnStripTimesRow.holds Try.pinned (OpenSpec.ofChange fnStripTimesWrong)

/- THE SECOND FORM. 'bulk': how many values and letters a reading holds, each counted each time it is reached (what is shared counts as often as it is met; a slice's spare places count too). A statement '..UptoSaid' is the law's where the arguments, and the package variables that the reading takes, are together of bulk at most 1048576: NARROWER than '..Said'. Prove '..Said' where nothing that the law and all that it calls make is longer than what came in: it says more and counts as full. Else prove '..UptoSaid'. A law counts once. -/
mutual
def uptoBulk {H : Type} : DataW H → Nat
  | .lit (.string bytes) => bytes.length + 1
  | .lit _ => 1
  | .nil => 1
  | .ptr d => uptoBulk d + 1
  | .slice elems spare => uptoBulkAll elems + uptoBulkAll spare + 1
  | .agg parts => uptoBulkAll parts + 1
  | .iface _ d => uptoBulk d + 1
  | .map entries => uptoBulkEntries entries + 1
  | .held _ => 1
def uptoBulkAll {H : Type} : List (DataW H) → Nat
  | [] => 0
  | d :: r => uptoBulk d + uptoBulkAll r
def uptoBulkEntries {H : Type} : List (Lit × DataW H) → Nat
  | [] => 0
  | x :: r => uptoBulkEntry x + uptoBulkEntries r
def uptoBulkEntry {H : Type} : Lit × DataW H → Nat
  | (.string bytes, d) => bytes.length + uptoBulk d + 1
  | (_, d) => uptoBulk d + 1
 end
def uptoSmall : (H : Type) → List (DataW H) → Bool := fun _ ds => decide (uptoBulkAll ds ≤ 1048576)
def OpenSpec.upto (s : _root_.Go.ChangeSpec) : _root_.Go.OpenSpec := { _root_.Go.OpenSpec.ofChange s with cond := some uptoSmall }

/-- 'laws.FnExactNumeralValid', WHERE WHAT IT READS IS OF BULK AT MOST 1048576: true; the input reads as it did. -/
def fnExactNumeralValidUptoRow : OpenClaim := { program := "ytpipbgigihameaa", sum := "fcbaeb5095e4ef3fbba81b22d78c9aba59e0c93e4199f64d8861cb05883ecab2", func := "loop.example/countingboards/laws.FnExactNumeralValid", spec := "fnExactNumeralValid", apart := false, narrowed := true }
def FnExactNumeralValidUptoSaid : Prop := fnExactNumeralValidUptoRow.holds Try.pinned (OpenSpec.upto fnExactNumeralValidSpec)

/-- 'laws.FnExactNumeralOf', WHERE WHAT IT READS IS OF BULK AT MOST 1048576: true; the input reads as it did. -/
def fnExactNumeralOfUptoRow : OpenClaim := { program := "ytpipbgigihameaa", sum := "fcbaeb5095e4ef3fbba81b22d78c9aba59e0c93e4199f64d8861cb05883ecab2", func := "loop.example/countingboards/laws.FnExactNumeralOf", spec := "fnExactNumeralOf", apart := false, narrowed := true }
def FnExactNumeralOfUptoSaid : Prop := fnExactNumeralOfUptoRow.holds Try.pinned (OpenSpec.upto fnExactNumeralOfSpec)

/-- 'laws.FnExactNumeralValue', WHERE WHAT IT READS IS OF BULK AT MOST 1048576: true; the input reads as it did. -/
def fnExactNumeralValueUptoRow : OpenClaim := { program := "ytpipbgigihameaa", sum := "fcbaeb5095e4ef3fbba81b22d78c9aba59e0c93e4199f64d8861cb05883ecab2", func := "loop.example/countingboards/laws.FnExactNumeralValue", spec := "fnExactNumeralValue", apart := false, narrowed := true }
def FnExactNumeralValueUptoSaid : Prop := fnExactNumeralValueUptoRow.holds Try.pinned (OpenSpec.upto fnExactNumeralValueSpec)

/-- 'laws.FnExactRodTimes', WHERE WHAT IT READS IS OF BULK AT MOST 1048576: true; the input reads as it did. -/
def fnExactRodTimesUptoRow : OpenClaim := { program := "ytpipbgigihameaa", sum := "fcbaeb5095e4ef3fbba81b22d78c9aba59e0c93e4199f64d8861cb05883ecab2", func := "loop.example/countingboards/laws.FnExactRodTimes", spec := "fnExactRodTimes", apart := false, narrowed := true }
def FnExactRodTimesUptoSaid : Prop := fnExactRodTimesUptoRow.holds Try.pinned (OpenSpec.upto fnExactRodTimesSpec)

/-- 'laws.FnNumeral', WHERE WHAT IT READS IS OF BULK AT MOST 1048576: true; the input reads as it did. -/
def fnNumeralUptoRow : OpenClaim := { program := "ytpipbgigihameaa", sum := "fcbaeb5095e4ef3fbba81b22d78c9aba59e0c93e4199f64d8861cb05883ecab2", func := "loop.example/countingboards/laws.FnNumeral", spec := "fnNumeral", apart := false, narrowed := true }
def FnNumeralUptoSaid : Prop := fnNumeralUptoRow.holds Try.pinned (OpenSpec.upto fnNumeralSpec)

/-- 'laws.FnExactStripTimes', WHERE WHAT IT READS IS OF BULK AT MOST 1048576: true; the input reads as it did. -/
def fnExactStripTimesUptoRow : OpenClaim := { program := "ytpipbgigihameaa", sum := "fcbaeb5095e4ef3fbba81b22d78c9aba59e0c93e4199f64d8861cb05883ecab2", func := "loop.example/countingboards/laws.FnExactStripTimes", spec := "fnExactStripTimes", apart := false, narrowed := true }
def FnExactStripTimesUptoSaid : Prop := fnExactStripTimesUptoRow.holds Try.pinned (OpenSpec.upto fnExactStripTimesSpec)

/-- 'laws.FnNumeralValue', WHERE WHAT IT READS IS OF BULK AT MOST 1048576: true; the input reads as it did. -/
def fnNumeralValueUptoRow : OpenClaim := { program := "ytpipbgigihameaa", sum := "fcbaeb5095e4ef3fbba81b22d78c9aba59e0c93e4199f64d8861cb05883ecab2", func := "loop.example/countingboards/laws.FnNumeralValue", spec := "fnNumeralValue", apart := false, narrowed := true }
def FnNumeralValueUptoSaid : Prop := fnNumeralValueUptoRow.holds Try.pinned (OpenSpec.upto fnNumeralValueSpec)

/-- 'laws.FnStripTimes', WHERE WHAT IT READS IS OF BULK AT MOST 1048576: true; the input reads as it did. -/
def fnStripTimesUptoRow : OpenClaim := { program := "ytpipbgigihameaa", sum := "fcbaeb5095e4ef3fbba81b22d78c9aba59e0c93e4199f64d8861cb05883ecab2", func := "loop.example/countingboards/laws.FnStripTimes", spec := "fnStripTimes", apart := false, narrowed := true }
def FnStripTimesUptoSaid : Prop := fnStripTimesUptoRow.holds Try.pinned (OpenSpec.upto fnStripTimesSpec)

end Rows
end Go.Proofs.Ytpipbgigihameaa
