/-
  No cell of these rows narrows 'for every input' (looked for: loops, veiled, ifaces, maps, wideKeys, modest, calm, conditions, laid).
  DERIVED. THE GIVEN ROWS OF THIS SEAT. 6 by the template 'for every input the law returns true; each argument reads behind the call as it read before'; 0 by the template 'total and deterministic' (their statements: YtdnknkbcbnoobaaTotals.lean).
  GIVEN WITH THE SEED: the statements are not yours to turn. If you find one false, say at which input.
  Laid BY PROGRAM, IN A SANDBOX (cutbox-rows.mjs): the forced cells as the released guide's own fill.sh prints them over the translation f225f6caf4f66d7d… (all of the seat's roots in one cut). By AI agents, Wed Nov 11 2026. No macro, syntax, notation, axiom, sorry.
-/
import Derived.Test.YtdnknkbcbnoobaaChecked
import GoSem.Claim
import GoSem.ClaimJoined
import GoSem.ClaimMapViews
import Derived.JoinedTies
import Derived.KernelRfl
namespace Go.Proofs.Ytdnknkbcbnoobaa
/- THE CELL 'sum', in the pinned program and in every row, IS THE sha256 OF THE DUMP (.gsa) THAT YtdnknkbcbnoobaaProg.lean LOADS. Nothing in Lean hashes anything: it is a label: what it is worth is what the hold of that sum in a sandbox is worth. -/
noncomputable def Try.pinned : Pinned := { name := "ytdnknkbcbnoobaa", sum := "f225f6caf4f66d7d405cdee92fc45c21f8509a845877695d7c55dd9c9c3f50f8", checked := Try.checked }
namespace Rows
def none {H : Type} : Left H := { results := [], args := [] }

/-- 'laws.FnExactLatticeSums': WHATEVER THE INPUT: true; the input reads as it did. -/
def fnExactLatticeSumsSpec : ChangeSpec := { name := "fnExactLatticeSums", fn := fun _ => fun
  | [d1, d2] => { results := [.lit (.bool true)], args := [d1, d2] }
  | _ => none }
def fnExactLatticeSumsRow : OpenClaim := { program := "ytdnknkbcbnoobaa", sum := "f225f6caf4f66d7d405cdee92fc45c21f8509a845877695d7c55dd9c9c3f50f8", func := "loop.example/countingboards/laws.FnExactLatticeSums", spec := "fnExactLatticeSums", apart := false }
def FnExactLatticeSumsSaid : Prop := fnExactLatticeSumsRow.holds Try.pinned (OpenSpec.ofChange fnExactLatticeSumsSpec)

/-- ITS FALSE NEIGHBOUR: 'it returns false'. Refute it at one input. -/
def fnExactLatticeSumsWrong : ChangeSpec := { name := "fnExactLatticeSums", fn := fun _ => fun
  | [d1, d2] => { results := [.lit (.bool false)], args := [d1, d2] }
  | _ => none }
def FnExactLatticeSumsWrongFalsely : Prop := fnExactLatticeSumsRow.holds Try.pinned (OpenSpec.ofChange fnExactLatticeSumsWrong)

/-- 'laws.FnExactLatticeDigits': WHATEVER THE INPUT: true; the input reads as it did. -/
def fnExactLatticeDigitsSpec : ChangeSpec := { name := "fnExactLatticeDigits", fn := fun _ => fun
  | [d1, d2] => { results := [.lit (.bool true)], args := [d1, d2] }
  | _ => none }
def fnExactLatticeDigitsRow : OpenClaim := { program := "ytdnknkbcbnoobaa", sum := "f225f6caf4f66d7d405cdee92fc45c21f8509a845877695d7c55dd9c9c3f50f8", func := "loop.example/countingboards/laws.FnExactLatticeDigits", spec := "fnExactLatticeDigits", apart := false }
def FnExactLatticeDigitsSaid : Prop := fnExactLatticeDigitsRow.holds Try.pinned (OpenSpec.ofChange fnExactLatticeDigitsSpec)

/-- ITS FALSE NEIGHBOUR: 'it returns false'. Refute it at one input. -/
def fnExactLatticeDigitsWrong : ChangeSpec := { name := "fnExactLatticeDigits", fn := fun _ => fun
  | [d1, d2] => { results := [.lit (.bool false)], args := [d1, d2] }
  | _ => none }
def FnExactLatticeDigitsWrongFalsely : Prop := fnExactLatticeDigitsRow.holds Try.pinned (OpenSpec.ofChange fnExactLatticeDigitsWrong)

/-- 'laws.FnLatticeSums': WHATEVER THE INPUT: true; the input reads as it did. -/
def fnLatticeSumsSpec : ChangeSpec := { name := "fnLatticeSums", fn := fun _ => fun
  | [d] => { results := [.lit (.bool true)], args := [d] }
  | _ => none }
def fnLatticeSumsRow : OpenClaim := { program := "ytdnknkbcbnoobaa", sum := "f225f6caf4f66d7d405cdee92fc45c21f8509a845877695d7c55dd9c9c3f50f8", func := "loop.example/countingboards/laws.FnLatticeSums", spec := "fnLatticeSums", apart := false }
def FnLatticeSumsSaid : Prop := fnLatticeSumsRow.holds Try.pinned (OpenSpec.ofChange fnLatticeSumsSpec)

/-- ITS FALSE NEIGHBOUR: 'it returns false'. Refute it at one input. -/
def fnLatticeSumsWrong : ChangeSpec := { name := "fnLatticeSums", fn := fun _ => fun
  | [d] => { results := [.lit (.bool false)], args := [d] }
  | _ => none }
def FnLatticeSumsWrongFalsely : Prop := fnLatticeSumsRow.holds Try.pinned (OpenSpec.ofChange fnLatticeSumsWrong)

/-- 'laws.FnExactLatticeTimes': WHATEVER THE INPUT: true; the input reads as it did. -/
def fnExactLatticeTimesSpec : ChangeSpec := { name := "fnExactLatticeTimes", fn := fun _ => fun
  | [d1, d2] => { results := [.lit (.bool true)], args := [d1, d2] }
  | _ => none }
def fnExactLatticeTimesRow : OpenClaim := { program := "ytdnknkbcbnoobaa", sum := "f225f6caf4f66d7d405cdee92fc45c21f8509a845877695d7c55dd9c9c3f50f8", func := "loop.example/countingboards/laws.FnExactLatticeTimes", spec := "fnExactLatticeTimes", apart := false }
def FnExactLatticeTimesSaid : Prop := fnExactLatticeTimesRow.holds Try.pinned (OpenSpec.ofChange fnExactLatticeTimesSpec)

/-- ITS FALSE NEIGHBOUR: 'it returns false'. Refute it at one input. -/
def fnExactLatticeTimesWrong : ChangeSpec := { name := "fnExactLatticeTimes", fn := fun _ => fun
  | [d1, d2] => { results := [.lit (.bool false)], args := [d1, d2] }
  | _ => none }
def FnExactLatticeTimesWrongFalsely : Prop := fnExactLatticeTimesRow.holds Try.pinned (OpenSpec.ofChange fnExactLatticeTimesWrong)

/-- 'laws.FnLatticeDigits': WHATEVER THE INPUT: true; the input reads as it did. -/
def fnLatticeDigitsSpec : ChangeSpec := { name := "fnLatticeDigits", fn := fun _ => fun
  | [d] => { results := [.lit (.bool true)], args := [d] }
  | _ => none }
def fnLatticeDigitsRow : OpenClaim := { program := "ytdnknkbcbnoobaa", sum := "f225f6caf4f66d7d405cdee92fc45c21f8509a845877695d7c55dd9c9c3f50f8", func := "loop.example/countingboards/laws.FnLatticeDigits", spec := "fnLatticeDigits", apart := false }
def FnLatticeDigitsSaid : Prop := fnLatticeDigitsRow.holds Try.pinned (OpenSpec.ofChange fnLatticeDigitsSpec)

/-- ITS FALSE NEIGHBOUR: 'it returns false'. Refute it at one input. -/
def fnLatticeDigitsWrong : ChangeSpec := { name := "fnLatticeDigits", fn := fun _ => fun
  | [d] => { results := [.lit (.bool false)], args := [d] }
  | _ => none }
def FnLatticeDigitsWrongFalsely : Prop := fnLatticeDigitsRow.holds Try.pinned (OpenSpec.ofChange fnLatticeDigitsWrong)

/-- 'laws.FnRodTimes': WHATEVER THE INPUT: true; the input reads as it did. -/
def fnRodTimesSpec : ChangeSpec := { name := "fnRodTimes", fn := fun _ => fun
  | [d] => { results := [.lit (.bool true)], args := [d] }
  | _ => none }
def fnRodTimesRow : OpenClaim := { program := "ytdnknkbcbnoobaa", sum := "f225f6caf4f66d7d405cdee92fc45c21f8509a845877695d7c55dd9c9c3f50f8", func := "loop.example/countingboards/laws.FnRodTimes", spec := "fnRodTimes", apart := false }
def FnRodTimesSaid : Prop := fnRodTimesRow.holds Try.pinned (OpenSpec.ofChange fnRodTimesSpec)

/-- ITS FALSE NEIGHBOUR: 'it returns false'. Refute it at one input. -/
def fnRodTimesWrong : ChangeSpec := { name := "fnRodTimes", fn := fun _ => fun
  | [d] => { results := [.lit (.bool false)], args := [d] }
  | _ => none }
def FnRodTimesWrongFalsely : Prop := fnRodTimesRow.holds Try.pinned (OpenSpec.ofChange fnRodTimesWrong)

/- THE SECOND FORM. 'bulk': how many values and letters a reading holds, each counted each time it is reached (what is shared counts as often as it is met; a slice's spare places count too). A statement '..UptoSaid' is the law's where the arguments, and the package variables that the reading takes, are together of bulk at most 1048576: NARROWER than '..Said'. Prove '..Said' where nothing that the law and all that it calls make is longer than what came in: it says more and counts as full. Else prove '..UptoSaid'. A law counts once. -/
mutual
def uptoBulk {H : Type} : DataW H → Nat
  | .lit (.string bytes) => bytes.length + 1
  | .lit _ => 1
  | .nil => 1
  | .ptr d => uptoBulk d + 1
  | .slice elems spare => uptoBulkAll elems + uptoBulkAll spare + 1
  | .agg parts => uptoBulkAll parts + 1
  | .iface _ d => uptoBulk d + 1
  | .map entries => uptoBulkEntries entries + 1
  | .held _ => 1
def uptoBulkAll {H : Type} : List (DataW H) → Nat
  | [] => 0
  | d :: r => uptoBulk d + uptoBulkAll r
def uptoBulkEntries {H : Type} : List (Lit × DataW H) → Nat
  | [] => 0
  | x :: r => uptoBulkEntry x + uptoBulkEntries r
def uptoBulkEntry {H : Type} : Lit × DataW H → Nat
  | (.string bytes, d) => bytes.length + uptoBulk d + 1
  | (_, d) => uptoBulk d + 1
 end
def uptoSmall : (H : Type) → List (DataW H) → Bool := fun _ ds => decide (uptoBulkAll ds ≤ 1048576)
def OpenSpec.upto (s : _root_.Go.ChangeSpec) : _root_.Go.OpenSpec := { _root_.Go.OpenSpec.ofChange s with cond := some uptoSmall }

/-- 'laws.FnExactLatticeSums', WHERE WHAT IT READS IS OF BULK AT MOST 1048576: true; the input reads as it did. -/
def fnExactLatticeSumsUptoRow : OpenClaim := { program := "ytdnknkbcbnoobaa", sum := "f225f6caf4f66d7d405cdee92fc45c21f8509a845877695d7c55dd9c9c3f50f8", func := "loop.example/countingboards/laws.FnExactLatticeSums", spec := "fnExactLatticeSums", apart := false, narrowed := true }
def FnExactLatticeSumsUptoSaid : Prop := fnExactLatticeSumsUptoRow.holds Try.pinned (OpenSpec.upto fnExactLatticeSumsSpec)

/-- 'laws.FnExactLatticeDigits', WHERE WHAT IT READS IS OF BULK AT MOST 1048576: true; the input reads as it did. -/
def fnExactLatticeDigitsUptoRow : OpenClaim := { program := "ytdnknkbcbnoobaa", sum := "f225f6caf4f66d7d405cdee92fc45c21f8509a845877695d7c55dd9c9c3f50f8", func := "loop.example/countingboards/laws.FnExactLatticeDigits", spec := "fnExactLatticeDigits", apart := false, narrowed := true }
def FnExactLatticeDigitsUptoSaid : Prop := fnExactLatticeDigitsUptoRow.holds Try.pinned (OpenSpec.upto fnExactLatticeDigitsSpec)

/-- 'laws.FnLatticeSums', WHERE WHAT IT READS IS OF BULK AT MOST 1048576: true; the input reads as it did. -/
def fnLatticeSumsUptoRow : OpenClaim := { program := "ytdnknkbcbnoobaa", sum := "f225f6caf4f66d7d405cdee92fc45c21f8509a845877695d7c55dd9c9c3f50f8", func := "loop.example/countingboards/laws.FnLatticeSums", spec := "fnLatticeSums", apart := false, narrowed := true }
def FnLatticeSumsUptoSaid : Prop := fnLatticeSumsUptoRow.holds Try.pinned (OpenSpec.upto fnLatticeSumsSpec)

/-- 'laws.FnExactLatticeTimes', WHERE WHAT IT READS IS OF BULK AT MOST 1048576: true; the input reads as it did. -/
def fnExactLatticeTimesUptoRow : OpenClaim := { program := "ytdnknkbcbnoobaa", sum := "f225f6caf4f66d7d405cdee92fc45c21f8509a845877695d7c55dd9c9c3f50f8", func := "loop.example/countingboards/laws.FnExactLatticeTimes", spec := "fnExactLatticeTimes", apart := false, narrowed := true }
def FnExactLatticeTimesUptoSaid : Prop := fnExactLatticeTimesUptoRow.holds Try.pinned (OpenSpec.upto fnExactLatticeTimesSpec)

/-- 'laws.FnLatticeDigits', WHERE WHAT IT READS IS OF BULK AT MOST 1048576: true; the input reads as it did. -/
def fnLatticeDigitsUptoRow : OpenClaim := { program := "ytdnknkbcbnoobaa", sum := "f225f6caf4f66d7d405cdee92fc45c21f8509a845877695d7c55dd9c9c3f50f8", func := "loop.example/countingboards/laws.FnLatticeDigits", spec := "fnLatticeDigits", apart := false, narrowed := true }
def FnLatticeDigitsUptoSaid : Prop := fnLatticeDigitsUptoRow.holds Try.pinned (OpenSpec.upto fnLatticeDigitsSpec)

/-- 'laws.FnRodTimes', WHERE WHAT IT READS IS OF BULK AT MOST 1048576: true; the input reads as it did. -/
def fnRodTimesUptoRow : OpenClaim := { program := "ytdnknkbcbnoobaa", sum := "f225f6caf4f66d7d405cdee92fc45c21f8509a845877695d7c55dd9c9c3f50f8", func := "loop.example/countingboards/laws.FnRodTimes", spec := "fnRodTimes", apart := false, narrowed := true }
def FnRodTimesUptoSaid : Prop := fnRodTimesUptoRow.holds Try.pinned (OpenSpec.upto fnRodTimesSpec)

end Rows
end Go.Proofs.Ytdnknkbcbnoobaa
