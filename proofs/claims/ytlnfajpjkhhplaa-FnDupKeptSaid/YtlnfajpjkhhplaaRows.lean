/-
  No cell of these rows narrows 'for every input' (looked for: loops, veiled, ifaces, maps, wideKeys, modest, calm, conditions, laid).
  DERIVED. THE GIVEN ROWS OF THIS SEAT. 9 by the template 'for every input the law returns true; each argument reads behind the call as it read before'; 0 by the template 'total and deterministic' (their statements: YtlnfajpjkhhplaaTotals.lean).
  GIVEN WITH THE SEED: the statements are not yours to turn. If you find one false, say at which input.
  Laid BY PROGRAM, IN A SANDBOX (cutbox-rows.mjs): the forced cells as the released guide's own fill.sh prints them over the translation 8ccba982379ab684… (all of the seat's roots in one cut). By AI agents, Wed Nov 11 2026. No macro, syntax, notation, axiom, sorry.
-/
import Derived.Test.YtlnfajpjkhhplaaChecked
import GoSem.Claim
import GoSem.ClaimJoined
import GoSem.ClaimMapViews
import Derived.JoinedTies
import Derived.KernelRfl
namespace Go.Proofs.Ytlnfajpjkhhplaa
/- THE CELL 'sum', in the pinned program and in every row, IS THE sha256 OF THE DUMP (.gsa) THAT YtlnfajpjkhhplaaProg.lean LOADS. Nothing in Lean hashes anything: it is a label: what it is worth is what the hold of that sum in a sandbox is worth. -/
noncomputable def Try.pinned : Pinned := { name := "ytlnfajpjkhhplaa", sum := "8ccba982379ab684be0005ea74be719eace4178981f7e8b80a560465d9a99217", checked := Try.checked }
namespace Rows
def none {H : Type} : Left H := { results := [], args := [] }

/-- 'laws.FnExactDupBits': WHATEVER THE INPUT: true; the input reads as it did. -/
def fnExactDupBitsSpec : ChangeSpec := { name := "fnExactDupBits", fn := fun _ => fun
  | [d1, d2] => { results := [.lit (.bool true)], args := [d1, d2] }
  | _ => none }
def fnExactDupBitsRow : OpenClaim := { program := "ytlnfajpjkhhplaa", sum := "8ccba982379ab684be0005ea74be719eace4178981f7e8b80a560465d9a99217", func := "loop.example/countingboards/laws.FnExactDupBits", spec := "fnExactDupBits", apart := false }
def FnExactDupBitsSaid : Prop := fnExactDupBitsRow.holds Try.pinned (OpenSpec.ofChange fnExactDupBitsSpec)

/-- ITS FALSE NEIGHBOUR: 'it returns false'. Refute it at one input. -/
def fnExactDupBitsWrong : ChangeSpec := { name := "fnExactDupBits", fn := fun _ => fun
  | [d1, d2] => { results := [.lit (.bool false)], args := [d1, d2] }
  | _ => none }
def FnExactDupBitsWrongFalsely : Prop := fnExactDupBitsRow.holds Try.pinned (OpenSpec.ofChange fnExactDupBitsWrong)

/-- 'laws.FnExactDupDivide': WHATEVER THE INPUT: true; the input reads as it did. -/
def fnExactDupDivideSpec : ChangeSpec := { name := "fnExactDupDivide", fn := fun _ => fun
  | [d1, d2] => { results := [.lit (.bool true)], args := [d1, d2] }
  | _ => none }
def fnExactDupDivideRow : OpenClaim := { program := "ytlnfajpjkhhplaa", sum := "8ccba982379ab684be0005ea74be719eace4178981f7e8b80a560465d9a99217", func := "loop.example/countingboards/laws.FnExactDupDivide", spec := "fnExactDupDivide", apart := false }
def FnExactDupDivideSaid : Prop := fnExactDupDivideRow.holds Try.pinned (OpenSpec.ofChange fnExactDupDivideSpec)

/-- ITS FALSE NEIGHBOUR: 'it returns false'. Refute it at one input. -/
def fnExactDupDivideWrong : ChangeSpec := { name := "fnExactDupDivide", fn := fun _ => fun
  | [d1, d2] => { results := [.lit (.bool false)], args := [d1, d2] }
  | _ => none }
def FnExactDupDivideWrongFalsely : Prop := fnExactDupDivideRow.holds Try.pinned (OpenSpec.ofChange fnExactDupDivideWrong)

/-- 'laws.FnExactDupTimes': WHATEVER THE INPUT: true; the input reads as it did. -/
def fnExactDupTimesSpec : ChangeSpec := { name := "fnExactDupTimes", fn := fun _ => fun
  | [d1, d2] => { results := [.lit (.bool true)], args := [d1, d2] }
  | _ => none }
def fnExactDupTimesRow : OpenClaim := { program := "ytlnfajpjkhhplaa", sum := "8ccba982379ab684be0005ea74be719eace4178981f7e8b80a560465d9a99217", func := "loop.example/countingboards/laws.FnExactDupTimes", spec := "fnExactDupTimes", unfollowed := true, recurses := true, apart := false }
def FnExactDupTimesSaid : Prop := fnExactDupTimesRow.holds Try.pinned (OpenSpec.ofChange fnExactDupTimesSpec)

/-- ITS FALSE NEIGHBOUR: 'it returns false'. Refute it at one input. -/
def fnExactDupTimesWrong : ChangeSpec := { name := "fnExactDupTimes", fn := fun _ => fun
  | [d1, d2] => { results := [.lit (.bool false)], args := [d1, d2] }
  | _ => none }
def FnExactDupTimesWrongFalsely : Prop := fnExactDupTimesRow.holds Try.pinned (OpenSpec.ofChange fnExactDupTimesWrong)

/-- 'laws.FnExactDupRows': WHATEVER THE INPUT: true; the input reads as it did. -/
def fnExactDupRowsSpec : ChangeSpec := { name := "fnExactDupRows", fn := fun _ => fun
  | [d1, d2] => { results := [.lit (.bool true)], args := [d1, d2] }
  | _ => none }
def fnExactDupRowsRow : OpenClaim := { program := "ytlnfajpjkhhplaa", sum := "8ccba982379ab684be0005ea74be719eace4178981f7e8b80a560465d9a99217", func := "loop.example/countingboards/laws.FnExactDupRows", spec := "fnExactDupRows", unfollowed := true, recurses := true, apart := false }
def FnExactDupRowsSaid : Prop := fnExactDupRowsRow.holds Try.pinned (OpenSpec.ofChange fnExactDupRowsSpec)

/-- ITS FALSE NEIGHBOUR: 'it returns false'. Refute it at one input. -/
def fnExactDupRowsWrong : ChangeSpec := { name := "fnExactDupRows", fn := fun _ => fun
  | [d1, d2] => { results := [.lit (.bool false)], args := [d1, d2] }
  | _ => none }
def FnExactDupRowsWrongFalsely : Prop := fnExactDupRowsRow.holds Try.pinned (OpenSpec.ofChange fnExactDupRowsWrong)

/-- 'laws.FnExactDupKept': WHATEVER THE INPUT: true; the input reads as it did. -/
def fnExactDupKeptSpec : ChangeSpec := { name := "fnExactDupKept", fn := fun _ => fun
  | [d1, d2] => { results := [.lit (.bool true)], args := [d1, d2] }
  | _ => none }
def fnExactDupKeptRow : OpenClaim := { program := "ytlnfajpjkhhplaa", sum := "8ccba982379ab684be0005ea74be719eace4178981f7e8b80a560465d9a99217", func := "loop.example/countingboards/laws.FnExactDupKept", spec := "fnExactDupKept", unfollowed := true, recurses := true, apart := false }
def FnExactDupKeptSaid : Prop := fnExactDupKeptRow.holds Try.pinned (OpenSpec.ofChange fnExactDupKeptSpec)

/-- ITS FALSE NEIGHBOUR: 'it returns false'. Refute it at one input. -/
def fnExactDupKeptWrong : ChangeSpec := { name := "fnExactDupKept", fn := fun _ => fun
  | [d1, d2] => { results := [.lit (.bool false)], args := [d1, d2] }
  | _ => none }
def FnExactDupKeptWrongFalsely : Prop := fnExactDupKeptRow.holds Try.pinned (OpenSpec.ofChange fnExactDupKeptWrong)

/-- 'laws.FnDupRows': WHATEVER THE INPUT: true; the input reads as it did. -/
def fnDupRowsSpec : ChangeSpec := { name := "fnDupRows", fn := fun _ => fun
  | [d] => { results := [.lit (.bool true)], args := [d] }
  | _ => none }
def fnDupRowsRow : OpenClaim := { program := "ytlnfajpjkhhplaa", sum := "8ccba982379ab684be0005ea74be719eace4178981f7e8b80a560465d9a99217", func := "loop.example/countingboards/laws.FnDupRows", spec := "fnDupRows", unfollowed := true, recurses := true, apart := false }
def FnDupRowsSaid : Prop := fnDupRowsRow.holds Try.pinned (OpenSpec.ofChange fnDupRowsSpec)

/-- ITS FALSE NEIGHBOUR: 'it returns false'. Refute it at one input. -/
def fnDupRowsWrong : ChangeSpec := { name := "fnDupRows", fn := fun _ => fun
  | [d] => { results := [.lit (.bool false)], args := [d] }
  | _ => none }
def FnDupRowsWrongFalsely : Prop := fnDupRowsRow.holds Try.pinned (OpenSpec.ofChange fnDupRowsWrong)

/-- 'laws.FnDupKept': WHATEVER THE INPUT: true; the input reads as it did. -/
def fnDupKeptSpec : ChangeSpec := { name := "fnDupKept", fn := fun _ => fun
  | [d] => { results := [.lit (.bool true)], args := [d] }
  | _ => none }
def fnDupKeptRow : OpenClaim := { program := "ytlnfajpjkhhplaa", sum := "8ccba982379ab684be0005ea74be719eace4178981f7e8b80a560465d9a99217", func := "loop.example/countingboards/laws.FnDupKept", spec := "fnDupKept", unfollowed := true, recurses := true, apart := false }
def FnDupKeptSaid : Prop := fnDupKeptRow.holds Try.pinned (OpenSpec.ofChange fnDupKeptSpec)

/-- ITS FALSE NEIGHBOUR: 'it returns false'. Refute it at one input. -/
def fnDupKeptWrong : ChangeSpec := { name := "fnDupKept", fn := fun _ => fun
  | [d] => { results := [.lit (.bool false)], args := [d] }
  | _ => none }
def FnDupKeptWrongFalsely : Prop := fnDupKeptRow.holds Try.pinned (OpenSpec.ofChange fnDupKeptWrong)

/-- 'laws.FnDupTimes': WHATEVER THE INPUT: true; the input reads as it did. -/
def fnDupTimesSpec : ChangeSpec := { name := "fnDupTimes", fn := fun _ => fun
  | [d] => { results := [.lit (.bool true)], args := [d] }
  | _ => none }
def fnDupTimesRow : OpenClaim := { program := "ytlnfajpjkhhplaa", sum := "8ccba982379ab684be0005ea74be719eace4178981f7e8b80a560465d9a99217", func := "loop.example/countingboards/laws.FnDupTimes", spec := "fnDupTimes", unfollowed := true, recurses := true, apart := false }
def FnDupTimesSaid : Prop := fnDupTimesRow.holds Try.pinned (OpenSpec.ofChange fnDupTimesSpec)

/-- ITS FALSE NEIGHBOUR: 'it returns false'. Refute it at one input. -/
def fnDupTimesWrong : ChangeSpec := { name := "fnDupTimes", fn := fun _ => fun
  | [d] => { results := [.lit (.bool false)], args := [d] }
  | _ => none }
def FnDupTimesWrongFalsely : Prop := fnDupTimesRow.holds Try.pinned (OpenSpec.ofChange fnDupTimesWrong)

/-- 'laws.FnDupDivide': WHATEVER THE INPUT: true; the input reads as it did. -/
def fnDupDivideSpec : ChangeSpec := { name := "fnDupDivide", fn := fun _ => fun
  | [d] => { results := [.lit (.bool true)], args := [d] }
  | _ => none }
def fnDupDivideRow : OpenClaim := { program := "ytlnfajpjkhhplaa", sum := "8ccba982379ab684be0005ea74be719eace4178981f7e8b80a560465d9a99217", func := "loop.example/countingboards/laws.FnDupDivide", spec := "fnDupDivide", unfollowed := true, recurses := true, apart := false }
def FnDupDivideSaid : Prop := fnDupDivideRow.holds Try.pinned (OpenSpec.ofChange fnDupDivideSpec)

/-- ITS FALSE NEIGHBOUR: 'it returns false'. Refute it at one input. -/
def fnDupDivideWrong : ChangeSpec := { name := "fnDupDivide", fn := fun _ => fun
  | [d] => { results := [.lit (.bool false)], args := [d] }
  | _ => none }
def FnDupDivideWrongFalsely : Prop := fnDupDivideRow.holds Try.pinned (OpenSpec.ofChange fnDupDivideWrong)

/- THE SECOND FORM. 'bulk': how many values and letters a reading holds, each counted each time it is reached (what is shared counts as often as it is met; a slice's spare places count too). A statement '..UptoSaid' is the law's where the arguments, and the package variables that the reading takes, are together of bulk at most 1048576: NARROWER than '..Said'. Prove '..Said' where nothing that the law and all that it calls make is longer than what came in: it says more and counts as full. Else prove '..UptoSaid'. A law counts once. -/
mutual
def uptoBulk {H : Type} : DataW H → Nat
  | .lit (.string bytes) => bytes.length + 1
  | .lit _ => 1
  | .nil => 1
  | .ptr d => uptoBulk d + 1
  | .slice elems spare => uptoBulkAll elems + uptoBulkAll spare + 1
  | .agg parts => uptoBulkAll parts + 1
  | .iface _ d => uptoBulk d + 1
  | .map entries => uptoBulkEntries entries + 1
  | .held _ => 1
def uptoBulkAll {H : Type} : List (DataW H) → Nat
  | [] => 0
  | d :: r => uptoBulk d + uptoBulkAll r
def uptoBulkEntries {H : Type} : List (Lit × DataW H) → Nat
  | [] => 0
  | x :: r => uptoBulkEntry x + uptoBulkEntries r
def uptoBulkEntry {H : Type} : Lit × DataW H → Nat
  | (.string bytes, d) => bytes.length + uptoBulk d + 1
  | (_, d) => uptoBulk d + 1
 end
def uptoSmall : (H : Type) → List (DataW H) → Bool := fun _ ds => decide (uptoBulkAll ds ≤ 1048576)
def OpenSpec.upto (s : _root_.Go.ChangeSpec) : _root_.Go.OpenSpec := { _root_.Go.OpenSpec.ofChange s with cond := some uptoSmall }

/-- 'laws.FnExactDupBits', WHERE WHAT IT READS IS OF BULK AT MOST 1048576: true; the input reads as it did. -/
def fnExactDupBitsUptoRow : OpenClaim := { program := "ytlnfajpjkhhplaa", sum := "8ccba982379ab684be0005ea74be719eace4178981f7e8b80a560465d9a99217", func := "loop.example/countingboards/laws.FnExactDupBits", spec := "fnExactDupBits", apart := false, narrowed := true }
def FnExactDupBitsUptoSaid : Prop := fnExactDupBitsUptoRow.holds Try.pinned (OpenSpec.upto fnExactDupBitsSpec)

/-- 'laws.FnExactDupDivide', WHERE WHAT IT READS IS OF BULK AT MOST 1048576: true; the input reads as it did. -/
def fnExactDupDivideUptoRow : OpenClaim := { program := "ytlnfajpjkhhplaa", sum := "8ccba982379ab684be0005ea74be719eace4178981f7e8b80a560465d9a99217", func := "loop.example/countingboards/laws.FnExactDupDivide", spec := "fnExactDupDivide", apart := false, narrowed := true }
def FnExactDupDivideUptoSaid : Prop := fnExactDupDivideUptoRow.holds Try.pinned (OpenSpec.upto fnExactDupDivideSpec)

/-- 'laws.FnExactDupTimes', WHERE WHAT IT READS IS OF BULK AT MOST 1048576: true; the input reads as it did. -/
def fnExactDupTimesUptoRow : OpenClaim := { program := "ytlnfajpjkhhplaa", sum := "8ccba982379ab684be0005ea74be719eace4178981f7e8b80a560465d9a99217", func := "loop.example/countingboards/laws.FnExactDupTimes", spec := "fnExactDupTimes", unfollowed := true, recurses := true, apart := false, narrowed := true }
def FnExactDupTimesUptoSaid : Prop := fnExactDupTimesUptoRow.holds Try.pinned (OpenSpec.upto fnExactDupTimesSpec)

/-- 'laws.FnExactDupRows', WHERE WHAT IT READS IS OF BULK AT MOST 1048576: true; the input reads as it did. -/
def fnExactDupRowsUptoRow : OpenClaim := { program := "ytlnfajpjkhhplaa", sum := "8ccba982379ab684be0005ea74be719eace4178981f7e8b80a560465d9a99217", func := "loop.example/countingboards/laws.FnExactDupRows", spec := "fnExactDupRows", unfollowed := true, recurses := true, apart := false, narrowed := true }
def FnExactDupRowsUptoSaid : Prop := fnExactDupRowsUptoRow.holds Try.pinned (OpenSpec.upto fnExactDupRowsSpec)

/-- 'laws.FnExactDupKept', WHERE WHAT IT READS IS OF BULK AT MOST 1048576: true; the input reads as it did. -/
def fnExactDupKeptUptoRow : OpenClaim := { program := "ytlnfajpjkhhplaa", sum := "8ccba982379ab684be0005ea74be719eace4178981f7e8b80a560465d9a99217", func := "loop.example/countingboards/laws.FnExactDupKept", spec := "fnExactDupKept", unfollowed := true, recurses := true, apart := false, narrowed := true }
def FnExactDupKeptUptoSaid : Prop := fnExactDupKeptUptoRow.holds Try.pinned (OpenSpec.upto fnExactDupKeptSpec)

/-- 'laws.FnDupRows', WHERE WHAT IT READS IS OF BULK AT MOST 1048576: true; the input reads as it did. -/
def fnDupRowsUptoRow : OpenClaim := { program := "ytlnfajpjkhhplaa", sum := "8ccba982379ab684be0005ea74be719eace4178981f7e8b80a560465d9a99217", func := "loop.example/countingboards/laws.FnDupRows", spec := "fnDupRows", unfollowed := true, recurses := true, apart := false, narrowed := true }
def FnDupRowsUptoSaid : Prop := fnDupRowsUptoRow.holds Try.pinned (OpenSpec.upto fnDupRowsSpec)

/-- 'laws.FnDupKept', WHERE WHAT IT READS IS OF BULK AT MOST 1048576: true; the input reads as it did. -/
def fnDupKeptUptoRow : OpenClaim := { program := "ytlnfajpjkhhplaa", sum := "8ccba982379ab684be0005ea74be719eace4178981f7e8b80a560465d9a99217", func := "loop.example/countingboards/laws.FnDupKept", spec := "fnDupKept", unfollowed := true, recurses := true, apart := false, narrowed := true }
def FnDupKeptUptoSaid : Prop := fnDupKeptUptoRow.holds Try.pinned (OpenSpec.upto fnDupKeptSpec)

/-- 'laws.FnDupTimes', WHERE WHAT IT READS IS OF BULK AT MOST 1048576: true; the input reads as it did. -/
def fnDupTimesUptoRow : OpenClaim := { program := "ytlnfajpjkhhplaa", sum := "8ccba982379ab684be0005ea74be719eace4178981f7e8b80a560465d9a99217", func := "loop.example/countingboards/laws.FnDupTimes", spec := "fnDupTimes", unfollowed := true, recurses := true, apart := false, narrowed := true }
def FnDupTimesUptoSaid : Prop := fnDupTimesUptoRow.holds Try.pinned (OpenSpec.upto fnDupTimesSpec)

/-- 'laws.FnDupDivide', WHERE WHAT IT READS IS OF BULK AT MOST 1048576: true; the input reads as it did. -/
def fnDupDivideUptoRow : OpenClaim := { program := "ytlnfajpjkhhplaa", sum := "8ccba982379ab684be0005ea74be719eace4178981f7e8b80a560465d9a99217", func := "loop.example/countingboards/laws.FnDupDivide", spec := "fnDupDivide", unfollowed := true, recurses := true, apart := false, narrowed := true }
def FnDupDivideUptoSaid : Prop := fnDupDivideUptoRow.holds Try.pinned (OpenSpec.upto fnDupDivideSpec)

end Rows
end Go.Proofs.Ytlnfajpjkhhplaa
