/-
  No cell of these rows narrows 'for every input' (looked for: loops, veiled, ifaces, maps, wideKeys, modest, calm, conditions, laid).
  DERIVED. THE GIVEN ROWS OF THIS SEAT. 6 by the template 'for every input the law returns true; each argument reads behind the call as it read before'; 0 by the template 'total and deterministic' (their statements: YthgecmdmoghmpaaTotals.lean).
  GIVEN WITH THE SEED: the statements are not yours to turn. If you find one false, say at which input.
  Laid BY PROGRAM, IN A SANDBOX (cutbox-rows.mjs): the forced cells as the released guide's own fill.sh prints them over the translation fa0707bc5b817cfd… (all of the seat's roots in one cut). By AI agents, Wed Nov 11 2026. No macro, syntax, notation, axiom, sorry.
-/
import Derived.Test.YthgecmdmoghmpaaChecked
import GoSem.Claim
import GoSem.ClaimJoined
import GoSem.ClaimMapViews
import Derived.JoinedTies
import Derived.KernelRfl
namespace Go.Proofs.Ythgecmdmoghmpaa
/- THE CELL 'sum', in the pinned program and in every row, IS THE sha256 OF THE DUMP (.gsa) THAT YthgecmdmoghmpaaProg.lean LOADS. Nothing in Lean hashes anything: it is a label: what it is worth is what the hold of that sum in a sandbox is worth. -/
noncomputable def Try.pinned : Pinned := { name := "ythgecmdmoghmpaa", sum := "fa0707bc5b817cfd72f788d142a84ee034f97aa35aee7770ef26c866988a07fd", checked := Try.checked }
namespace Rows
def none {H : Type} : Left H := { results := [], args := [] }

/-- 'laws.FnExactCaseShows': WHATEVER THE INPUT: true; the input reads as it did. -/
def fnExactCaseShowsSpec : ChangeSpec := { name := "fnExactCaseShows", fn := fun _ => fun
  | [d1, d2] => { results := [.lit (.bool true)], args := [d1, d2] }
  | _ => none }
def fnExactCaseShowsRow : OpenClaim := { program := "ythgecmdmoghmpaa", sum := "fa0707bc5b817cfd72f788d142a84ee034f97aa35aee7770ef26c866988a07fd", func := "loop.example/countingboards/laws.FnExactCaseShows", spec := "fnExactCaseShows", unfollowed := true, recurses := true, apart := false }
def FnExactCaseShowsSaid : Prop := fnExactCaseShowsRow.holds Try.pinned (OpenSpec.ofChange fnExactCaseShowsSpec)

/-- ITS FALSE NEIGHBOUR: 'it returns false'. Refute it at one input. -/
def fnExactCaseShowsWrong : ChangeSpec := { name := "fnExactCaseShows", fn := fun _ => fun
  | [d1, d2] => { results := [.lit (.bool false)], args := [d1, d2] }
  | _ => none }
def FnExactCaseShowsWrongFalsely : Prop := fnExactCaseShowsRow.holds Try.pinned (OpenSpec.ofChange fnExactCaseShowsWrong)

/-- 'laws.FnExactCaseValid': WHATEVER THE INPUT: true; the input reads as it did. -/
def fnExactCaseValidSpec : ChangeSpec := { name := "fnExactCaseValid", fn := fun _ => fun
  | [d] => { results := [.lit (.bool true)], args := [d] }
  | _ => none }
def fnExactCaseValidRow : OpenClaim := { program := "ythgecmdmoghmpaa", sum := "fa0707bc5b817cfd72f788d142a84ee034f97aa35aee7770ef26c866988a07fd", func := "loop.example/countingboards/laws.FnExactCaseValid", spec := "fnExactCaseValid", apart := false }
def FnExactCaseValidSaid : Prop := fnExactCaseValidRow.holds Try.pinned (OpenSpec.ofChange fnExactCaseValidSpec)

/-- ITS FALSE NEIGHBOUR: 'it returns false'. Refute it at one input. -/
def fnExactCaseValidWrong : ChangeSpec := { name := "fnExactCaseValid", fn := fun _ => fun
  | [d] => { results := [.lit (.bool false)], args := [d] }
  | _ => none }
def FnExactCaseValidWrongFalsely : Prop := fnExactCaseValidRow.holds Try.pinned (OpenSpec.ofChange fnExactCaseValidWrong)

/-- 'laws.FnExactCaseMost': WHATEVER THE INPUT: true; the input reads as it did. -/
def fnExactCaseMostSpec : ChangeSpec := { name := "fnExactCaseMost", fn := fun _ => fun
  | [d] => { results := [.lit (.bool true)], args := [d] }
  | _ => none }
def fnExactCaseMostRow : OpenClaim := { program := "ythgecmdmoghmpaa", sum := "fa0707bc5b817cfd72f788d142a84ee034f97aa35aee7770ef26c866988a07fd", func := "loop.example/countingboards/laws.FnExactCaseMost", spec := "fnExactCaseMost", apart := false }
def FnExactCaseMostSaid : Prop := fnExactCaseMostRow.holds Try.pinned (OpenSpec.ofChange fnExactCaseMostSpec)

/-- ITS FALSE NEIGHBOUR: 'it returns false'. Refute it at one input. -/
def fnExactCaseMostWrong : ChangeSpec := { name := "fnExactCaseMost", fn := fun _ => fun
  | [d] => { results := [.lit (.bool false)], args := [d] }
  | _ => none }
def FnExactCaseMostWrongFalsely : Prop := fnExactCaseMostRow.holds Try.pinned (OpenSpec.ofChange fnExactCaseMostWrong)

/-- 'laws.FnCaseMost': WHATEVER THE INPUT: true; the input reads as it did. -/
def fnCaseMostSpec : ChangeSpec := { name := "fnCaseMost", fn := fun _ => fun
  | [d1, d2] => { results := [.lit (.bool true)], args := [d1, d2] }
  | _ => none }
def fnCaseMostRow : OpenClaim := { program := "ythgecmdmoghmpaa", sum := "fa0707bc5b817cfd72f788d142a84ee034f97aa35aee7770ef26c866988a07fd", func := "loop.example/countingboards/laws.FnCaseMost", spec := "fnCaseMost", unfollowed := true, recurses := true, apart := false }
def FnCaseMostSaid : Prop := fnCaseMostRow.holds Try.pinned (OpenSpec.ofChange fnCaseMostSpec)

/-- ITS FALSE NEIGHBOUR: 'it returns false'. Refute it at one input. -/
def fnCaseMostWrong : ChangeSpec := { name := "fnCaseMost", fn := fun _ => fun
  | [d1, d2] => { results := [.lit (.bool false)], args := [d1, d2] }
  | _ => none }
def FnCaseMostWrongFalsely : Prop := fnCaseMostRow.holds Try.pinned (OpenSpec.ofChange fnCaseMostWrong)

/-- 'laws.FnCaseShows': WHATEVER THE INPUT: true; the input reads as it did. -/
def fnCaseShowsSpec : ChangeSpec := { name := "fnCaseShows", fn := fun _ => fun
  | [d1, d2] => { results := [.lit (.bool true)], args := [d1, d2] }
  | _ => none }
def fnCaseShowsRow : OpenClaim := { program := "ythgecmdmoghmpaa", sum := "fa0707bc5b817cfd72f788d142a84ee034f97aa35aee7770ef26c866988a07fd", func := "loop.example/countingboards/laws.FnCaseShows", spec := "fnCaseShows", unfollowed := true, recurses := true, apart := false }
def FnCaseShowsSaid : Prop := fnCaseShowsRow.holds Try.pinned (OpenSpec.ofChange fnCaseShowsSpec)

/-- ITS FALSE NEIGHBOUR: 'it returns false'. Refute it at one input. -/
def fnCaseShowsWrong : ChangeSpec := { name := "fnCaseShows", fn := fun _ => fun
  | [d1, d2] => { results := [.lit (.bool false)], args := [d1, d2] }
  | _ => none }
def FnCaseShowsWrongFalsely : Prop := fnCaseShowsRow.holds Try.pinned (OpenSpec.ofChange fnCaseShowsWrong)

/-- 'laws.FnExactCaseWays': WHATEVER THE INPUT: true; the input reads as it did. -/
def fnExactCaseWaysSpec : ChangeSpec := { name := "fnExactCaseWays", fn := fun _ => fun
  | [d1, d2] => { results := [.lit (.bool true)], args := [d1, d2] }
  | _ => none }
def fnExactCaseWaysRow : OpenClaim := { program := "ythgecmdmoghmpaa", sum := "fa0707bc5b817cfd72f788d142a84ee034f97aa35aee7770ef26c866988a07fd", func := "loop.example/countingboards/laws.FnExactCaseWays", spec := "fnExactCaseWays", unfollowed := true, recurses := true, apart := false }
def FnExactCaseWaysSaid : Prop := fnExactCaseWaysRow.holds Try.pinned (OpenSpec.ofChange fnExactCaseWaysSpec)

/-- ITS FALSE NEIGHBOUR: 'it returns false'. Refute it at one input. -/
def fnExactCaseWaysWrong : ChangeSpec := { name := "fnExactCaseWays", fn := fun _ => fun
  | [d1, d2] => { results := [.lit (.bool false)], args := [d1, d2] }
  | _ => none }
def FnExactCaseWaysWrongFalsely : Prop := fnExactCaseWaysRow.holds Try.pinned (OpenSpec.ofChange fnExactCaseWaysWrong)

/- THE SECOND FORM. 'bulk': how many values and letters a reading holds, each counted each time it is reached (what is shared counts as often as it is met; a slice's spare places count too). A statement '..UptoSaid' is the law's where the arguments, and the package variables that the reading takes, are together of bulk at most 1048576: NARROWER than '..Said'. Prove '..Said' where nothing that the law and all that it calls make is longer than what came in: it says more and counts as full. Else prove '..UptoSaid'. A law counts once. -/
mutual
def uptoBulk {H : Type} : DataW H → Nat
  | .lit (.string bytes) => bytes.length + 1
  | .lit _ => 1
  | .nil => 1
  | .ptr d => uptoBulk d + 1
  | .slice elems spare => uptoBulkAll elems + uptoBulkAll spare + 1
  | .agg parts => uptoBulkAll parts + 1
  | .iface _ d => uptoBulk d + 1
  | .map entries => uptoBulkEntries entries + 1
  | .held _ => 1
def uptoBulkAll {H : Type} : List (DataW H) → Nat
  | [] => 0
  | d :: r => uptoBulk d + uptoBulkAll r
def uptoBulkEntries {H : Type} : List (Lit × DataW H) → Nat
  | [] => 0
  | x :: r => uptoBulkEntry x + uptoBulkEntries r
def uptoBulkEntry {H : Type} : Lit × DataW H → Nat
  | (.string bytes, d) => bytes.length + uptoBulk d + 1
  | (_, d) => uptoBulk d + 1
 end
def uptoSmall : (H : Type) → List (DataW H) → Bool := fun _ ds => decide (uptoBulkAll ds ≤ 1048576)
def OpenSpec.upto (s : _root_.Go.ChangeSpec) : _root_.Go.OpenSpec := { _root_.Go.OpenSpec.ofChange s with cond := some uptoSmall }

/-- 'laws.FnExactCaseShows', WHERE WHAT IT READS IS OF BULK AT MOST 1048576: true; the input reads as it did. -/
def fnExactCaseShowsUptoRow : OpenClaim := { program := "ythgecmdmoghmpaa", sum := "fa0707bc5b817cfd72f788d142a84ee034f97aa35aee7770ef26c866988a07fd", func := "loop.example/countingboards/laws.FnExactCaseShows", spec := "fnExactCaseShows", unfollowed := true, recurses := true, apart := false, narrowed := true }
def FnExactCaseShowsUptoSaid : Prop := fnExactCaseShowsUptoRow.holds Try.pinned (OpenSpec.upto fnExactCaseShowsSpec)

/-- 'laws.FnExactCaseValid', WHERE WHAT IT READS IS OF BULK AT MOST 1048576: true; the input reads as it did. -/
def fnExactCaseValidUptoRow : OpenClaim := { program := "ythgecmdmoghmpaa", sum := "fa0707bc5b817cfd72f788d142a84ee034f97aa35aee7770ef26c866988a07fd", func := "loop.example/countingboards/laws.FnExactCaseValid", spec := "fnExactCaseValid", apart := false, narrowed := true }
def FnExactCaseValidUptoSaid : Prop := fnExactCaseValidUptoRow.holds Try.pinned (OpenSpec.upto fnExactCaseValidSpec)

/-- 'laws.FnExactCaseMost', WHERE WHAT IT READS IS OF BULK AT MOST 1048576: true; the input reads as it did. -/
def fnExactCaseMostUptoRow : OpenClaim := { program := "ythgecmdmoghmpaa", sum := "fa0707bc5b817cfd72f788d142a84ee034f97aa35aee7770ef26c866988a07fd", func := "loop.example/countingboards/laws.FnExactCaseMost", spec := "fnExactCaseMost", apart := false, narrowed := true }
def FnExactCaseMostUptoSaid : Prop := fnExactCaseMostUptoRow.holds Try.pinned (OpenSpec.upto fnExactCaseMostSpec)

/-- 'laws.FnCaseMost', WHERE WHAT IT READS IS OF BULK AT MOST 1048576: true; the input reads as it did. -/
def fnCaseMostUptoRow : OpenClaim := { program := "ythgecmdmoghmpaa", sum := "fa0707bc5b817cfd72f788d142a84ee034f97aa35aee7770ef26c866988a07fd", func := "loop.example/countingboards/laws.FnCaseMost", spec := "fnCaseMost", unfollowed := true, recurses := true, apart := false, narrowed := true }
def FnCaseMostUptoSaid : Prop := fnCaseMostUptoRow.holds Try.pinned (OpenSpec.upto fnCaseMostSpec)

/-- 'laws.FnCaseShows', WHERE WHAT IT READS IS OF BULK AT MOST 1048576: true; the input reads as it did. -/
def fnCaseShowsUptoRow : OpenClaim := { program := "ythgecmdmoghmpaa", sum := "fa0707bc5b817cfd72f788d142a84ee034f97aa35aee7770ef26c866988a07fd", func := "loop.example/countingboards/laws.FnCaseShows", spec := "fnCaseShows", unfollowed := true, recurses := true, apart := false, narrowed := true }
def FnCaseShowsUptoSaid : Prop := fnCaseShowsUptoRow.holds Try.pinned (OpenSpec.upto fnCaseShowsSpec)

/-- 'laws.FnExactCaseWays', WHERE WHAT IT READS IS OF BULK AT MOST 1048576: true; the input reads as it did. -/
def fnExactCaseWaysUptoRow : OpenClaim := { program := "ythgecmdmoghmpaa", sum := "fa0707bc5b817cfd72f788d142a84ee034f97aa35aee7770ef26c866988a07fd", func := "loop.example/countingboards/laws.FnExactCaseWays", spec := "fnExactCaseWays", unfollowed := true, recurses := true, apart := false, narrowed := true }
def FnExactCaseWaysUptoSaid : Prop := fnExactCaseWaysUptoRow.holds Try.pinned (OpenSpec.upto fnExactCaseWaysSpec)

end Rows
end Go.Proofs.Ythgecmdmoghmpaa
