/-
  DERIVED. GIVEN WITH THE SEED: THE CARDS: each row of YtapcnpkaphdlkaaDoorRows.lean that lists a variable, with what it lists TIED to the program's text (the seventh form; the later family's looks); each row that meets fmt, with fmt's text TOLD by the authors' own Lean function (tested against real Go, not proved from fmt's source: count such statements apart). THE CARD IS WHAT COUNTS. Prove the row's statement (the work); the ties are given (YtapcnpkaphdlkaaDoorTie.lean); close each card by the builder's one call (the guide's Derived/Test/ToyasCard.lean, 'card_holds'). Laid BY PROGRAM, IN A SANDBOX (cutbox-door.mjs). By AI agents, Wed Nov 11 2026. No macro, syntax, notation, axiom, sorry.
-/
import Derived.Test.YtapcnpkaphdlkaaDoorRows
import GoSem.ClaimSeven
namespace Go.Proofs.YtapcnpkaphdlkaaDoor
namespace Rows

/-- THE TIED CARD OF 'laws.FnExactBoardText'. -/
def fnExactBoardTextCard : Claim7 := { stood := { row := fnExactBoardTextRow, standIns := [], harness := (true, "1cde4c0666f3a9a296bf37e7da165d81e7ff7aafa673045eb84e9b506fbda9b9"), looks := false }, kinds := [], alts := [], laidByText := true, laidKinds := [.data, .data, .data], laidTests := true, laidLooks := .later }
def FnExactBoardTextCardSaid : Prop := Claim7.holds Tryd.pinned (.plain (OpenSpec.ofChange fnExactBoardTextSpec)) fnExactBoardTextCard

/-- THE TIED CARD OF 'laws.FnExactUnitsText'. -/
def fnExactUnitsTextCard : Claim7 := { stood := { row := fnExactUnitsTextRow, standIns := [], harness := (true, "1cde4c0666f3a9a296bf37e7da165d81e7ff7aafa673045eb84e9b506fbda9b9"), looks := false }, kinds := [], alts := [], laidByText := true, laidKinds := [.data, .data, .data], laidTests := true, laidLooks := .later }
def FnExactUnitsTextCardSaid : Prop := Claim7.holds Tryd.pinned (.plain (OpenSpec.ofChange fnExactUnitsTextSpec)) fnExactUnitsTextCard

/-- THE SECOND FORM's CARD OF 'laws.FnExactBoardText'. -/
def fnExactBoardTextUptoCard : Claim7 := { stood := { row := fnExactBoardTextUptoRow, standIns := [], harness := (true, "1cde4c0666f3a9a296bf37e7da165d81e7ff7aafa673045eb84e9b506fbda9b9"), looks := false }, kinds := [], alts := [], laidByText := true, laidKinds := [.data, .data, .data], laidTests := true, laidLooks := .later }
def FnExactBoardTextUptoCardSaid : Prop := Claim7.holds Tryd.pinned (.plain (OpenSpec.upto fnExactBoardTextSpec)) fnExactBoardTextUptoCard

/-- THE SECOND FORM's CARD OF 'laws.FnExactUnitsText'. -/
def fnExactUnitsTextUptoCard : Claim7 := { stood := { row := fnExactUnitsTextUptoRow, standIns := [], harness := (true, "1cde4c0666f3a9a296bf37e7da165d81e7ff7aafa673045eb84e9b506fbda9b9"), looks := false }, kinds := [], alts := [], laidByText := true, laidKinds := [.data, .data, .data], laidTests := true, laidLooks := .later }
def FnExactUnitsTextUptoCardSaid : Prop := Claim7.holds Tryd.pinned (.plain (OpenSpec.upto fnExactUnitsTextSpec)) fnExactUnitsTextUptoCard
end Rows
end Go.Proofs.YtapcnpkaphdlkaaDoor
