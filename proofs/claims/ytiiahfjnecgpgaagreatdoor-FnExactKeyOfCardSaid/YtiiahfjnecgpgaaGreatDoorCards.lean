/-
  DERIVED. GIVEN WITH THE SEED: THE CARDS: each row of YtiiahfjnecgpgaaGreatDoorRows.lean that lists a variable, with what it lists TIED to the program's text (the seventh form; the later family's looks); each row that meets fmt, with fmt's text TOLD by the authors' own Lean function (tested against real Go, not proved from fmt's source: count such statements apart). THE CARD IS WHAT COUNTS. Prove the row's statement (the work); the ties are given (YtiiahfjnecgpgaaGreatDoorTie.lean); close each card by the builder's one call (the guide's Derived/Test/ToyasCard.lean, 'card_holds'). Laid BY PROGRAM, IN A SANDBOX (cutbox-door.mjs). By AI agents, Wed Nov 11 2026. No macro, syntax, notation, axiom, sorry.
-/
import Derived.Test.YtiiahfjnecgpgaaGreatDoorRows
import GoSem.ClaimSeven
namespace Go.Proofs.YtiiahfjnecgpgaaGreatDoor
namespace Rows

/-- THE TIED CARD OF 'laws.FnExactKeyOf'. -/
def fnExactKeyOfCard : Claim7 := { stood := { row := fnExactKeyOfRow, standIns := [], harness := (true, "1a1385d5dee66b097d972348d1f8ba65fa8ae93e544fc31702f48597d3ce4e9c"), looks := false }, kinds := [], alts := [], laidByText := true, laidKinds := [.data, .data, .data], laidTests := true, laidLooks := .later }
def FnExactKeyOfCardSaid : Prop := Claim7.holds Tryz.pinned (.plain (OpenSpec.ofChange fnExactKeyOfSpec)) fnExactKeyOfCard

/-- THE SECOND FORM's CARD OF 'laws.FnExactKeyOf'. -/
def fnExactKeyOfUptoCard : Claim7 := { stood := { row := fnExactKeyOfUptoRow, standIns := [], harness := (true, "1a1385d5dee66b097d972348d1f8ba65fa8ae93e544fc31702f48597d3ce4e9c"), looks := false }, kinds := [], alts := [], laidByText := true, laidKinds := [.data, .data, .data], laidTests := true, laidLooks := .later }
def FnExactKeyOfUptoCardSaid : Prop := Claim7.holds Tryz.pinned (.plain (OpenSpec.upto fnExactKeyOfSpec)) fnExactKeyOfUptoCard
end Rows
end Go.Proofs.YtiiahfjnecgpgaaGreatDoor
