/-
  DERIVED. GIVEN WITH THE SEED: THE CARDS: each row of YtmejnbhofjcibaaGreatDoorRows.lean that lists a variable, with what it lists TIED to the program's text (the seventh form; the later family's looks); each row that meets fmt, with fmt's text TOLD by the authors' own Lean function (tested against real Go, not proved from fmt's source: count such statements apart). THE CARD IS WHAT COUNTS. Prove the row's statement (the work); the ties are given (YtmejnbhofjcibaaGreatDoorTie.lean); close each card by the builder's one call (the guide's Derived/Test/ToyasCard.lean, 'card_holds'). Laid BY PROGRAM, IN A SANDBOX (cutbox-door.mjs). By AI agents, Wed Nov 11 2026. No macro, syntax, notation, axiom, sorry.
-/
import Derived.Test.YtmejnbhofjcibaaGreatDoorRows
import GoSem.ClaimSeven
namespace Go.Proofs.YtmejnbhofjcibaaGreatDoor
namespace Rows

/-- THE TIED CARD OF 'interlacelaw19.ContractDependsOnViews'. -/
def contractDependsOnViewsCard : Claim7 := { stood := { row := contractDependsOnViewsRow, standIns := [], harness := (true, "1c85df6f421713f719ca01ceb2c2cab0e2eb6f057501c52c842c16b3ba6703e8"), looks := false }, kinds := [], alts := [], laidByText := true, laidKinds := [.widerDeep], laidTests := true, laidLooks := .later }
def ContractDependsOnViewsCardSaid : Prop := Claim7.holds Tryz.pinned (.plain (OpenSpec.ofChange contractDependsOnViewsSpec)) contractDependsOnViewsCard

/-- THE SECOND FORM's CARD OF 'interlacelaw19.ContractDependsOnViews'. -/
def contractDependsOnViewsUptoCard : Claim7 := { stood := { row := contractDependsOnViewsUptoRow, standIns := [], harness := (true, "1c85df6f421713f719ca01ceb2c2cab0e2eb6f057501c52c842c16b3ba6703e8"), looks := false }, kinds := [], alts := [], laidByText := true, laidKinds := [.widerDeep], laidTests := true, laidLooks := .later }
def ContractDependsOnViewsUptoCardSaid : Prop := Claim7.holds Tryz.pinned (.plain (OpenSpec.upto contractDependsOnViewsSpec)) contractDependsOnViewsUptoCard
end Rows
end Go.Proofs.YtmejnbhofjcibaaGreatDoor
