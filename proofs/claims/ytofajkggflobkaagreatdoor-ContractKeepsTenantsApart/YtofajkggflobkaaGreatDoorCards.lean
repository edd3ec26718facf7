/-
  DERIVED. GIVEN WITH THE SEED: THE CARDS: each row of YtofajkggflobkaaGreatDoorRows.lean that lists a variable, with what it lists TIED to the program's text (the seventh form; the later family's looks); each row that meets fmt, with fmt's text TOLD by the authors' own Lean function (tested against real Go, not proved from fmt's source: count such statements apart). THE CARD IS WHAT COUNTS. Prove the row's statement (the work); the ties are given (YtofajkggflobkaaGreatDoorTie.lean); close each card by the builder's one call (the guide's Derived/Test/ToyasCard.lean, 'card_holds'). Laid BY PROGRAM, IN A SANDBOX (cutbox-door.mjs). By AI agents, Wed Nov 11 2026. No macro, syntax, notation, axiom, sorry.
-/
import Derived.Test.YtofajkggflobkaaGreatDoorRows
import GoSem.ClaimSeven
namespace Go.Proofs.YtofajkggflobkaaGreatDoor
namespace Rows

/-- THE TIED CARD OF 'interlacelaw19.ContractKeepsTenantsApart'. -/
def contractKeepsTenantsApartCard : Claim7 := { stood := { row := contractKeepsTenantsApartRow, standIns := [], harness := (true, "545642c5c6815a602ebece45e891479af01a386a8e83b9d8874f97e2f5df8763"), looks := false }, kinds := [], alts := [], laidByText := true, laidKinds := [.widerDeep], laidTests := true, laidLooks := .later }
def ContractKeepsTenantsApartCardSaid : Prop := Claim7.holds Tryz.pinned (.plain (OpenSpec.ofChange contractKeepsTenantsApartSpec)) contractKeepsTenantsApartCard

/-- THE SECOND FORM's CARD OF 'interlacelaw19.ContractKeepsTenantsApart'. -/
def contractKeepsTenantsApartUptoCard : Claim7 := { stood := { row := contractKeepsTenantsApartUptoRow, standIns := [], harness := (true, "545642c5c6815a602ebece45e891479af01a386a8e83b9d8874f97e2f5df8763"), looks := false }, kinds := [], alts := [], laidByText := true, laidKinds := [.widerDeep], laidTests := true, laidLooks := .later }
def ContractKeepsTenantsApartUptoCardSaid : Prop := Claim7.holds Tryz.pinned (.plain (OpenSpec.upto contractKeepsTenantsApartSpec)) contractKeepsTenantsApartUptoCard
end Rows
end Go.Proofs.YtofajkggflobkaaGreatDoor
