/-
  DERIVED. GIVEN WITH THE SEED: THE CARDS: each row of YtebladleneahcaaGreatDoorRows.lean that lists a variable, with what it lists TIED to the program's text (the seventh form; the later family's looks); each row that meets fmt, with fmt's text TOLD by the authors' own Lean function (tested against real Go, not proved from fmt's source: count such statements apart). THE CARD IS WHAT COUNTS. Prove the row's statement (the work); the ties are given (YtebladleneahcaaGreatDoorTie.lean); close each card by the builder's one call (the guide's Derived/Test/ToyasCard.lean, 'card_holds'). Laid BY PROGRAM, IN A SANDBOX (cutbox-door.mjs). By AI agents, Wed Nov 11 2026. No macro, syntax, notation, axiom, sorry.
-/
import Derived.Test.YtebladleneahcaaGreatDoorRows
import GoSem.ClaimSeven
namespace Go.Proofs.YtebladleneahcaaGreatDoor
namespace Rows

/-- THE TIED CARD OF 'interlacelaw19.ContractOrderIsFree'. -/
def contractOrderIsFreeCard : Claim7 := { stood := { row := contractOrderIsFreeRow, standIns := [], harness := (true, "2a0ee7697d83f7deeb65d0073696fa04e4c8d97cb57c625afb0e5c9396477dba"), looks := false }, kinds := [], alts := [], laidByText := true, laidKinds := [.widerDeep], laidTests := true, laidLooks := .later }
def ContractOrderIsFreeCardSaid : Prop := Claim7.holds Tryz.pinned (.plain (OpenSpec.ofChange contractOrderIsFreeSpec)) contractOrderIsFreeCard

/-- THE SECOND FORM's CARD OF 'interlacelaw19.ContractOrderIsFree'. -/
def contractOrderIsFreeUptoCard : Claim7 := { stood := { row := contractOrderIsFreeUptoRow, standIns := [], harness := (true, "2a0ee7697d83f7deeb65d0073696fa04e4c8d97cb57c625afb0e5c9396477dba"), looks := false }, kinds := [], alts := [], laidByText := true, laidKinds := [.widerDeep], laidTests := true, laidLooks := .later }
def ContractOrderIsFreeUptoCardSaid : Prop := Claim7.holds Tryz.pinned (.plain (OpenSpec.upto contractOrderIsFreeSpec)) contractOrderIsFreeUptoCard
end Rows
end Go.Proofs.YtebladleneahcaaGreatDoor
