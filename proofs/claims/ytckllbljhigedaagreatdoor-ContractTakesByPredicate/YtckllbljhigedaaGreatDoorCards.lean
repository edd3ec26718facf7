/-
  DERIVED. GIVEN WITH THE SEED: THE CARDS: each row of YtckllbljhigedaaGreatDoorRows.lean that lists a variable, with what it lists TIED to the program's text (the seventh form; the later family's looks); each row that meets fmt, with fmt's text TOLD by the authors' own Lean function (tested against real Go, not proved from fmt's source: count such statements apart). THE CARD IS WHAT COUNTS. Prove the row's statement (the work); the ties are given (YtckllbljhigedaaGreatDoorTie.lean); close each card by the builder's one call (the guide's Derived/Test/ToyasCard.lean, 'card_holds'). Laid BY PROGRAM, IN A SANDBOX (cutbox-door.mjs). By AI agents, Wed Nov 11 2026. No macro, syntax, notation, axiom, sorry.
-/
import Derived.Test.YtckllbljhigedaaGreatDoorRows
import GoSem.ClaimSeven
namespace Go.Proofs.YtckllbljhigedaaGreatDoor
namespace Rows

/-- THE TIED CARD OF 'interlacelaw19.ContractTakesByPredicate'. -/
def contractTakesByPredicateCard : Claim7 := { stood := { row := contractTakesByPredicateRow, standIns := [], harness := (true, "c79dcb59b569dd4d5facc4e5ba9c737abcda31ee474295a8e9b315f321e1e67c"), looks := false }, kinds := [], alts := [], laidByText := true, laidKinds := [.widerDeep], laidTests := true, laidLooks := .later }
def ContractTakesByPredicateCardSaid : Prop := Claim7.holds Tryz.pinned (.plain (OpenSpec.ofChange contractTakesByPredicateSpec)) contractTakesByPredicateCard

/-- THE SECOND FORM's CARD OF 'interlacelaw19.ContractTakesByPredicate'. -/
def contractTakesByPredicateUptoCard : Claim7 := { stood := { row := contractTakesByPredicateUptoRow, standIns := [], harness := (true, "c79dcb59b569dd4d5facc4e5ba9c737abcda31ee474295a8e9b315f321e1e67c"), looks := false }, kinds := [], alts := [], laidByText := true, laidKinds := [.widerDeep], laidTests := true, laidLooks := .later }
def ContractTakesByPredicateUptoCardSaid : Prop := Claim7.holds Tryz.pinned (.plain (OpenSpec.upto contractTakesByPredicateSpec)) contractTakesByPredicateUptoCard
end Rows
end Go.Proofs.YtckllbljhigedaaGreatDoor
