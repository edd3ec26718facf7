/-
  DERIVED. GIVEN WITH THE SEED: THE CARDS: each row of YtceafgmgdhcioaaGreatDoorRows.lean that lists a variable, with what it lists TIED to the program's text (the seventh form; the later family's looks); each row that meets fmt, with fmt's text TOLD by the authors' own Lean function (tested against real Go, not proved from fmt's source: count such statements apart). THE CARD IS WHAT COUNTS. Prove the row's statement (the work); the ties are given (YtceafgmgdhcioaaGreatDoorTie.lean); close each card by the builder's one call (the guide's Derived/Test/ToyasCard.lean, 'card_holds'). Laid BY PROGRAM, IN A SANDBOX (cutbox-door.mjs). By AI agents, Wed Nov 11 2026. No macro, syntax, notation, axiom, sorry.
-/
import Derived.Test.YtceafgmgdhcioaaGreatDoorRows
import GoSem.ClaimSeven
namespace Go.Proofs.YtceafgmgdhcioaaGreatDoor
namespace Rows

/-- THE TIED CARD OF 'interlacelaw19.ContractKnowsChains'. -/
def contractKnowsChainsCard : Claim7 := { stood := { row := contractKnowsChainsRow, standIns := [], harness := (true, "267c6e9151a56f8a2f2e5227dc9036c28b36fa7af079a2799f6275fcb9a0dea7"), looks := false }, kinds := [], alts := [], laidByText := true, laidKinds := [.widerDeep], laidTests := true, laidLooks := .later }
def ContractKnowsChainsCardSaid : Prop := Claim7.holds Tryz.pinned (.plain (OpenSpec.ofChange contractKnowsChainsSpec)) contractKnowsChainsCard

/-- THE SECOND FORM's CARD OF 'interlacelaw19.ContractKnowsChains'. -/
def contractKnowsChainsUptoCard : Claim7 := { stood := { row := contractKnowsChainsUptoRow, standIns := [], harness := (true, "267c6e9151a56f8a2f2e5227dc9036c28b36fa7af079a2799f6275fcb9a0dea7"), looks := false }, kinds := [], alts := [], laidByText := true, laidKinds := [.widerDeep], laidTests := true, laidLooks := .later }
def ContractKnowsChainsUptoCardSaid : Prop := Claim7.holds Tryz.pinned (.plain (OpenSpec.upto contractKnowsChainsSpec)) contractKnowsChainsUptoCard
end Rows
end Go.Proofs.YtceafgmgdhcioaaGreatDoor
