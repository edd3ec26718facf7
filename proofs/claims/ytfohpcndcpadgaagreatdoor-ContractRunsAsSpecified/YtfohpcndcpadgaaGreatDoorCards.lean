/-
  DERIVED. GIVEN WITH THE SEED: THE CARDS: each row of YtfohpcndcpadgaaGreatDoorRows.lean that lists a variable, with what it lists TIED to the program's text (the seventh form; the later family's looks); each row that meets fmt, with fmt's text TOLD by the authors' own Lean function (tested against real Go, not proved from fmt's source: count such statements apart). THE CARD IS WHAT COUNTS. Prove the row's statement (the work); the ties are given (YtfohpcndcpadgaaGreatDoorTie.lean); close each card by the builder's one call (the guide's Derived/Test/ToyasCard.lean, 'card_holds'). Laid BY PROGRAM, IN A SANDBOX (cutbox-door.mjs). By AI agents, Wed Nov 11 2026. No macro, syntax, notation, axiom, sorry.
-/
import Derived.Test.YtfohpcndcpadgaaGreatDoorRows
import GoSem.ClaimSeven
namespace Go.Proofs.YtfohpcndcpadgaaGreatDoor
namespace Rows

/-- THE TIED CARD OF 'interlacelaw19.ContractRunsAsSpecified'. -/
def contractRunsAsSpecifiedCard : Claim7 := { stood := { row := contractRunsAsSpecifiedRow, standIns := [], harness := (true, "a37b57d85a73ae22fbe1fa5056133c4ce4d31d92e3571efed15e59ffe7481787"), looks := false }, kinds := [], alts := [], laidByText := true, laidKinds := [.widerDeep], laidTests := true, laidLooks := .later }
def ContractRunsAsSpecifiedCardSaid : Prop := Claim7.holds Tryz.pinned (.plain (OpenSpec.ofChange contractRunsAsSpecifiedSpec)) contractRunsAsSpecifiedCard

/-- THE SECOND FORM's CARD OF 'interlacelaw19.ContractRunsAsSpecified'. -/
def contractRunsAsSpecifiedUptoCard : Claim7 := { stood := { row := contractRunsAsSpecifiedUptoRow, standIns := [], harness := (true, "a37b57d85a73ae22fbe1fa5056133c4ce4d31d92e3571efed15e59ffe7481787"), looks := false }, kinds := [], alts := [], laidByText := true, laidKinds := [.widerDeep], laidTests := true, laidLooks := .later }
def ContractRunsAsSpecifiedUptoCardSaid : Prop := Claim7.holds Tryz.pinned (.plain (OpenSpec.upto contractRunsAsSpecifiedSpec)) contractRunsAsSpecifiedUptoCard
end Rows
end Go.Proofs.YtfohpcndcpadgaaGreatDoor
