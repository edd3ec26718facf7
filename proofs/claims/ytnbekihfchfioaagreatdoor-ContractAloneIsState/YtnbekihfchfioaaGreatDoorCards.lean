/-
  DERIVED. GIVEN WITH THE SEED: THE CARDS: each row of YtnbekihfchfioaaGreatDoorRows.lean that lists a variable, with what it lists TIED to the program's text (the seventh form; the later family's looks); each row that meets fmt, with fmt's text TOLD by the authors' own Lean function (tested against real Go, not proved from fmt's source: count such statements apart). THE CARD IS WHAT COUNTS. Prove the row's statement (the work); the ties are given (YtnbekihfchfioaaGreatDoorTie.lean); close each card by the builder's one call (the guide's Derived/Test/ToyasCard.lean, 'card_holds'). Laid BY PROGRAM, IN A SANDBOX (cutbox-door.mjs). By AI agents, Wed Nov 11 2026. No macro, syntax, notation, axiom, sorry.
-/
import Derived.Test.YtnbekihfchfioaaGreatDoorRows
import GoSem.ClaimSeven
namespace Go.Proofs.YtnbekihfchfioaaGreatDoor
namespace Rows

/-- THE TIED CARD OF 'interlacelaw19.ContractAloneIsState'. -/
def contractAloneIsStateCard : Claim7 := { stood := { row := contractAloneIsStateRow, standIns := [], harness := (true, "3526f8a4effea8078ad7a1448af7b619cb4275011072d8d89186aa917cc4fc70"), looks := false }, kinds := [], alts := [], laidByText := true, laidKinds := [.widerDeep], laidTests := true, laidLooks := .later }
def ContractAloneIsStateCardSaid : Prop := Claim7.holds Tryz.pinned (.plain (OpenSpec.ofChange contractAloneIsStateSpec)) contractAloneIsStateCard

/-- THE SECOND FORM's CARD OF 'interlacelaw19.ContractAloneIsState'. -/
def contractAloneIsStateUptoCard : Claim7 := { stood := { row := contractAloneIsStateUptoRow, standIns := [], harness := (true, "3526f8a4effea8078ad7a1448af7b619cb4275011072d8d89186aa917cc4fc70"), looks := false }, kinds := [], alts := [], laidByText := true, laidKinds := [.widerDeep], laidTests := true, laidLooks := .later }
def ContractAloneIsStateUptoCardSaid : Prop := Claim7.holds Tryz.pinned (.plain (OpenSpec.upto contractAloneIsStateSpec)) contractAloneIsStateUptoCard
end Rows
end Go.Proofs.YtnbekihfchfioaaGreatDoor
