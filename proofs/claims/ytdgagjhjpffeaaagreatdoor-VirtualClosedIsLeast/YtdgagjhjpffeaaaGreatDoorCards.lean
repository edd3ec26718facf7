/-
  DERIVED. GIVEN WITH THE SEED: THE CARDS: each row of YtdgagjhjpffeaaaGreatDoorRows.lean that lists a variable, with what it lists TIED to the program's text (the seventh form; the later family's looks); each row that meets fmt, with fmt's text TOLD by the authors' own Lean function (tested against real Go, not proved from fmt's source: count such statements apart). THE CARD IS WHAT COUNTS. Prove the row's statement (the work); the ties are given (YtdgagjhjpffeaaaGreatDoorTie.lean); close each card by the builder's one call (the guide's Derived/Test/ToyasCard.lean, 'card_holds'). Laid BY PROGRAM, IN A SANDBOX (cutbox-door.mjs). By AI agents, Wed Nov 11 2026. No macro, syntax, notation, axiom, sorry.
-/
import Derived.Test.YtdgagjhjpffeaaaGreatDoorRows
import GoSem.ClaimSeven
namespace Go.Proofs.YtdgagjhjpffeaaaGreatDoor
namespace Rows

/-- THE TIED CARD OF 'interlacelaw18.VirtualChecksMatchSpec'. -/
def virtualChecksMatchSpecCard : Claim7 := { stood := { row := virtualChecksMatchSpecRow, standIns := [], harness := (true, "c6e324a3bd0127b120c1eb447a2118fede8f504bd754a9cdce502ada1e41be0c"), looks := false }, kinds := [], alts := [], laidByText := true, laidKinds := [.widerDeep], laidTests := true, laidLooks := .later }
def VirtualChecksMatchSpecCardSaid : Prop := Claim7.holds Tryz.pinned (.plain (OpenSpec.ofChange virtualChecksMatchSpecSpec)) virtualChecksMatchSpecCard

/-- THE TIED CARD OF 'interlacelaw18.VirtualViewsMatchSpec'. -/
def virtualViewsMatchSpecCard : Claim7 := { stood := { row := virtualViewsMatchSpecRow, standIns := [], harness := (true, "c6e324a3bd0127b120c1eb447a2118fede8f504bd754a9cdce502ada1e41be0c"), looks := false }, kinds := [], alts := [], laidByText := true, laidKinds := [.widerDeep], laidTests := true, laidLooks := .later }
def VirtualViewsMatchSpecCardSaid : Prop := Claim7.holds Tryz.pinned (.plain (OpenSpec.ofChange virtualViewsMatchSpecSpec)) virtualViewsMatchSpecCard

/-- THE TIED CARD OF 'interlacelaw18.VirtualViewsAreInverse'. -/
def virtualViewsAreInverseCard : Claim7 := { stood := { row := virtualViewsAreInverseRow, standIns := [], harness := (true, "c6e324a3bd0127b120c1eb447a2118fede8f504bd754a9cdce502ada1e41be0c"), looks := false }, kinds := [], alts := [], laidByText := true, laidKinds := [.widerDeep], laidTests := true, laidLooks := .later }
def VirtualViewsAreInverseCardSaid : Prop := Claim7.holds Tryz.pinned (.plain (OpenSpec.ofChange virtualViewsAreInverseSpec)) virtualViewsAreInverseCard

/-- THE TIED CARD OF 'interlacelaw18.VirtualBuildsAsSpecified'. -/
def virtualBuildsAsSpecifiedCard : Claim7 := { stood := { row := virtualBuildsAsSpecifiedRow, standIns := [], harness := (true, "c6e324a3bd0127b120c1eb447a2118fede8f504bd754a9cdce502ada1e41be0c"), looks := false }, kinds := [], alts := [], laidByText := true, laidKinds := [.widerDeep], laidTests := true, laidLooks := .later }
def VirtualBuildsAsSpecifiedCardSaid : Prop := Claim7.holds Tryz.pinned (.plain (OpenSpec.ofChange virtualBuildsAsSpecifiedSpec)) virtualBuildsAsSpecifiedCard

/-- THE TIED CARD OF 'interlacelaw18.VirtualWholeFits'. -/
def virtualWholeFitsCard : Claim7 := { stood := { row := virtualWholeFitsRow, standIns := [], harness := (true, "c6e324a3bd0127b120c1eb447a2118fede8f504bd754a9cdce502ada1e41be0c"), looks := false }, kinds := [], alts := [], laidByText := true, laidKinds := [.widerDeep], laidTests := true, laidLooks := .later }
def VirtualWholeFitsCardSaid : Prop := Claim7.holds Tryz.pinned (.plain (OpenSpec.ofChange virtualWholeFitsSpec)) virtualWholeFitsCard

/-- THE TIED CARD OF 'interlacelaw18.VirtualClosedIsLeast'. -/
def virtualClosedIsLeastCard : Claim7 := { stood := { row := virtualClosedIsLeastRow, standIns := [], harness := (true, "c6e324a3bd0127b120c1eb447a2118fede8f504bd754a9cdce502ada1e41be0c"), looks := false }, kinds := [], alts := [], laidByText := true, laidKinds := [.widerDeep], laidTests := true, laidLooks := .later }
def VirtualClosedIsLeastCardSaid : Prop := Claim7.holds Tryz.pinned (.plain (OpenSpec.ofChange virtualClosedIsLeastSpec)) virtualClosedIsLeastCard

/-- THE SECOND FORM's CARD OF 'interlacelaw18.VirtualChecksMatchSpec'. -/
def virtualChecksMatchSpecUptoCard : Claim7 := { stood := { row := virtualChecksMatchSpecUptoRow, standIns := [], harness := (true, "c6e324a3bd0127b120c1eb447a2118fede8f504bd754a9cdce502ada1e41be0c"), looks := false }, kinds := [], alts := [], laidByText := true, laidKinds := [.widerDeep], laidTests := true, laidLooks := .later }
def VirtualChecksMatchSpecUptoCardSaid : Prop := Claim7.holds Tryz.pinned (.plain (OpenSpec.upto virtualChecksMatchSpecSpec)) virtualChecksMatchSpecUptoCard

/-- THE SECOND FORM's CARD OF 'interlacelaw18.VirtualViewsMatchSpec'. -/
def virtualViewsMatchSpecUptoCard : Claim7 := { stood := { row := virtualViewsMatchSpecUptoRow, standIns := [], harness := (true, "c6e324a3bd0127b120c1eb447a2118fede8f504bd754a9cdce502ada1e41be0c"), looks := false }, kinds := [], alts := [], laidByText := true, laidKinds := [.widerDeep], laidTests := true, laidLooks := .later }
def VirtualViewsMatchSpecUptoCardSaid : Prop := Claim7.holds Tryz.pinned (.plain (OpenSpec.upto virtualViewsMatchSpecSpec)) virtualViewsMatchSpecUptoCard

/-- THE SECOND FORM's CARD OF 'interlacelaw18.VirtualViewsAreInverse'. -/
def virtualViewsAreInverseUptoCard : Claim7 := { stood := { row := virtualViewsAreInverseUptoRow, standIns := [], harness := (true, "c6e324a3bd0127b120c1eb447a2118fede8f504bd754a9cdce502ada1e41be0c"), looks := false }, kinds := [], alts := [], laidByText := true, laidKinds := [.widerDeep], laidTests := true, laidLooks := .later }
def VirtualViewsAreInverseUptoCardSaid : Prop := Claim7.holds Tryz.pinned (.plain (OpenSpec.upto virtualViewsAreInverseSpec)) virtualViewsAreInverseUptoCard

/-- THE SECOND FORM's CARD OF 'interlacelaw18.VirtualBuildsAsSpecified'. -/
def virtualBuildsAsSpecifiedUptoCard : Claim7 := { stood := { row := virtualBuildsAsSpecifiedUptoRow, standIns := [], harness := (true, "c6e324a3bd0127b120c1eb447a2118fede8f504bd754a9cdce502ada1e41be0c"), looks := false }, kinds := [], alts := [], laidByText := true, laidKinds := [.widerDeep], laidTests := true, laidLooks := .later }
def VirtualBuildsAsSpecifiedUptoCardSaid : Prop := Claim7.holds Tryz.pinned (.plain (OpenSpec.upto virtualBuildsAsSpecifiedSpec)) virtualBuildsAsSpecifiedUptoCard

/-- THE SECOND FORM's CARD OF 'interlacelaw18.VirtualWholeFits'. -/
def virtualWholeFitsUptoCard : Claim7 := { stood := { row := virtualWholeFitsUptoRow, standIns := [], harness := (true, "c6e324a3bd0127b120c1eb447a2118fede8f504bd754a9cdce502ada1e41be0c"), looks := false }, kinds := [], alts := [], laidByText := true, laidKinds := [.widerDeep], laidTests := true, laidLooks := .later }
def VirtualWholeFitsUptoCardSaid : Prop := Claim7.holds Tryz.pinned (.plain (OpenSpec.upto virtualWholeFitsSpec)) virtualWholeFitsUptoCard

/-- THE SECOND FORM's CARD OF 'interlacelaw18.VirtualClosedIsLeast'. -/
def virtualClosedIsLeastUptoCard : Claim7 := { stood := { row := virtualClosedIsLeastUptoRow, standIns := [], harness := (true, "c6e324a3bd0127b120c1eb447a2118fede8f504bd754a9cdce502ada1e41be0c"), looks := false }, kinds := [], alts := [], laidByText := true, laidKinds := [.widerDeep], laidTests := true, laidLooks := .later }
def VirtualClosedIsLeastUptoCardSaid : Prop := Claim7.holds Tryz.pinned (.plain (OpenSpec.upto virtualClosedIsLeastSpec)) virtualClosedIsLeastUptoCard
end Rows
end Go.Proofs.YtdgagjhjpffeaaaGreatDoor
