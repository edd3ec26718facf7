/-
  No cell of these rows narrows 'for every input' (looked for: loops, veiled, ifaces, maps, wideKeys, modest, calm, conditions, laid).
  DERIVED. THE GIVEN ROWS OF THIS SEAT. 6 by the template 'for every input the law returns true; each argument reads behind the call as it read before'; 0 by the template 'total and deterministic' (their statements: YtnfnohbfgiijdaaTotals.lean).
  GIVEN WITH THE SEED: the statements are not yours to turn. If you find one false, say at which input.
  Laid BY PROGRAM, IN A SANDBOX (cutbox-rows.mjs): the forced cells as the released guide's own fill.sh prints them over the translation 8689f89be7b04e4d… (all of the seat's roots in one cut). By AI agents, Wed Nov 11 2026. No macro, syntax, notation, axiom, sorry.
-/
import Derived.Test.YtnfnohbfgiijdaaChecked
import GoSem.Claim
import GoSem.ClaimJoined
import GoSem.ClaimMapViews
import Derived.JoinedTies
import Derived.KernelRfl
namespace Go.Proofs.Ytnfnohbfgiijdaa
/- THE CELL 'sum', in the pinned program and in every row, IS THE sha256 OF THE DUMP (.gsa) THAT YtnfnohbfgiijdaaProg.lean LOADS. Nothing in Lean hashes anything: it is a label: what it is worth is what the hold of that sum in a sandbox is worth. -/
noncomputable def Try.pinned : Pinned := { name := "ytnfnohbfgiijdaa", sum := "8689f89be7b04e4db53bb6ee4d5c9ecaefb0ebb969a107467aef8c1ce71cd3d1", checked := Try.checked }
namespace Rows
def none {H : Type} : Left H := { results := [], args := [] }

/-- 'interlacelaw43.QueueMatchesSpec': WHATEVER THE INPUT: true; the input reads as it did. -/
def queueMatchesSpecSpec : ChangeSpec := { name := "queueMatchesSpec", fn := fun _ => fun
  | [d] => { results := [.lit (.bool true)], args := [d] }
  | _ => none }
def queueMatchesSpecRow : OpenClaim := { program := "ytnfnohbfgiijdaa", sum := "8689f89be7b04e4db53bb6ee4d5c9ecaefb0ebb969a107467aef8c1ce71cd3d1", func := "interlace/interlacelaw43.QueueMatchesSpec", spec := "queueMatchesSpec", unfollowed := true, recurses := true, apart := false }
def QueueMatchesSpecSaid : Prop := queueMatchesSpecRow.holds Try.pinned (OpenSpec.ofChange queueMatchesSpecSpec)

/-- ITS FALSE NEIGHBOUR: 'it returns false'. Refute it at one input. -/
def queueMatchesSpecWrong : ChangeSpec := { name := "queueMatchesSpec", fn := fun _ => fun
  | [d] => { results := [.lit (.bool false)], args := [d] }
  | _ => none }
def QueueMatchesSpecWrongFalsely : Prop := queueMatchesSpecRow.holds Try.pinned (OpenSpec.ofChange queueMatchesSpecWrong)

/-- 'interlacelaw43.QueueKeepsOrder': WHATEVER THE INPUT: true; the input reads as it did. -/
def queueKeepsOrderSpec : ChangeSpec := { name := "queueKeepsOrder", fn := fun _ => fun
  | [d] => { results := [.lit (.bool true)], args := [d] }
  | _ => none }
def queueKeepsOrderRow : OpenClaim := { program := "ytnfnohbfgiijdaa", sum := "8689f89be7b04e4db53bb6ee4d5c9ecaefb0ebb969a107467aef8c1ce71cd3d1", func := "interlace/interlacelaw43.QueueKeepsOrder", spec := "queueKeepsOrder", unfollowed := true, recurses := true, apart := false }
def QueueKeepsOrderSaid : Prop := queueKeepsOrderRow.holds Try.pinned (OpenSpec.ofChange queueKeepsOrderSpec)

/-- ITS FALSE NEIGHBOUR: 'it returns false'. Refute it at one input. -/
def queueKeepsOrderWrong : ChangeSpec := { name := "queueKeepsOrder", fn := fun _ => fun
  | [d] => { results := [.lit (.bool false)], args := [d] }
  | _ => none }
def QueueKeepsOrderWrongFalsely : Prop := queueKeepsOrderRow.holds Try.pinned (OpenSpec.ofChange queueKeepsOrderWrong)

/-- 'interlacelaw43.QueueBoundsRate': WHATEVER THE INPUT: true; the input reads as it did. -/
def queueBoundsRateSpec : ChangeSpec := { name := "queueBoundsRate", fn := fun _ => fun
  | [d1, d2, d3] => { results := [.lit (.bool true)], args := [d1, d2, d3] }
  | _ => none }
def queueBoundsRateRow : OpenClaim := { program := "ytnfnohbfgiijdaa", sum := "8689f89be7b04e4db53bb6ee4d5c9ecaefb0ebb969a107467aef8c1ce71cd3d1", func := "interlace/interlacelaw43.QueueBoundsRate", spec := "queueBoundsRate", unfollowed := true, recurses := true, apart := false }
def QueueBoundsRateSaid : Prop := queueBoundsRateRow.holds Try.pinned (OpenSpec.ofChange queueBoundsRateSpec)

/-- ITS FALSE NEIGHBOUR: 'it returns false'. Refute it at one input. -/
def queueBoundsRateWrong : ChangeSpec := { name := "queueBoundsRate", fn := fun _ => fun
  | [d1, d2, d3] => { results := [.lit (.bool false)], args := [d1, d2, d3] }
  | _ => none }
def QueueBoundsRateWrongFalsely : Prop := queueBoundsRateRow.holds Try.pinned (OpenSpec.ofChange queueBoundsRateWrong)

/-- 'interlacelaw43.QueueArrivesInTime': WHATEVER THE INPUT: true; the input reads as it did. -/
def queueArrivesInTimeSpec : ChangeSpec := { name := "queueArrivesInTime", fn := fun _ => fun
  | [d1, d2, d3] => { results := [.lit (.bool true)], args := [d1, d2, d3] }
  | _ => none }
def queueArrivesInTimeRow : OpenClaim := { program := "ytnfnohbfgiijdaa", sum := "8689f89be7b04e4db53bb6ee4d5c9ecaefb0ebb969a107467aef8c1ce71cd3d1", func := "interlace/interlacelaw43.QueueArrivesInTime", spec := "queueArrivesInTime", unfollowed := true, recurses := true, apart := false }
def QueueArrivesInTimeSaid : Prop := queueArrivesInTimeRow.holds Try.pinned (OpenSpec.ofChange queueArrivesInTimeSpec)

/-- ITS FALSE NEIGHBOUR: 'it returns false'. Refute it at one input. -/
def queueArrivesInTimeWrong : ChangeSpec := { name := "queueArrivesInTime", fn := fun _ => fun
  | [d1, d2, d3] => { results := [.lit (.bool false)], args := [d1, d2, d3] }
  | _ => none }
def QueueArrivesInTimeWrongFalsely : Prop := queueArrivesInTimeRow.holds Try.pinned (OpenSpec.ofChange queueArrivesInTimeWrong)

/-- 'interlacelaw43.QueueLinksAreApart': WHATEVER THE INPUT: true; the input reads as it did. -/
def queueLinksAreApartSpec : ChangeSpec := { name := "queueLinksAreApart", fn := fun _ => fun
  | [d1, d2] => { results := [.lit (.bool true)], args := [d1, d2] }
  | _ => none }
def queueLinksAreApartRow : OpenClaim := { program := "ytnfnohbfgiijdaa", sum := "8689f89be7b04e4db53bb6ee4d5c9ecaefb0ebb969a107467aef8c1ce71cd3d1", func := "interlace/interlacelaw43.QueueLinksAreApart", spec := "queueLinksAreApart", unfollowed := true, recurses := true, apart := false }
def QueueLinksAreApartSaid : Prop := queueLinksAreApartRow.holds Try.pinned (OpenSpec.ofChange queueLinksAreApartSpec)

/-- ITS FALSE NEIGHBOUR: 'it returns false'. Refute it at one input. -/
def queueLinksAreApartWrong : ChangeSpec := { name := "queueLinksAreApart", fn := fun _ => fun
  | [d1, d2] => { results := [.lit (.bool false)], args := [d1, d2] }
  | _ => none }
def QueueLinksAreApartWrongFalsely : Prop := queueLinksAreApartRow.holds Try.pinned (OpenSpec.ofChange queueLinksAreApartWrong)

/-- 'interlacelaw43.QueueClones': WHATEVER THE INPUT: true; the input reads as it did. -/
def queueClonesSpec : ChangeSpec := { name := "queueClones", fn := fun _ => fun
  | [d1, d2] => { results := [.lit (.bool true)], args := [d1, d2] }
  | _ => none }
def queueClonesRow : OpenClaim := { program := "ytnfnohbfgiijdaa", sum := "8689f89be7b04e4db53bb6ee4d5c9ecaefb0ebb969a107467aef8c1ce71cd3d1", func := "interlace/interlacelaw43.QueueClones", spec := "queueClones", unfollowed := true, recurses := true, apart := false }
def QueueClonesSaid : Prop := queueClonesRow.holds Try.pinned (OpenSpec.ofChange queueClonesSpec)

/-- ITS FALSE NEIGHBOUR: 'it returns false'. Refute it at one input. -/
def queueClonesWrong : ChangeSpec := { name := "queueClones", fn := fun _ => fun
  | [d1, d2] => { results := [.lit (.bool false)], args := [d1, d2] }
  | _ => none }
def QueueClonesWrongFalsely : Prop := queueClonesRow.holds Try.pinned (OpenSpec.ofChange queueClonesWrong)

/- THE SECOND FORM. 'bulk': how many values and letters a reading holds, each counted each time it is reached (what is shared counts as often as it is met; a slice's spare places count too). A statement '..UptoSaid' is the law's where the arguments, and the package variables that the reading takes, are together of bulk at most 1048576: NARROWER than '..Said'. Prove '..Said' where nothing that the law and all that it calls make is longer than what came in: it says more and counts as full. Else prove '..UptoSaid'. A law counts once. -/
mutual
def uptoBulk {H : Type} : DataW H → Nat
  | .lit (.string bytes) => bytes.length + 1
  | .lit _ => 1
  | .nil => 1
  | .ptr d => uptoBulk d + 1
  | .slice elems spare => uptoBulkAll elems + uptoBulkAll spare + 1
  | .agg parts => uptoBulkAll parts + 1
  | .iface _ d => uptoBulk d + 1
  | .map entries => uptoBulkEntries entries + 1
  | .held _ => 1
def uptoBulkAll {H : Type} : List (DataW H) → Nat
  | [] => 0
  | d :: r => uptoBulk d + uptoBulkAll r
def uptoBulkEntries {H : Type} : List (Lit × DataW H) → Nat
  | [] => 0
  | x :: r => uptoBulkEntry x + uptoBulkEntries r
def uptoBulkEntry {H : Type} : Lit × DataW H → Nat
  | (.string bytes, d) => bytes.length + uptoBulk d + 1
  | (_, d) => uptoBulk d + 1
 end
def uptoSmall : (H : Type) → List (DataW H) → Bool := fun _ ds => decide (uptoBulkAll ds ≤ 1048576)
def OpenSpec.upto (s : _root_.Go.ChangeSpec) : _root_.Go.OpenSpec := { _root_.Go.OpenSpec.ofChange s with cond := some uptoSmall }

/-- 'interlacelaw43.QueueMatchesSpec', WHERE WHAT IT READS IS OF BULK AT MOST 1048576: true; the input reads as it did. -/
def queueMatchesSpecUptoRow : OpenClaim := { program := "ytnfnohbfgiijdaa", sum := "8689f89be7b04e4db53bb6ee4d5c9ecaefb0ebb969a107467aef8c1ce71cd3d1", func := "interlace/interlacelaw43.QueueMatchesSpec", spec := "queueMatchesSpec", unfollowed := true, recurses := true, apart := false, narrowed := true }
def QueueMatchesSpecUptoSaid : Prop := queueMatchesSpecUptoRow.holds Try.pinned (OpenSpec.upto queueMatchesSpecSpec)

/-- 'interlacelaw43.QueueKeepsOrder', WHERE WHAT IT READS IS OF BULK AT MOST 1048576: true; the input reads as it did. -/
def queueKeepsOrderUptoRow : OpenClaim := { program := "ytnfnohbfgiijdaa", sum := "8689f89be7b04e4db53bb6ee4d5c9ecaefb0ebb969a107467aef8c1ce71cd3d1", func := "interlace/interlacelaw43.QueueKeepsOrder", spec := "queueKeepsOrder", unfollowed := true, recurses := true, apart := false, narrowed := true }
def QueueKeepsOrderUptoSaid : Prop := queueKeepsOrderUptoRow.holds Try.pinned (OpenSpec.upto queueKeepsOrderSpec)

/-- 'interlacelaw43.QueueBoundsRate', WHERE WHAT IT READS IS OF BULK AT MOST 1048576: true; the input reads as it did. -/
def queueBoundsRateUptoRow : OpenClaim := { program := "ytnfnohbfgiijdaa", sum := "8689f89be7b04e4db53bb6ee4d5c9ecaefb0ebb969a107467aef8c1ce71cd3d1", func := "interlace/interlacelaw43.QueueBoundsRate", spec := "queueBoundsRate", unfollowed := true, recurses := true, apart := false, narrowed := true }
def QueueBoundsRateUptoSaid : Prop := queueBoundsRateUptoRow.holds Try.pinned (OpenSpec.upto queueBoundsRateSpec)

/-- 'interlacelaw43.QueueArrivesInTime', WHERE WHAT IT READS IS OF BULK AT MOST 1048576: true; the input reads as it did. -/
def queueArrivesInTimeUptoRow : OpenClaim := { program := "ytnfnohbfgiijdaa", sum := "8689f89be7b04e4db53bb6ee4d5c9ecaefb0ebb969a107467aef8c1ce71cd3d1", func := "interlace/interlacelaw43.QueueArrivesInTime", spec := "queueArrivesInTime", unfollowed := true, recurses := true, apart := false, narrowed := true }
def QueueArrivesInTimeUptoSaid : Prop := queueArrivesInTimeUptoRow.holds Try.pinned (OpenSpec.upto queueArrivesInTimeSpec)

/-- 'interlacelaw43.QueueLinksAreApart', WHERE WHAT IT READS IS OF BULK AT MOST 1048576: true; the input reads as it did. -/
def queueLinksAreApartUptoRow : OpenClaim := { program := "ytnfnohbfgiijdaa", sum := "8689f89be7b04e4db53bb6ee4d5c9ecaefb0ebb969a107467aef8c1ce71cd3d1", func := "interlace/interlacelaw43.QueueLinksAreApart", spec := "queueLinksAreApart", unfollowed := true, recurses := true, apart := false, narrowed := true }
def QueueLinksAreApartUptoSaid : Prop := queueLinksAreApartUptoRow.holds Try.pinned (OpenSpec.upto queueLinksAreApartSpec)

/-- 'interlacelaw43.QueueClones', WHERE WHAT IT READS IS OF BULK AT MOST 1048576: true; the input reads as it did. -/
def queueClonesUptoRow : OpenClaim := { program := "ytnfnohbfgiijdaa", sum := "8689f89be7b04e4db53bb6ee4d5c9ecaefb0ebb969a107467aef8c1ce71cd3d1", func := "interlace/interlacelaw43.QueueClones", spec := "queueClones", unfollowed := true, recurses := true, apart := false, narrowed := true }
def QueueClonesUptoSaid : Prop := queueClonesUptoRow.holds Try.pinned (OpenSpec.upto queueClonesSpec)

end Rows
end Go.Proofs.Ytnfnohbfgiijdaa
