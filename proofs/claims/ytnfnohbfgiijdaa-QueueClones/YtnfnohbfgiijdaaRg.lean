/- Proved: interlacelaw43.QueueClones returns true for every input, and the input reads as it did. No conditions. -/
import Derived.Test.YtnfnohbfgiijdaaRows
import Derived.Test.YtnfnohbfgiijdaaMQza
import Derived.ProofKit
set_option linter.unusedSimpArgs false
set_option linter.unusedVariables false
namespace Go.Proofs.Ytnfnohbfgiijdaa
open Go.ChangeShapes Go.WideShapes Go.ChangeAt Go.RowKit Go.AI

theorem own_ok : ownKnob Try.prog.godebug = none := by kernel_rfl
theorem laid_ok : laidOutB Try.prog = true := by kernel_rfl

/-- The types that the arguments are made of. -/
def argTypes : List TypeId := [30, 26, 27, 3, 28, 22, 23, 24, 111, 65, 114, 47, 45, 43, 9, 4, 5]

theorem Case_small {c : Case} (h : c.ok) : c.n.small := by
  obtain ⟨⟨h1, _, h3⟩, _⟩ := h
  have hr : reachBytes ≤ 1000000000000000 := by decide
  exact ⟨fun x hx => Nat.le_trans (h1.2 x hx).1 hr, fun x hx => Nat.le_trans (h3.2 x hx).1 hr⟩

theorem queueClones_lifted (os : Os) (started : os.Started) (H : Type) (enc : TypeId × Value → H) :
    ReturnsInHanded {} Try.checked os 8 .any (Rows.queueClonesSpec.pre6 enc Try.prog Try.f8 Rows.queueClonesRow.domain false) (Rows.queueClonesSpec.post enc Try.prog Try.f8 false true false false) := by
  refine law_lift (C := Try.checked) argTypes own_ok started (by kernel_rfl) Try.func8
    (ChangeSpec.witness6 (enc := enc) (C := Try.checked) false ⟨#[], #[.agg #[.slice none 0 0, .slice none 0 0, .slice none 0 0, .slice none 0 0, .int .i64 0, .slice none 0 0], .int .u8 0], []⟩ 8 (by kernel_rfl) (by kernel_rfl) (by kernel_rfl) (by kernel_rfl))
    laid_ok (by kernel_rfl) (of_decide_eq_true (by kernel_rfl)) rfl (by kernel_rfl) rfl ?_ ?_
  · intro H ds hd
    match ds, hd with
    | [d1, d2], _ => rfl
  · intro vs hvs
    match vs, hvs with
    | [a, b], ⟨h1, h2, _⟩ =>
      obtain ⟨c, rfl, hc⟩ := Case.rd h1
      obtain ⟨nb, rfl, hub⟩ := Rd.int_of (k := .u8) (by kernel_rfl) h2
      exact f8_c c (Case_small hc) nb hub

theorem queueClones_holds : Rows.QueueClonesSaid :=
  OpenClaim.holds_of_wide 8 Try.f8 rfl rfl rfl rfl rfl rfl rfl ⟨rfl, rfl, rfl, rfl, rfl⟩ rfl rfl rfl rfl rfl (by kernel_rfl) Try.func8 (by kernel_rfl)
    (of_decide_eq_true (by kernel_rfl)) (by unfold Func.isWrapper; first | (rw [if_pos (by decide +kernel)]; kernel_rfl) | (rw [if_neg (by decide +kernel)]; exact ⟨rfl, rfl⟩))
    (fun os started H enc _ => queueClones_lifted os started H enc)

end Go.Proofs.Ytnfnohbfgiijdaa
