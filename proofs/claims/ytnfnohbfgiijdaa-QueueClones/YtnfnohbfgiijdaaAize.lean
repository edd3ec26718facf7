/- Contracts made handier: objects that nobody can reach any more are dropped at the end of the heap; arguments may be lent. -/
import Derived.Test.YtnfnohbfgiijdaaAizd
set_option linter.unusedSimpArgs false
set_option linter.unusedVariables false
namespace Go.AI

section
variable {P : Program} {F : Nat → Prop} {G : Gh} {w : World}

/-- What lies behind H1 is dropped. -/
theorem ACall.gc {f : FuncId} {vs : List AV} {H : Heap} {R : AV → Heap → Prop} (hn : ∀ v H1, R v H1 → H.length ≤ H1.length)
    (h : ACall P f vs H fun v H' => ∃ H1 junk, H' = H1 ++ junk ∧ v.bnd H1.length = true ∧ closedH H1 ∧ R v H1) : ACall P f vs H R :=
  ⟨h.1, fun F G w us hc => Calls.mono (h.2 F G w us hc) fun e w' he => by
    obtain ⟨u, rfl, v, H', G', ⟨H1, junk, rfl, h1, h2, h3⟩, hcr, hext⟩ := he
    refine ⟨u, rfl, v, H1, G'.cut H1.length, h3, hcr.cut h1 h2, hext.size, ⟨fun o b ho => ?_, hext.keeps.shape, hext.keeps.safe⟩, hext.kind, hext.cells, hext.io⟩
    have hlt : o < H.length := by rw [← hc.h.len]; exact (List.getElem?_eq_some_iff.1 ho).1
    have := hn v H1 h3
    show (G'.obs.take H1.length)[o]? = some b
    rw [List.getElem?_take_of_lt (by omega)]
    exact hext.keeps.obs o b ho⟩

theorem CRel.lend {vs : List AV} {H : Heap} {us : List Value} (h : CRel F G vs H us w) : CRel F G (vs.map AV.borrow) H us w := by
  refine ⟨⟨by simpa using h.l.len, fun i a u h1 h2 => ?_, fun i a u h1 h2 => ?_⟩, h.h, fun b => ?_⟩
  · rw [List.getElem?_map] at h1
    cases hi : vs[i]? with
    | none => rw [hi] at h1; cases h1
    | some x => rw [hi] at h1; cases h1; exact (h.l.rel i x u hi h2).borrow
  · rw [List.getElem?_map] at h1
    cases hi : vs[i]? with
    | none => rw [hi] at h1; cases h1
    | some x => rw [hi] at h1; cases h1; exact tok_nil_all (toks_borrow _ _) F G w
  · have h0 : tcnt b (vs.map AV.borrow) us = 0 := by
      have : ∀ (l : List AV) (us : List Value), tcnt b (l.map AV.borrow) us = 0 := by
        intro l
        induction l with
        | nil => intro us; exact tcnt_nil b us
        | cons x xs ih =>
          intro us
          cases us with
          | nil => simp [tcnt]
          | cons u us => rw [List.map_cons, tcnt_cons, toks_borrow, ih]; rfl
      exact this vs us
    have := h.cnt b
    omega

/-- A contract for arguments without the right to append serves for all. -/
theorem ACall.lend {f : FuncId} {vs : List AV} {H : Heap} {R : AV → Heap → Prop} (h : ACall P f (vs.map AV.borrow) H R) : ACall P f vs H R :=
  ⟨h.1, fun F G w us hc => h.2 F G w us hc.lend⟩

theorem QCall.lend {f : FuncId} {vs : List AV} {Q : AV → Prop} (h : QCall P f (vs.map AV.borrow) Q) : QCall P f vs Q := fun H => (h H).lend

theorem PCall.lend {f : FuncId} {vs : List AV} {v : AV} (h : PCall P f (vs.map AV.borrow) v) : PCall P f vs v := fun H => (h H).lend

theorem ACall.of_pure {f : FuncId} {vs : List AV} {v : AV} {H : Heap} {R : AV → Heap → Prop} (h : PCall P f vs v) (hr : R v H) : ACall P f vs H R :=
  (h H).mono fun v' H' hq => by obtain ⟨rfl, rfl⟩ := hq; exact hr

end
end Go.AI
