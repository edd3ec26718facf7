/- An abstract object that is written no more becomes a fixed block: its slices become lists. -/
import Derived.Test.YtnfnohbfgiijdaaAiW
set_option linter.unusedSimpArgs false
set_option linter.unusedVariables false
namespace Go.AI

section
variable {P : Program} {F : Nat → Prop} {G : Gh} {w : World} {H : Heap} {n : Nat} {env : Env} {a : Act} {vals : List AV} {us : List Value}

/-- What a slice of an object is, once the object is fixed. -/
theorem VRel.frozen (h : CRel F G vals H us w) {ob b off len sz : Nat} {cs : List AV} {u : Value} (ho : H[ob]? = some (some cs)) (hb : G.obs[ob]? = some b) (hv : VRel G w (.msl ob off len sz) u) (hle : off + len * sz ≤ cs.length)
    (ag : Bool) (hs : ag = true ∨ sz = 1) : VRel (G.setKind b .imm) w (.sl none (chunk ag sz len ((cs.drop off).map Go.AI.borrow1))) u := by
  have hext := (h.freeze ho hb).2
  have hobj := h.h.obj ob cs b ho hb
  obtain ⟨C, E, hrow, hlC, hC⟩ := hobj.row
  generalize hx : AV.msl ob off len sz = x at hv
  cases hv <;> cases hx
  rename_i b0 cap hcap hob hlcap hcc
  rw [hb] at hob
  cases hob
  have hcs : ∀ c ∈ (cs.drop off).map Go.AI.borrow1, c.scalar = true := fun c hm => by
    obtain ⟨c0, hc0, rfl⟩ := List.mem_map.1 hm
    obtain ⟨i, hi⟩ := List.getElem?_of_mem hc0
    rw [List.getElem?_drop] at hi
    have hlt : off + i < C.size := Nat.lt_of_lt_of_le (List.getElem?_eq_some_iff.1 hi).1 hlC
    rw [scalar_borrow1]
    exact (hC _ _ _ hi (Array.getElem?_eq_getElem hlt)).1
  obtain ⟨k1, k2⟩ := chunk_cells ag sz hs len ((cs.drop off).map Go.AI.borrow1) (by simp; omega) hcs
  have e := chunk_length ag sz len ((cs.drop off).map Go.AI.borrow1)
  have key : ∀ (i : Nat) (c : AV), (cat (chunk ag sz len ((cs.drop off).map Go.AI.borrow1)))[i]? = some c → c.scalar = true ∧ ∃ v, C[off + i]? = some v ∧ VRel (G.setKind b .imm) w c v := fun i c hi => by
    rw [k1] at hi
    have hi' : ((cs.drop off).map Go.AI.borrow1)[i]? = some c := by
      rw [List.getElem?_take] at hi
      split at hi
      · exact hi
      · cases hi
    rw [List.getElem?_map, List.getElem?_drop] at hi'
    cases hc0 : cs[off + i]? with
    | none => rw [hc0] at hi'; cases hi'
    | some c0 =>
      rw [hc0] at hi'
      cases hi'
      have hlt : off + i < C.size := Nat.lt_of_lt_of_le (List.getElem?_eq_some_iff.1 hc0).1 hlC
      have := hC _ _ _ hc0 (Array.getElem?_eq_getElem hlt)
      exact ⟨(scalar_borrow1 c0).trans this.1, _, Array.getElem?_eq_getElem hlt, (this.2.1.keep hext.keeps).borrow1⟩
  have hres := VRel.sl (G := G.setKind b .imm) (w := w) none (chunk ag sz len ((cs.drop off).map Go.AI.borrow1)) sz b off cap (fun i => (C[off + i]?).getD Go.undef) k2 (by intro n hn; cases hn) (by rw [e]; exact hlcap) (by assumption)
    (fun i c hi => by
      obtain ⟨g1, v, g2, g3⟩ := key i c hi
      refine ⟨g1, ?_, ?_⟩
      · unfold Gh.safe
        rw [G.kind_set]
        trivial
      · rw [g2]
        simp only [Option.getD_some]
        simp [World.cell?, hrow, g2])
    (fun i c hi => by
      obtain ⟨g1, v, g2, g3⟩ := key i c hi
      rw [g2]
      exact g3)
  rw [e] at hres
  exact hres

end
end Go.AI
