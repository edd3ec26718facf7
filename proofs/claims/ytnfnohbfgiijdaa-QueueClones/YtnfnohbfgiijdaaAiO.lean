/- That the model's operations do what 'ares' says: zero values, literals, slices, appends, calls. -/
import Derived.Test.YtnfnohbfgiijdaaAiN
set_option linter.unusedSimpArgs false
set_option linter.unusedVariables false
namespace Go.AI

section
variable {P : Program} {F : Nat → Prop} {G : Gh} {w : World} {H : Heap} {R : AV → Heap → Prop}

theorem VRel.constT (G : Gh) (w : World) (ty : Option TypeId) (v : Value) : VRel G w (constT P ty v) v := by
  unfold Go.AI.constT
  split
  · exact .slnil _
  · exact VRel.const1 G w v

theorem tok_constT (ty : Option TypeId) (v u : Value) (h : u = v) : tok (constT P ty v, u) = none := by
  subst h
  unfold constT
  split
  · cases nilOwn P ty <;> rfl
  · exact tok_owned1 (const1_owned1 _) _

theorem Cells.constT (cs : List Value) (tys : List TypeId) (k : Nat) (hs : ((cs.zipIdx k).map fun (c, i) => Go.AI.constT P tys[i]? c).all AV.scalar = true) :
    Cells F G w ((cs.zipIdx k).map fun (c, i) => Go.AI.constT P tys[i]? c) cs ∧ ctoks ((cs.zipIdx k).map fun (c, i) => Go.AI.constT P tys[i]? c) cs = [] := by
  induction cs generalizing k with
  | nil => exact ⟨.nil, rfl⟩
  | cons c cs ih =>
    simp only [List.zipIdx_cons, List.map_cons, List.all_cons, Bool.and_eq_true] at hs ⊢
    obtain ⟨h1, h2⟩ := ih (k + 1) hs.2
    refine ⟨?_, ?_⟩
    · have one : Cells F G w [Go.AI.constT P tys[k]? c] [c] := ⟨rfl, fun i x y hx hy => by
        cases i with
        | zero => simp at hx hy; subst hx; subst hy; exact ⟨hs.1, VRel.constT G w _ c, TokOk.of_none (tok_constT _ c c rfl)⟩
        | succ i => simp at hx⟩
      exact one.append h1
    · simp only [ctoks, List.zip_cons_cons, List.filterMap_cons, tok_constT _ c c rfl]
      exact h2

theorem zero_sem {t : TypeId} {z : AV} (h : zeroAV P t = some z) : ∃ zv, (∀ w, (zeroValue t).run P w = .ok zv w) ∧ z.isVal = true ∧
    (∀ (F : Nat → Prop) (G : Gh) (w : World), Cells F G w z.cells zv.cells.toList) ∧ ctoks z.cells zv.cells.toList = [] := by
  unfold zeroAV at h
  split at h
  · rename_i cs hz
    split at h
    · rename_i hs
      cases h
      cases hi : P.info? t with
      | none => rw [hi] at hz; cases hz
      | some i =>
        rw [hi] at hz
        have hz' : i.zero = some (.agg cs) := hz
        refine ⟨.agg cs, fun w => by simp [zeroValue, typeInfo, hi, hz'], rfl, fun F G w => ?_, ?_⟩
        · exact (Cells.constT (F := F) (G := G) (w := w) cs.toList (leafTys P 20 t) 0 hs).1
        · exact (Cells.constT (F := fun _ => False) (G := ⟨[], fun _ => .imm⟩) (w := default) cs.toList (leafTys P 20 t) 0 hs).2
    · cases h
  · rename_i zv hne hz
    split at h
    · rename_i hs
      cases h
      cases hi : P.info? t with
      | none => rw [hi] at hz; cases hz
      | some i =>
        rw [hi] at hz
        have hz' : i.zero = some zv := hz
        have hval : (Go.AI.constT P (some t) zv).isVal = true := by
          generalize Go.AI.constT P (some t) zv = c at hs
          cases c <;> first | rfl | cases hs
        have h1 : (Go.AI.constT P (some t) zv).cells = [Go.AI.constT P (some t) zv] := by
          generalize Go.AI.constT P (some t) zv = c at hs
          cases c <;> first | rfl | cases hs
        have h2 : zv.cells.toList = [zv] := by
          have := VRel.constT (P := P) ⟨[], fun _ => .imm⟩ default (some t) zv
          generalize Go.AI.constT P (some t) zv = c at hs this
          cases this <;> first | rfl | cases hs
        refine ⟨zv, fun w => by simp [zeroValue, typeInfo, hi, hz'], hval, fun F G w => ?_, ?_⟩
        · rw [h1, h2]
          exact ⟨rfl, fun i x y hx hy => by
            cases i with
            | zero => simp at hx hy; subst hx; subst hy; exact ⟨hs, VRel.constT G w _ zv, TokOk.of_none (tok_constT _ zv zv rfl)⟩
            | succ i => simp at hx⟩
        · rw [h1, h2]
          simp [ctoks, tok_constT _ zv zv rfl]
    · cases h
  · cases h

end
end Go.AI
