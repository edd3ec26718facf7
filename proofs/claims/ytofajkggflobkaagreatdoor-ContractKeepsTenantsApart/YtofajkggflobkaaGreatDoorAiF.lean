/- The operations one by one: pure ones, loads, stores, new objects. -/
import Derived.Test.YtofajkggflobkaaGreatDoorAiE
set_option linter.unusedSimpArgs false
set_option linter.unusedVariables false
namespace Go.AI
def OpRes (P : Program) (r : Result Next) (K : Value -> World -> Prop) : Prop :=
 match r with
 | .ok (.value u) w' => K u w'
 | .ok .skip w' => K Go.undef w'
 | .ok (.enter f args) w' => Calls P f args w' fun e w'' => ∃ u,e = .returned u /\ K u w''
 | .ok (.round l f tmps assign body) w' => RoundIn Fence.wide 0 P l f tmps assign body w' fun e w'' => ∃ u,e = .returned u /\ K u w''
 | _ => False
def KOut (F : Nat -> Prop) (G : Gh) (w : World) (R : AV -> Heap -> Prop) (u : Value) (w' : World) : Prop :=
 ∃ v H' G',R v H' /\ CRel F G' [v] H' [u] w' /\ Ext F G w G' w'
section
variable {F : Nat -> Prop} {G : Gh} {w : World} {H : Heap} {vals : List AV} {us : List Value}
theorem CRel.one (h : CRel F G vals H us w) {v : AV} {u : Value} (hv : VRel G w v u) (ht : ∀ p ∈ prs v u,TokOk F G w p) (hc : ∀ b,(toks v u).count b <= tcnt b vals us) : CRel F G [v] H [u] w :=
 ⟨.cons hv ht (.nil F G w),h.h,fun b => by
  have h1:=h.cnt b
  have h2:=hc b
  rw [tcnt_cons,tcnt_nil]
  omega⟩
theorem CRel.plain (h : CRel F G vals H us w) {v : AV} {u : Value} (hv : VRel G w v u) (ht : toks v u = []) : CRel F G [v] H [u] w :=
 h.one hv (tok_nil_all ht F G w) fun b => by rw [ht]; simp
theorem KOut.plain {R : AV -> Heap -> Prop} (h : CRel F G vals H us w) {v : AV} {u : Value} (hR : R v H) (hv : VRel G w v u) (ht : toks v u = []) : KOut F G w R u w :=
 ⟨v,H,G,hR,h.plain hv ht,.refl F G w⟩
theorem CRel.get (h : CRel F G vals H us w) {i : Nat} {v : AV} {u : Value} (h1 : vals[i]? = some v) (h2 : us[i]? = some u) : CRel F G [v] H [u] w :=
 h.one (h.l.rel i v u h1 h2) (h.l.tok i v u h1 h2) fun b => count_le_tcnt b vals us i v u h1 h2
theorem toks_scalar {v : AV} (h : owned1 v = false) (hs : v.scalar = true) (u : Value) : toks v u = []:=toks_of fun c hc u' => by
 cases v <;> simp only [AV.flat,AV.cells,List.mem_singleton] at hc <;> first | (subst hc; exact tok_owned1 h u') | cases hs
def CellsAt (G : Gh) (w : World) (cs : List AV) (b q : Nat) : Prop :=
 ∀ (i : Nat) (c : AV),cs[i]? = some c -> c.scalar = true /\ ∃ v,w.cell? ⟨b,q + i,none⟩ = some v /\ VRel G w c v
theorem underlying_info {P : Program} {t : TypeId} {d : TypeDesc} (h : P.underlying t = some d) : ∃ i,P.info? t = some i:=by
 unfold Program.underlying at h
 split at h
 ·exact ⟨_,‹_›⟩
 ·exact ⟨_,‹_›⟩
 ·cases h
theorem run_sizeOf {P : Program} {t : TypeId} {d : TypeDesc} (h : P.underlying t = some d) (w : World) : (sizeOf t).run P w = .ok (P.cellsOf t) w:=by
 obtain ⟨i,hi⟩:=underlying_info h
 simp [sizeOf,typeInfo,hi,Program.cellsOf]
theorem addr_add (b q i : Nat) : (⟨b,q,none⟩ : Addr).add i = ⟨b,q + i,none⟩:=by
 unfold Addr.add
 split
 ·rename_i h; subst h; rfl
 ·rfl
theorem take_drop_get {α : Type} (l : List α) (off k i : Nat) (hi : i < k) : ((l.drop off).take k)[i]? = l[off + i]?:=by
 rw [List.getElem?_take,if_pos hi,List.getElem?_drop]
theorem ldv_sem {P : Program} {t : TypeId} {cs : List AV} {off b q : Nat} {v : AV} (hl : ldv P t cs off = some v) (hc : CellsAt G w cs b q) :
  ∃ u,(loadVar t ⟨b,q + off,none⟩).run P w = .ok u w /\ VRel G w v u /\ v.isVal = true /\
   (∀ (i : Nat) (c : AV) (x : Value),v.cells[i]? = some c -> u.cells[i]? = some x -> cs[off + i]? = some c /\ w.cell? ⟨b,q + (off + i),none⟩ = some x) /\ v.flat = v.cells /\ vflat u = u.cells.toList:=by
 have agg : ∀ d,P.underlying t = some d -> (isAgg t).run P w = .ok true w -> off + P.cellsOf t <= cs.length -> v = .agg ((cs.drop off).take (P.cellsOf t)) ->
   ∃ u,(loadVar t ⟨b,q + off,none⟩).run P w = .ok u w /\ VRel G w v u /\ v.isVal = true /\
   (∀ (i : Nat) (c : AV) (x : Value),v.cells[i]? = some c -> u.cells[i]? = some x -> cs[off + i]? = some c /\ w.cell? ⟨b,q + (off + i),none⟩ = some x) /\ v.flat = v.cells /\ vflat u = u.cells.toList:=by
  intro d hu hagg hlen hv
  subst hv
  have key : ∀ i,i < P.cellsOf t -> ∃ c x,cs[off + i]? = some c /\ c.scalar = true /\ w.cell? ⟨b,q + (off + i),none⟩ = some x /\ VRel G w c x:=by
   intro i hi
   have : off + i < cs.length:=by omega
   obtain ⟨h1,x,h2,h3⟩:=hc (off + i) cs[off + i] (List.getElem?_eq_getElem this)
   exact ⟨cs[off + i],x,List.getElem?_eq_getElem this,h1,h2,h3⟩
  let f : Nat -> Value:=fun i => (w.cell? ⟨b,q + (off + i),none⟩).getD Go.undef
  have hf : ∀ i,i < P.cellsOf t -> w.cell? ⟨b,q + (off + i),none⟩ = some (f i):=by
   intro i hi
   obtain ⟨c,x,_,_,h,_⟩:=key i hi
   simp [f,h]
  have hld:=run_loadCells (P:=P) (w:=w) ⟨b,q + off,none⟩ (P.cellsOf t) f (fun j hj => by rw [addr_add,Nat.add_assoc]; exact hf j hj)
  refine ⟨.agg ((List.range (P.cellsOf t)).map f).toArray, ?_,.agg _ _ (by simp; omega) ?_ ?_,rfl, ?_,rfl,rfl⟩
  ·simp only [loadVar,Sem.run_bind,hagg,Result.andThen_ok,run_sizeOf hu,Sem.run_ite]
   simp [hld]
  ·intro c hc'
   obtain ⟨i,hi⟩:=List.getElem?_of_mem hc'
   have hi' : i < P.cellsOf t:=by
    have:=(List.getElem?_eq_some_iff.1 hi).1
    simp at this; omega
   rw [take_drop_get _ _ _ _ hi'] at hi
   obtain ⟨c',x,h1,h2,_⟩:=key i hi'
   rw [h1] at hi; cases hi; exact h2
  ·intro i c x hi hx
   have hi' : i < P.cellsOf t:=by
    have:=(List.getElem?_eq_some_iff.1 hi).1
    simp at this; omega
   rw [take_drop_get _ _ _ _ hi'] at hi
   obtain ⟨c',x',h1,h2,h3,h4⟩:=key i hi'
   rw [h1] at hi; cases hi
   have : x = x':=by
    simp [hi'] at hx
    subst hx
    simp [f,h3]
   subst this; exact h4
  ·intro i c x hi hx
   simp only [AV.cells] at hi
   simp only [Value.cells] at hx
   have hi' : i < P.cellsOf t:=by
    have:=(List.getElem?_eq_some_iff.1 hi).1
    simp at this; omega
   rw [take_drop_get _ _ _ _ hi'] at hi
   refine ⟨hi, ?_⟩
   simp [hi'] at hx
   subst hx
   exact hf i hi'
 unfold ldv at hl
 split at hl
 ·rename_i fs hu
  split at hl
  ·rename_i hlen
   cases hl
   exact agg _ hu (by simp [isAgg,run_underlying hu]) hlen rfl
  ·cases hl
 ·rename_i n e hu
  split at hl
  ·rename_i hlen
   cases hl
   exact agg _ hu (by simp [isAgg,run_underlying hu]) hlen rfl
  ·cases hl
 ·rename_i d hns hna hu
  obtain ⟨h1,u,h2,h3⟩:=hc off v hl
  have hagg : (isAgg t).run P w = .ok false w:=by
   simp only [isAgg,Sem.run_bind,run_underlying hu,Result.andThen_ok]
   cases d <;> first | rfl | exact absurd hu (hns _) | exact absurd hu (hna _ _)
  have hcells : v.cells = [v]:=by cases v <;> first | rfl | cases h1
  have hflat : v.flat = [v]:=by cases v <;> first | rfl | cases h1
  have hucells : u.cells = #[u]:=by
   cases h3 <;> first | rfl | cases h1
  have huflat : vflat u = [u]:=by cases h3 <;> first | rfl | cases h1
  have hisv : v.isVal = true:=by cases v <;> first | rfl | cases h1
  have e1 : v.flat = v.cells:=by rw [hflat,hcells]
  have e2 : vflat u = u.cells.toList:=by rw [huflat,hucells]
  refine ⟨u, ?_,h3,hisv, ?_,e1,e2⟩
  ·simp only [loadVar,Sem.run_bind,hagg,Result.andThen_ok,Sem.run_ite]
   simp [h2]
  ·intro i c x hi hx
   rw [hcells] at hi
   rw [hucells] at hx
   cases i with
   | zero => simp at hi hx; subst hi; subst hx; exact ⟨hl,h2⟩
   | succ i => simp at hi
 ·cases hl
theorem cellsAt_of_cptr {cs : List AV} {off : Nat} {u : Value} (h : VRel G w (.cptr cs off) u) : ∃ b q,u = .pointer (some ⟨b,q + off,none⟩) /\ CellsAt G w cs b q:=by
 cases h with
 | cptr cs off b q u h hu => exact ⟨b,q,rfl,fun i c hi => ⟨(h i c hi).1,u i,(h i c hi).2.2,hu i c hi⟩⟩
theorem cellsAt_of_obj {cs : List AV} {b : Nat} {C0 : Array Value} {E0 : TypeId} {fr : Nat × Nat} (hb : w.heap[b]? = some (.cells C0 E0 fr)) (h : ORel F G w cs b) : CellsAt G w cs b 0:=by
 obtain ⟨C,E,h1,h2,h3⟩:=(h.of_cells hb).2
 intro i c hi
 have hlt : i < C.size:=by have:=(List.getElem?_eq_some_iff.1 hi).1; omega
 obtain ⟨g1,g2,_⟩:=h3 i c C[i] hi (Array.getElem?_eq_getElem hlt)
 exact ⟨g1,C[i],by rw [Nat.zero_add,cell_of_row w b i C E _ h1,Array.getElem?_eq_getElem hlt],g2⟩
end
end Go.AI
