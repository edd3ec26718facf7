/- What an operation hangs on: its operands alone, or the objects as well; and what it turns. -/
import Derived.Test.YtdgagjhjpffeaaaGreatDoorAiT
set_option linter.unusedSimpArgs false
set_option linter.unusedVariables false
namespace Go.AI
def cls (h : Hint) (o : Oper) : Nat :=
 match o.op with
 | .box _ _ | .alloc _ | .makeSlice _ _ _ | .makeMap _ _ => 5
 | .store _ _ _ | .lookup _ _ _ _ | .mapUpdate _ _ _ _ => 3
 | .buildSlice _ _ _ => if o.dst.any h.mt.contains then 5 else 0
 | .slice _ _ _ _ _ => if o.dst.any h.mt.contains then 1 else 0
 | .load _ _ => if o.dst.any h.tk.contains then 2 else 1
 | .binOp _ _ _ y _ => if nilSide y then 4 else 0
 | .range _ _ | .next _ _ | .entry _ => 4
 | .call c => match c.callee with
  | .value _ => if o.dst.any h.pc.contains then (if o.dst.any h.mt.contains then 1 else 0) else if o.dst.any h.mt.contains then 5 else 4
  | .builtin .append => if o.dst.any h.mt.contains || o.dst.any h.tk.contains then 3 else 0
  | .builtin .clear => 3
  | _ => 0
 | _ => 0
def isLd (h : Hint) (o : Oper) : Bool:=match o.op with
 | .load _ _ => !o.dst.any h.tk.contains
 | _ => false
theorem isLd_cls {h : Hint} {o : Oper} (hl : isLd h o = true) : cls h o = 1:=by
 unfold isLd at hl
 unfold cls
 split at hl
 ·rename_i heq
  rw [heq]
  simp only [Bool.not_eq_true'] at hl
  simp [hl]
 ·cases hl
section
variable {P : Program} {h : Hint} {o : Oper} {vals : List AV} {H : Heap} {R : AV -> Heap -> Prop}
structure Fact (P : Program) (h : Hint) (o : Oper) (vals : List AV) (H : Heap) (v : AV) (H' : Heap) : Prop where
 again : ∀ R',R' v H' -> ares P h o vals H R'
 c0 : cls h o = 0 -> H' = H /\ ∀ H2 R',R' v H2 -> ares P h o vals H2 R'
 c1 : cls h o = 1 -> H' = H /\ ∀ H2 R',hview H2 = hview H -> R' v H2 -> ares P h o vals H2 R'
 c2 : cls h o = 2 -> hview H' = hview H /\ ((H' = H /\ ∀ H2 R',R' v H2 -> ares P h o vals H2 R') \/
  ∃ (ob off : Nat) (cs : List AV),H[ob]? = some (some cs) /\ cs[off]? = some v /\ owned1 v = true /\ H' = H.set ob (some (cs.set off (borrow1 v))) /\
   ∀ (H2 : Heap) (cs2 : List AV) (R' : AV -> Heap -> Prop),H2[ob]? = some (some cs2) -> cs2[off]? = some v -> R' v (H2.set ob (some (cs2.set off (borrow1 v)))) -> ares P h o vals H2 R')
 ld : isLd h o = true -> ∀ H2 R',(∃ ext,hview H2 = hview H ++ ext) -> R' v H2 -> ares P h o vals H2 R'
 c5 : cls h o = 5 -> ∃ ext,H' = H ++ ext
theorem Fact.pure {v : AV} (hc : cls h o = 0) (ha : ∀ (H2 : Heap) (R' : AV -> Heap -> Prop),R' v H2 -> ares P h o vals H2 R') : Fact P h o vals H v H :=
 ⟨fun R' hr => ha H R' hr,fun _ => ⟨rfl,ha⟩,fun e => by omega,fun e => by omega,fun hl => by have:=isLd_cls hl; omega,fun e => by omega⟩
theorem Fact.any {v : AV} {H' : Heap} (hc : cls h o = 3) (ha : ∀ (R' : AV -> Heap -> Prop),R' v H' -> ares P h o vals H R') : Fact P h o vals H v H' :=
 ⟨ha,fun e => by omega,fun e => by omega,fun e => by omega,fun hl => by have:=isLd_cls hl; omega,fun e => by omega⟩
theorem Fact.ext {v : AV} {ext : Heap} (hc : cls h o = 5) (ha : ∀ (R' : AV -> Heap -> Prop),R' v (H ++ ext) -> ares P h o vals H R') : Fact P h o vals H v (H ++ ext) :=
 ⟨ha,fun e => by omega,fun e => by omega,fun e => by omega,fun hl => by have:=isLd_cls hl; omega,fun _ => ⟨ext,rfl⟩⟩
theorem borrow1_idem (a : AV) : borrow1 (borrow1 a) = borrow1 a:=by cases a <;> rfl
theorem hview_get {H H2 : Heap} (e : hview H2 = hview H) {ob : Nat} {cs : List AV} (ho : H[ob]? = some (some cs)) : ∃ cs2,H2[ob]? = some (some cs2) /\ cs2.map borrow1 = cs.map borrow1:=by
 have h1 : (hview H)[ob]? = some (some (cs.map borrow1)):=by simp [hview,ho]
 rw [<- e] at h1
 simp only [hview,List.getElem?_map,Option.map_eq_some_iff] at h1
 obtain ⟨x,hx,hx2⟩:=h1
 cases x with
 | none => simp at hx2
 | some cs2 =>
  exact ⟨cs2,hx,by simpa using hx2⟩
theorem hview_sub {H H2 : Heap} (e : ∃ ext,hview H2 = hview H ++ ext) {ob : Nat} {cs : List AV} (ho : H[ob]? = some (some cs)) : ∃ cs2,H2[ob]? = some (some cs2) /\ cs2.map borrow1 = cs.map borrow1:=by
 obtain ⟨ext,e⟩:=e
 have h1 : (hview H)[ob]? = some (some (cs.map borrow1)):=by simp [hview,ho]
 have h2 : (hview H2)[ob]? = some (some (cs.map borrow1)):=by
  rw [e,List.getElem?_append_left (List.getElem?_eq_some_iff.1 h1).1]; exact h1
 simp only [hview,List.getElem?_map,Option.map_eq_some_iff] at h2
 obtain ⟨x,hx,hx2⟩:=h2
 cases x with
 | none => simp at hx2
 | some cs2 => exact ⟨cs2,hx,by simpa using hx2⟩
theorem borrow_borrow1 (a : AV) : (borrow1 a).borrow = a.borrow:=by cases a <;> rfl
theorem ldv_view {t : TypeId} {cs cs2 : List AV} {off : Nat} {v : AV} (e : cs2.map borrow1 = cs.map borrow1) (hl : ldv P t cs off = some v) : ∃ v2,ldv P t cs2 off = some v2 /\ v2.borrow = v.borrow:=by
 have hlen : cs2.length = cs.length:=by have:=congrArg List.length e; simpa using this
 have agg : (AV.agg ((cs2.drop off).take (P.cellsOf t))).borrow = (AV.agg ((cs.drop off).take (P.cellsOf t))).borrow:=by
  simp only [AV.borrow,borrow0,List.map_take,List.map_drop,e]
 unfold ldv at hl ⊢
 split at hl
 ·split at hl
  ·cases hl
   exact ⟨_,by rw [if_pos (by omega)],agg⟩
  ·cases hl
 ·split at hl
  ·cases hl
   exact ⟨_,by rw [if_pos (by omega)],agg⟩
  ·cases hl
 ·have hlt:=(List.getElem?_eq_some_iff.1 hl).1
  have h2 : cs2[off]? = some (cs2[off]'(by omega)):=List.getElem?_eq_getElem _
  refine ⟨_,h2, ?_⟩
  have h3 : (cs2.map borrow1)[off]? = (cs.map borrow1)[off]?:=by rw [e]
  simp only [List.getElem?_map,h2,hl,Option.map_some,Option.some.injEq] at h3
  rw [<- borrow_borrow1,h3,borrow_borrow1]
 ·cases hl
theorem hview_set {H : Heap} {ob : Nat} {cs cs' : List AV} (ho : H[ob]? = some (some cs)) (e : cs'.map borrow1 = cs.map borrow1) : hview (H.set ob (some cs')) = hview H:=by
 unfold hview
 apply List.ext_getElem?
 intro i
 simp only [List.getElem?_map,List.getElem?_set]
 split
 ·rename_i hi
  subst hi
  rw [if_pos (List.getElem?_eq_some_iff.1 ho).1,ho]
  simp [e]
 ·rfl
theorem ldv_cells {t : TypeId} {cs : List AV} {off : Nat} {v : AV} (hl : ldv P t cs off = some v) (hag : v.scalar = true \/ aggTy P t = true) : (splice cs off (v.cells.map borrow1)).map borrow1 = cs.map borrow1:=by
 have gen : ∀ k,off + k <= cs.length -> (splice cs off (((cs.drop off).take k).map borrow1)).map borrow1 = cs.map borrow1:=by
  intro k hk
  have hlen : (((cs.drop off).take k).map borrow1).length = k:=by simp; omega
  unfold splice
  rw [hlen]
  simp only [List.map_append,List.map_map]
  have e1 : (borrow1 ∘ borrow1) = borrow1:=funext borrow1_idem
  rw [e1,<- List.map_append,<- List.map_append,List.append_assoc,<- List.drop_drop,List.take_append_drop,List.take_append_drop]
 unfold ldv at hl
 split at hl
 ·split at hl
  ·cases hl; exact gen _ ‹_›
  ·cases hl
 ·split at hl
  ·cases hl; exact gen _ ‹_›
  ·cases hl
 ·rename_i d hns hna hu
  have hlt:=(List.getElem?_eq_some_iff.1 hl).1
  have hsc : v.scalar = true:=by
   rcases hag with h1 | h1
   ·exact h1
   ·unfold aggTy at h1
    rw [hu] at h1
    cases d <;> first | exact (hns _ rfl).elim | exact (hna _ _ rfl).elim | cases h1
  have hcells : v.cells = [v]:=by cases v <;> first | rfl | cases hsc
  have:=gen 1 hlt
  rw [List.drop_eq_getElem_cons hlt] at this
  have e : cs[off] = v:=by rw [List.getElem?_eq_getElem hlt] at hl; exact Option.some.inj hl
  rw [hcells]
  simpa [e] using this
 ·cases hl
theorem abin_one {op : BinOp} {a b : AV} {R : AV -> Prop} (hr : abin op a b R) : ∃ v,R v /\ ∀ R' : AV -> Prop,R' v -> abin op a b R':=by
 unfold abin at hr ⊢
 split at hr
 ·cases op <;> first | exact ⟨_,hr.2,fun R' h' => ⟨hr.1,h'⟩⟩ | exact ⟨_,hr.2.2,fun R' h' => ⟨hr.1,hr.2.1,h'⟩⟩
 ·cases op <;> first | exact ⟨_,hr.2,fun R' h' => ⟨hr.1,h'⟩⟩ | exact ⟨_,hr,fun R' h' => h'⟩ | exact hr.elim
 ·exact hr.elim
theorem abinop_one {op : BinOp} {t : TypeId} {a b : AV} {R : AV -> Prop} (hr : abinop P op t a b R) : ∃ v,R v /\ ∀ R' : AV -> Prop,R' v -> abinop P op t a b R':=by
 unfold abinop at hr ⊢
 split at hr
 ·exact ⟨_,hr,fun R' h' => h'⟩
 ·exact ⟨_,hr,fun R' h' => h'⟩
 ·obtain ⟨v,h1,h2⟩:=abin_one hr
  exact ⟨v,h1,h2⟩
theorem aslice_one {t : TypeId} {x : AV} {lo hi mx : Option Int} {R : AV -> Prop} (hr : aslice P t x lo hi mx R) : ∃ v,R v /\ ∀ R' : AV -> Prop,R' v -> aslice P t x lo hi mx R':=by
 unfold aslice at hr ⊢
 split at hr
 ·obtain ⟨h1,h2,h3,h4,h5⟩:=hr
  exact ⟨_,h5,fun R' h' => ⟨h1,h2,h3,h4,h'⟩⟩
 ·obtain ⟨h1,h2,h3,h4,h5,h6⟩:=hr
  split at h6
  ·exact ⟨_,h6,fun R' h' => ⟨h1,h2,h3,h4,h5,h'⟩⟩
  ·exact ⟨_,h6.2.2,fun R' h' => ⟨h1,h2,h3,h4,h5,h6.1,h6.2.1,h'⟩⟩
 ·exact ⟨_,hr.2,fun R' h' => ⟨hr.1,h'⟩⟩
 ·obtain ⟨h1,h2,h3,h4⟩:=hr
  split at h4
  ·obtain ⟨g1,g2,g3,g4⟩:=h4
   exact ⟨_,g4,fun R' h' => ⟨h1,h2,h3,g1,g2,g3,h'⟩⟩
  ·exact h4.elim
 ·obtain ⟨h1,g1,g2,g3,g4⟩:=hr
  exact ⟨_,g4,fun R' h' => ⟨h1,g1,g2,g3,h'⟩⟩
 ·exact hr.elim
theorem apslice_one {t : TypeId} {x : AV} {lo hi mx : Option Int} {R : AV -> Prop} (hr : apslice P t x lo hi mx H R) : ∃ v,R v /\ ∀ (H2 : Heap) (R' : AV -> Prop),hview H2 = hview H -> R' v -> apslice P t x lo hi mx H2 R':=by
 unfold apslice at hr
 split at hr
 ·rename_i hu
  obtain ⟨h1,h2,h3,h4⟩:=hr
  split at h4
  ·rename_i cs ho
   refine ⟨_,h4.2,fun H2 R' hv h' => ?_⟩
   obtain ⟨cs2,g1,g2⟩:=hview_get hv ho
   have hl : cs2.length = cs.length:=by have:=congrArg List.length g2; simpa using this
   unfold apslice
   simp only [hu,g1,hl]
   exact ⟨h1,h2,h3,h4.1,h'⟩
  ·exact h4.elim
 ·rename_i hu
  obtain ⟨h1,h2,h3⟩:=hr
  refine ⟨_,h3,fun H2 R' _ h' => ?_⟩
  unfold apslice
  simp only [hu]
  exact ⟨h1,h2,h'⟩
 ·exact hr.elim
set_option maxHeartbeats 1000000 in
theorem ares_fact (hc4 : cls h o ≠ 4) (hr : ares P h o vals H R) : ∃ v H',R v H' /\ Fact P h o vals H v H':=by
 unfold ares at hr
 split at hr <;> rename_i heq
 ·exact ⟨_,_,hr,.pure (by simp [cls,heq]) fun H2 R' h' => by simp only [ares,heq]; exact h'⟩
 ·exact ⟨_,_,hr,.pure (by simp [cls,heq]) fun H2 R' h' => by simp only [ares,heq]; exact h'⟩
 ·exact ⟨_,_,hr,.pure (by simp [cls,heq]) fun H2 R' h' => by simp only [ares,heq]; exact h'⟩
 ·exact ⟨_,_,hr.2,.ext (by simp [cls,heq]) fun R' h' => by simp only [ares,heq]; exact ⟨hr.1,h'⟩⟩
 ·split at hr
  ·rename_i hm
   exact ⟨_,_,hr.2,.ext (by simp [cls,heq]) fun R' h' => by simp only [ares,heq,hm]; exact ⟨hr.1,h'⟩⟩
  ·rename_i hm
   obtain ⟨z,hz,hr⟩:=hr
   exact ⟨_,_,hr,.ext (by simp [cls,heq]) fun R' h' => by simp only [ares,heq,hm]; exact ⟨z,hz,h'⟩⟩
 ·split at hr
  ·rename_i hu
   obtain ⟨z,cs,h1,h2,h3,h4⟩:=hr
   exact ⟨_,_,h4,.pure (by simp [cls,heq]) fun H2 R' h' => by simp only [ares,heq,hu]; exact ⟨z,cs,h1,h2,h3,h'⟩⟩
  ·rename_i hu
   obtain ⟨z,cs,h1,h2,h3,h4⟩:=hr
   exact ⟨_,_,h4,.pure (by simp [cls,heq]) fun H2 R' h' => by simp only [ares,heq,hu]; exact ⟨z,cs,h1,h2,h3,h'⟩⟩
  ·exact hr.elim
 ·split at hr
  ·rename_i hu
   obtain ⟨h1,h2,h3,h4,h5,h6⟩:=hr
   split at h6
   ·rename_i hp
    exact ⟨_,_,h6,.ext (by simp [cls,heq,hp]) fun R' h' => by simp only [ares,heq,hu,hp]; exact ⟨h1,h2,h3,h4,h5,h'⟩⟩
   ·rename_i hp
    exact ⟨_,_,h6,.pure (by simp [cls,heq,hp]) fun H2 R' h' => by simp only [ares,heq,hu,hp]; exact ⟨h1,h2,h3,h4,h5,h'⟩⟩
  ·exact hr.elim
 ·split at hr
  ·rename_i hu
   obtain ⟨h1,h2,h3,h4,h5,z,h6,h7,h8,h9⟩:=hr
   exact ⟨_,_,h9,.ext (by simp [cls,heq]) fun R' h' => by simp only [ares,heq,hu]; exact ⟨h1,h2,h3,h4,h5,z,h6,h7,h8,h'⟩⟩
  ·exact hr.elim
 · -- load from an object
  rename_i t _ ob off
  split at hr
  ·rename_i cs ho
   split at hr
   ·rename_i v hl
    split at hr
    ·rename_i ht
     obtain ⟨hown,hsc,hr⟩:=hr
     have hc1 : cls h o = 2:=by simp [cls,heq,ht]
     have hcells : v.cells = [v]:=by cases v <;> first | rfl | cases hsc
     have hat : cs[off]? = some v:=by
      have h1:=hl
      unfold ldv at h1
      split at h1
      ·split at h1
       ·cases h1; cases hsc
       ·cases h1
      ·split at h1
       ·cases h1; cases hsc
       ·cases h1
      ·exact h1
      ·cases h1
     have hone : ∀ cs2 : List AV,off < cs2.length -> splice cs2 off (v.cells.map borrow1) = cs2.set off (borrow1 v):=by
      intro cs2 hlt
      rw [hcells]
      simp only [List.map_cons,List.map_nil,splice,List.length_cons,List.length_nil,Nat.zero_add]
      rw [List.set_eq_take_append_cons_drop,if_pos hlt]
      simp
     have hldv : ∀ cs2 : List AV,cs2[off]? = some v -> ldv P t cs2 off = some v:=by
      intro cs2 h2
      unfold ldv at hl ⊢
      split at hl
      ·split at hl
       ·cases hl; cases hsc
       ·cases hl
      ·split at hl
       ·cases hl; cases hsc
       ·cases hl
      ·exact h2
      ·cases hl
     have hown1 : owned1 v = true:=by
      cases v <;> first | cases hsc | skip
      all_goals first | (simpa [AV.owned,AV.flat,AV.cells] using hown) | rfl
     refine ⟨_,_,hr,fun R' h' => by simp only [ares,heq,ho,hl,ht]; exact ⟨hown,hsc,h'⟩,fun e => by omega,fun e => by omega,fun _ => ⟨hview_set ho (ldv_cells hl (.inl hsc)),.inr ⟨ob,off,cs,ho,hat,hown1, ?_,fun H2 cs2 R' h1 h2 h' => ?_⟩⟩,fun hl => by have:=isLd_cls hl; omega,fun e => by omega⟩
     ·rw [hone cs (List.getElem?_eq_some_iff.1 hat).1]
     ·simp only [ares,heq,h1,hldv cs2 h2,ht]
      refine ⟨hown,hsc, ?_⟩
      rw [hone cs2 (List.getElem?_eq_some_iff.1 h2).1]; exact h'
    ·rename_i ht
     have hc1 : cls h o = 1:=by simp [cls,heq,ht]
     refine ⟨_,_,hr,fun R' h' => ?_,fun e => by omega,fun e => ⟨rfl,fun H2 R' hv h' => ?_⟩,fun e => by omega,fun _ H2 R' hv h' => ?_,fun e => by omega⟩
     ·simp only [ares,heq,ho,hl,ht]
      exact h'
     ·obtain ⟨cs2,ho2,e2⟩:=hview_get hv ho
      obtain ⟨v2,hl2,hb⟩:=ldv_view (P:=P) e2 hl
      simp only [ares,heq,ho2,hl2,ht]
      rw [hb]
      exact h'
     ·obtain ⟨cs2,ho2,e2⟩:=hview_sub hv ho
      obtain ⟨v2,hl2,hb⟩:=ldv_view (P:=P) e2 hl
      simp only [ares,heq,ho2,hl2,ht]
      rw [hb]
      exact h'
   ·exact hr.elim
  ·exact hr.elim
 ·split at hr
  ·rename_i v hl
   refine ⟨_,_,hr,fun R' h' => by simp only [ares,heq,hl]; exact h',fun e => ?_,fun e => ⟨rfl,fun H2 R' _ h' => by simp only [ares,heq,hl]; exact h'⟩,fun _ => ⟨rfl,.inl ⟨rfl,fun H2 R' h' => by simp only [ares,heq,hl]; exact h'⟩⟩,fun _ H2 R' _ h' => by simp only [ares,heq,hl]; exact h',fun e => by simp only [cls,heq] at e; split at e <;> omega⟩
   simp only [cls,heq] at e
   split at e <;> omega
  ·exact hr.elim
 ·split at hr
  ·rename_i cs ho
   obtain ⟨h1,h2,h3,h4,h5⟩:=hr
   exact ⟨_,_,h5,.any (by simp [cls,heq]) fun R' h' => by simp only [ares,heq,ho]; exact ⟨h1,h2,h3,h4,h'⟩⟩
  ·exact hr.elim
 ·exact ⟨_,_,hr,.pure (by simp [cls,heq]) fun H2 R' h' => by simp only [ares,heq]; exact h'⟩
 ·exact ⟨_,_,hr,.pure (by simp [cls,heq]) fun H2 R' h' => by simp only [ares,heq]; exact h'⟩
 ·exact ⟨_,_,hr,.pure (by simp [cls,heq]) fun H2 R' h' => by simp only [ares,heq]; exact h'⟩
 ·exact ⟨_,_,hr,.pure (by simp [cls,heq]) fun H2 R' h' => by simp only [ares,heq]; exact h'⟩
 ·split at hr
  ·rename_i hy
   exact absurd (by simp [cls,heq,hy]) hc4
  ·rename_i hy
   obtain ⟨v,h1,h2⟩:=abinop_one hr
   exact ⟨_,_,h1,.pure (by simp [cls,heq,hy]) fun H2 R' h' => by simp only [ares,heq,hy]; exact h2 _ h'⟩
 ·split at hr
  ·exact ⟨_,_,hr,.pure (by simp [cls,heq]) fun H2 R' h' => by simp only [ares,heq]; exact h'⟩
  ·exact ⟨_,_,hr,.pure (by simp [cls,heq]) fun H2 R' h' => by simp only [ares,heq]; exact h'⟩
  ·exact hr.elim
 ·split at hr
  ·rename_i h1 h2
   exact ⟨_,_,hr,.pure (by simp [cls,heq]) fun H2 R' h' => by simp only [ares,heq,h1,h2]; exact h'⟩
  ·rename_i h1 h2
   exact ⟨_,_,hr,.pure (by simp [cls,heq]) fun H2 R' h' => by simp only [ares,heq,h1,h2]; exact h'⟩
  ·rename_i h1 h2
   exact ⟨_,_,hr.2.2,.pure (by simp [cls,heq]) fun H2 R' h' => by simp only [ares,heq,h1,h2]; exact ⟨hr.1,hr.2.1,h'⟩⟩
  ·exact hr.elim
 ·exact ⟨_,_,hr,.pure (by simp [cls,heq]) fun H2 R' h' => by simp only [ares,heq]; exact h'⟩
 ·split at hr
  ·rename_i hb
   split at hr
   ·rename_i hm
    have hc1 : cls h o = 1:=by simp [cls,heq,hm]
    obtain ⟨v,h1,h2⟩:=apslice_one hr
    exact ⟨_,_,h1,⟨fun R' h' => by simp only [ares,heq,hb,hm]; exact h2 H _ rfl h',fun e => by omega,fun _ => ⟨rfl,fun H2 R' hv h' => by simp only [ares,heq,hb,hm]; exact h2 H2 _ hv h'⟩,fun e => by omega,fun hl => by simp [isLd,heq] at hl,fun e => by omega⟩⟩
   ·rename_i hm
    obtain ⟨v,h1,h2⟩:=aslice_one hr
    exact ⟨_,_,h1,.pure (by simp [cls,heq,hm]) fun H2 R' h' => by simp only [ares,heq,hb,hm]; exact h2 _ h'⟩
  ·exact hr.elim
 ·split at hr
  ·rename_i hu
   split at hr
   ·rename_i hf
    obtain ⟨h0,hr⟩:=hr
    split at hr
    ·exact ⟨_,_,hr,.pure (by simp [cls,heq]) fun H2 R' h' => by simp only [ares,heq,hu,hf]; exact ⟨h0,h'⟩⟩
    ·exact ⟨_,_,hr,.pure (by simp [cls,heq]) fun H2 R' h' => by simp only [ares,heq,hu,hf]; exact ⟨h0,h'⟩⟩
    ·exact hr.elim
   ·exact hr.elim
  ·exact hr.elim
 ·split at hr
  ·rename_i hu
   split at hr
   ·rename_i hf
    split at hr
    ·rename_i hl
     exact ⟨_,_,hr,.pure (by simp [cls,heq]) fun H2 R' h' => by simp only [ares,heq,hu,hf,hl]; exact h'⟩
    ·exact hr.elim
   ·exact hr.elim
  ·exact hr.elim
 ·obtain ⟨v,hv,hr⟩:=hr
  exact ⟨_,_,hr,.pure (by simp [cls,heq]) fun H2 R' h' => by simp only [ares,heq]; exact ⟨v,hv,h'⟩⟩
 ·split at hr
  ·rename_i hu
   obtain ⟨h0,v,h1,h2,h3,h4⟩:=hr
   exact ⟨_,_,h4,.pure (by simp [cls,heq]) fun H2 R' h' => by simp only [ares,heq,hu]; exact ⟨h0,v,h1,h2,h3,h'⟩⟩
  ·rename_i hu
   obtain ⟨h0,h1,h2,h3,h4⟩:=hr
   exact ⟨_,_,h4,.pure (by simp [cls,heq]) fun H2 R' h' => by simp only [ares,heq,hu]; exact ⟨h0,h1,h2,h3,h'⟩⟩
  ·rename_i hu
   obtain ⟨h0,h1,h2,h4⟩:=hr
   exact ⟨_,_,h4,.pure (by simp [cls,heq]) fun H2 R' h' => by simp only [ares,heq,hu]; exact ⟨h0,h1,h2,h'⟩⟩
  ·rename_i hu
   obtain ⟨h0,h1,h2,h4⟩:=hr
   exact ⟨_,_,h4,.pure (by simp [cls,heq]) fun H2 R' h' => by simp only [ares,heq,hu]; exact ⟨h0,h1,h2,h'⟩⟩
  ·exact hr.elim
 ·split at hr
  ·rename_i hu
   obtain ⟨h0,h1,h4⟩:=hr
   exact ⟨_,_,h4,.pure (by simp [cls,heq]) fun H2 R' h' => by simp only [ares,heq,hu]; exact ⟨h0,h1,h'⟩⟩
  ·rename_i hu
   obtain ⟨h0,h1,h2,v,h3,h4⟩:=hr
   exact ⟨_,_,h4,.pure (by simp [cls,heq]) fun H2 R' h' => by simp only [ares,heq,hu]; exact ⟨h0,h1,h2,v,h3,h'⟩⟩
  ·exact hr.elim
 ·exact ⟨_,_,hr,.ext (by simp [cls,heq]) fun R' h' => by simp only [ares,heq]; exact h'⟩
 ·exact ⟨_,_,hr.2,.ext (by simp [cls,heq]) fun R' h' => by simp only [ares,heq]; exact ⟨hr.1,h'⟩⟩
 ·split at hr
  ·rename_i hu
   split at hr
   ·rename_i es he
    obtain ⟨g1,g2,z,g3,g4⟩:=hr
    exact ⟨_,_,g4,.any (by simp [cls,heq]) fun R' h' => by simp only [ares,heq,hu,he]; exact ⟨g1,g2,z,g3,h'⟩⟩
   ·exact hr.elim
  ·exact hr.elim
 ·split at hr
  ·rename_i hu
   split at hr
   ·rename_i es he
    obtain ⟨g1,g2,g3,g4⟩:=hr
    exact ⟨_,_,g4,.any (by simp [cls,heq]) fun R' h' => by simp only [ares,heq,hu,he]; exact ⟨g1,g2,g3,h'⟩⟩
   ·exact hr.elim
  ·exact hr.elim
 ·exact absurd (by simp [cls,heq]) hc4
 ·exact absurd (by simp [cls,heq]) hc4
 ·exact absurd (by simp [cls,heq]) hc4
 · -- calls
  rename_i c
  obtain ⟨callee,args,argTypes⟩:=c
  cases callee with
  | invoke r m => exact hr.elim
  | value fo =>
   simp only at hr
   split at hr
   ·split at hr
    ·rename_i hp
     split at hr
     ·rename_i hq
      obtain ⟨v,hcall,hr⟩:=hr
      have hc1 : cls h o = 1:=by simp [cls,heq,hp,hq]
      exact ⟨_,_,hr,fun R' h' => by simp only [ares,heq,hp,hq]; exact ⟨v,hcall,h'⟩,fun e => by omega,fun _ => ⟨rfl,fun H2 R' hv h' => by
       simp only [ares,heq,hp,hq]
       exact ⟨v,fun H3 h3 => hcall H3 (h3.trans hv),h'⟩⟩,fun e => by omega,fun hl => by simp [isLd,heq] at hl,fun e => by omega⟩
     ·rename_i hq
      obtain ⟨v,hcall,hr⟩:=hr
      exact ⟨_,_,hr,.pure (by simp [cls,heq,hp,hq]) fun H2 R' h' => by simp only [ares,heq,hp,hq]; exact ⟨v,hcall,h'⟩⟩
    ·rename_i hp
     split at hr
     ·rename_i hq
      obtain ⟨v,ext,hcall,hr⟩:=hr
      exact ⟨_,_,hr,.ext (by simp [cls,heq,hp,hq]) fun R' h' => by simp only [ares,heq,hp,hq]; exact ⟨v,ext,hcall,h'⟩⟩
     ·rename_i hq
      exact absurd (by simp [cls,heq,hp,hq]) hc4
   ·obtain ⟨⟨hp,hq⟩,_⟩:=hr
    exact absurd (by simp [cls,heq,hp,hq]) hc4
   ·exact hr.elim
  | builtin b =>
   cases b <;> simp only at hr <;> first | exact hr.elim | skip
   case append =>
    split at hr
    ·rename_i a b t t' hat
     obtain ⟨h0,hr⟩:=hr
     split at hr
     ·rename_i e hu
      obtain ⟨h1,h2,hr⟩:=hr
      have again : ∀ (rd : Bool) (H2 : Heap) (R' : AV -> Heap -> Prop) (xs : List AV),(o.dst.any h.mt.contains || o.dst.any h.tk.contains) = rd -> asrc P e rd H2 b = some xs -> aappend P e (o.dst.any h.mt.contains) (o.dst.any h.pc.contains) H2 a xs R' -> ares P h o [a,b] H2 R':=by
       intro rd H2 R' xs hrd hs ha
       simp only [ares,heq,hat,hu,hrd,hs]
       exact ⟨h0,h1,h2,ha⟩
      split at hr
      ·rename_i xs hs
       by_cases hrd : (o.dst.any h.mt.contains || o.dst.any h.tk.contains) = true
       ·have hc3 : cls h o = 3:=by simp only [cls,heq,hrd]; rfl
        obtain ⟨g1,hr⟩:=hr
        split at hr
        ·rename_i hmt
         obtain ⟨g2,g3,g4,g5⟩:=hr
         exact ⟨_,_,g5,.any hc3 fun R' h' => again _ _ _ xs rfl hs ⟨g1,by rw [hmt]; exact ⟨g2,g3,g4,h'⟩⟩⟩
        ·rename_i hmt
         obtain ⟨g2,g3,g4,g5,hr⟩:=hr
         split at hr
         ·rename_i cs ho
          obtain ⟨g6,g7,g8⟩:=hr
          exact ⟨_,_,g8,.any hc3 fun R' h' => again _ _ _ xs rfl hs ⟨g1,by rw [hmt]; simp only [ho]; exact ⟨g2,g3,g4,g5,g6,g7,h'⟩⟩⟩
         ·exact hr.elim
        ·rename_i hmt
         obtain ⟨g2,g3,g4,g5⟩:=hr
         exact ⟨_,_,g5,.any hc3 fun R' h' => again _ _ _ xs rfl hs ⟨g1,by rw [hmt]; exact ⟨g2,g3,g4,h'⟩⟩⟩
        ·exact hr.elim
       ·have hrd' : (o.dst.any h.mt.contains || o.dst.any h.tk.contains) = false:=by simpa using hrd
        have hc0 : cls h o = 0:=by simp only [cls,heq,hrd']; rfl
        have hmt : o.dst.any h.mt.contains = false:=by
         rw [Bool.or_eq_false_iff] at hrd'; exact hrd'.1
        obtain ⟨g1,hr⟩:=hr
        rw [hrd'] at hs
        have hs2 : ∀ H2,asrc P e false H2 b = some xs:=fun H2 => by
         unfold asrc at hs ⊢
         split at hs
         ·exact hs
         ·split at hs
          ·rename_i h _; cases h
          ·cases hs
         ·cases hs
        split at hr
        ·rename_i hmt'
         obtain ⟨g2,g3,g4,g5⟩:=hr
         exact ⟨_,_,g5,.pure hc0 fun H2 R' h' => again _ _ _ xs hrd' (hs2 H2) ⟨g1,by rw [hmt']; exact ⟨g2,g3,g4,h'⟩⟩⟩
        ·rename_i hmt'
         rw [hmt] at hmt'; cases hmt'
        ·rename_i hmt'
         rw [hmt] at hmt'; cases hmt'
        ·exact hr.elim
      ·exact hr.elim
     ·exact hr.elim
    ·exact hr.elim
   case clear =>
    split at hr
    ·rename_i hat
     split at hr
     ·rename_i hu
      split at hr
      ·rename_i ho
       obtain ⟨z,h1,h2,h3,h4,h5⟩:=hr
       exact ⟨_,_,h5,.any (by simp [cls,heq]) fun R' h' => by simp only [ares,heq,hat,hu,ho]; exact ⟨z,h1,h2,h3,h4,h'⟩⟩
      ·exact hr.elim
     ·exact hr.elim
    ·exact hr.elim
   case len =>
    split at hr
    ·split at hr
     ·rename_i hu
      exact ⟨_,_,hr,.pure (by simp [cls,heq]) fun H2 R' h' => by simp only [ares,heq,hu]; exact h'⟩
     ·rename_i hu
      exact ⟨_,_,hr,.pure (by simp [cls,heq]) fun H2 R' h' => by simp only [ares,heq,hu]; exact h'⟩
     ·rename_i hu
      exact ⟨_,_,hr,.pure (by simp [cls,heq]) fun H2 R' h' => by simp only [ares,heq,hu]; exact h'⟩
     ·rename_i hu
      exact ⟨_,_,hr,.pure (by simp [cls,heq]) fun H2 R' h' => by simp only [ares,heq,hu]; exact h'⟩
     ·exact hr.elim
    ·exact hr.elim
   case max =>
    split at hr
    ·exact ⟨_,_,hr.2,.pure (by simp [cls,heq]) fun H2 R' h' => by simp only [ares,heq]; exact ⟨hr.1,h'⟩⟩
    ·exact hr.elim
   case min =>
    split at hr
    ·exact ⟨_,_,hr.2,.pure (by simp [cls,heq]) fun H2 R' h' => by simp only [ares,heq]; exact ⟨hr.1,h'⟩⟩
    ·exact hr.elim
 ·exact hr.elim
end
end Go.AI
