/- That the model's operations do what 'ares' says: loads, stores, new objects, lists, appends, slices. -/
import Derived.Test.YtofajkggflobkaaGreatDoorAiMb
set_option linter.unusedSimpArgs false
set_option linter.unusedVariables false
namespace Go.AI
section
variable {P : Program} {F : Nat -> Prop} {G : Gh} {w : World} {H : Heap} {R : AV -> Heap -> Prop}
theorem OpRes.skip {K : Value -> World -> Prop} {r : Result Next} {w' : World} (hr : r = .ok .skip w') (h : K Go.undef w') : OpRes P r K:=by subst hr; exact h
theorem HRel.at_obj (h : HRel F G H w) {ob : Nat} {cs : List AV} (ho : H[ob]? = some (some cs)) {b : Nat} (hb : G.obs[ob]? = some b) (hbc : ∃ (C : Array Value) (E : TypeId),w.heap[b]? = some (.cells C E (0,0))) :
  ∃ (C : Array Value) (E : TypeId),w.heap[b]? = some (.cells C E (0,0)) /\ cs.length <= C.size /\ Cells F G w cs (C.toList.take cs.length):=by
 obtain ⟨C0,E0,hb0⟩:=hbc
 obtain ⟨C,E,h1,h2,h3⟩:=((h.obj ob cs b ho hb).of_cells hb0).2
 refine ⟨C,E,h1,h2,by simp; omega,fun i c v hc hv => ?_⟩
 rw [List.getElem?_take] at hv
 split at hv
 ·exact h3 i c v hc (by simpa using hv)
 ·cases hv
theorem zip_take {α β : Type} : ∀ (a : List α) (b : List β),a.zip b = a.zip (b.take a.length)
 | [],b => by simp
 | _ :: _,[] => by simp
 | x :: a,y :: b => by simp [<- zip_take a b]
theorem take_splice {α : Type} (l ys : List α) (off m : Nat) (h : off + ys.length <= m) (hm : m <= l.length) :
  (l.take off ++ ys ++ l.drop (off + ys.length)).take m = (l.take m).take off ++ ys ++ (l.take m).drop (off + ys.length):=by
 have h1 : (l.take off).length = off:=by simp; omega
 rw [List.append_assoc,List.take_append,h1,List.take_append,List.take_take,List.take_take,List.drop_take,List.append_assoc]
 rw [Nat.min_eq_right (by omega),Nat.min_eq_left (by omega),List.take_of_length_le (l:=ys) (by omega)]
 rw [show m - off - ys.length = m - (off + ys.length) by omega]
theorem ok_load_ptr {t ob off : Nat} {cs : List AV} {v : AV} {u : Value} (h : CRel F G [.ptr ob off] H [u] w) (ho : H[ob]? = some (some cs)) (hl : ldv P t cs off = some v)
  (hr : R v.borrow H \/ R v (H.set ob (some (splice cs off (v.cells.map borrow1))))) :
  OpRes P ((do let r <- Instr.loadAt t u; pure (Next.value r) : Sem Next).run P w) (KOut F G w R):=by
 have hx:=h.l.rel 0 _ _ rfl rfl
 cases hx with
 | ptr o off b hb hbc =>
  have hobj:=h.h.obj ob cs b ho hb
  obtain ⟨x,hrun,hv,hval,hcells,hf1,hf2⟩:=ldv_sem (P:=P) hl (cellsAt_of_obj hbc.choose_spec.choose_spec hobj)
  rw [Nat.zero_add] at hrun
  have hrun' : (do let r <- Instr.loadAt t (.pointer (some ⟨b,off,none⟩)); pure (Next.value r) : Sem Next).run P w = .ok (.value x) w:=by
   simp only [Instr.loadAt,Instr.sureAddr,Sem.run_bind,Sem.run_pure,Result.andThen_ok,hrun]
  rcases hr with hr | hr
  ·exact .value hrun' (KOut.plain h hr hv.borrow (toks_borrow v x))
  ·obtain ⟨C,E,hrow,hCs,hC⟩:=h.h.at_obj ho hb hbc
   have hxl : v.cells.length = x.cells.toList.length:=by have:=(val_shape hval hv).2.2; simpa using this
   have hstretch : ∀ (i : Nat),i < v.cells.length -> cs[off + i]? = v.cells[i]? /\ C[off + i]? = x.cells.toList[i]?:=by
    intro i hi
    have h1 : v.cells[i]? = some v.cells[i]:=List.getElem?_eq_getElem hi
    have h2 : x.cells.toList[i]? = some (x.cells.toList[i]'(by omega)):=List.getElem?_eq_getElem _
    obtain ⟨g1,g2⟩:=hcells i _ _ h1 (by rw [<- Array.getElem?_toList]; exact h2)
    rw [Nat.zero_add,cell_of_row w b _ C E _ hrow] at g2
    exact ⟨g1.trans h1.symm,g2.trans h2.symm⟩
   have hle : off + v.cells.length <= cs.length:=by
    by_cases h0 : v.cells.length = 0
    ·unfold ldv at hl
     split at hl
     ·split at hl
      ·cases hl; simp only [AV.cells] at h0 ⊢; simp at h0 ⊢; omega
      ·cases hl
     ·split at hl
      ·cases hl; simp only [AV.cells] at h0 ⊢; simp at h0 ⊢; omega
      ·cases hl
     ·have:=(List.getElem?_eq_some_iff.1 hl).1; omega
     ·cases hl
    ·have:=(hstretch (v.cells.length - 1) (by omega)).1
     rw [List.getElem?_eq_getElem (show v.cells.length - 1 < v.cells.length by omega)] at this
     have:=(List.getElem?_eq_some_iff.1 this).1
     omega
   have e1 : v.cells = (cs.drop off).take v.cells.length:=by
    apply List.ext_getElem?
    intro i
    by_cases hi : i < v.cells.length
    ·rw [take_drop_get _ _ _ _ hi,(hstretch i hi).1]
    ·rw [List.getElem?_eq_none (by omega),List.getElem?_eq_none (by simp; omega)]
   have e2 : x.cells.toList = ((C.toList.take cs.length).drop off).take v.cells.length:=by
    apply List.ext_getElem?
    intro i
    by_cases hi : i < v.cells.length
    ·rw [take_drop_get _ _ _ _ hi,List.getElem?_take,if_pos (by omega),<- (hstretch i hi).2]
     simp
    ·rw [List.getElem?_eq_none (by omega),List.getElem?_eq_none (by simp; omega)]
   have hC2:=hC.unown off v.cells.length hle
   rw [<- e1] at hC2
   have hlen2 : (splice cs off (v.cells.map borrow1)).length = cs.length:=by rw [splice_length (by simpa using hle)]
   have htoksv : toks v x = ctoks ((cs.drop off).take v.cells.length) (((C.toList.take cs.length).drop off).take v.cells.length):=by
    unfold toks ctoks
    rw [prs_val hval hv,<- e1,<- e2]
   have htokok : ∀ p ∈ prs v x,TokOk F G w p:=by
    intro p hp
    rw [prs_val hval hv,e1,e2] at hp
    obtain ⟨i,hi⟩:=List.getElem?_of_mem hp
    rw [List.getElem?_zip_eq_some] at hi
    obtain ⟨h1,h2⟩:=hi
    exact (((hC.drop off).take v.cells.length).at_ i p.1 p.2 h1 h2).2.2
   have hset:=h.setObj ho hb hrow (C':=C) rfl (cs':=splice cs off (v.cells.map borrow1)) (by rw [hlen2]; exact hCs) (fun i c y hc hy => ?_) (vs:=[v]) (us':=[x]) (.cons hv htokok (.nil F G w)) (fun y => ?_)
   ·rw [setRow_self w b C E _ hrow] at hset
    exact .value hrun' ⟨v,_,G,hr,hset.1,hset.2⟩
   ·have hi:=(List.getElem?_eq_some_iff.1 hc).1
    exact hC2.at_ i c y hc (by rw [List.getElem?_take,if_pos (by omega)]; simpa using hy)
   ·have h1:=ctoks_unown (cs:=cs) (vs:=C.toList.take cs.length) (off:=off) (k:=v.cells.length) hC.len y hle
    rw [<- e1] at h1
    rw [tcnt_cons,tcnt_nil,htoksv,<- e1]
    have z1 : (splice cs off (v.cells.map borrow1)).zip C.toList = (splice cs off (v.cells.map borrow1)).zip (C.toList.take cs.length):=by
     have:=zip_take (splice cs off (v.cells.map borrow1)) C.toList
     rw [hlen2] at this; exact this
    rw [z1,zip_take cs C.toList]
    unfold ctoks at h1 ⊢
    omega
theorem ok_load_cptr {t off : Nat} {cs : List AV} {v : AV} {u : Value} (h : CRel F G [.cptr cs off] H [u] w) (hl : ldv P t cs off = some v) (hr : R v.borrow H) :
  OpRes P ((do let r <- Instr.loadAt t u; pure (Next.value r) : Sem Next).run P w) (KOut F G w R):=by
 have hx:=h.l.rel 0 _ _ rfl rfl
 obtain ⟨b,q,rfl,hc⟩:=cellsAt_of_cptr hx
 obtain ⟨x,hrun,hv,_⟩:=ldv_sem (P:=P) hl hc
 exact .value (by simp only [Instr.loadAt,Instr.sureAddr,Sem.run_bind,Sem.run_pure,Result.andThen_ok,hrun]) (KOut.plain h hr hv.borrow (toks_borrow v x))
theorem ok_store {t ob off : Nat} {cs : List AV} {v : AV} {u x : Value} (h : CRel F G [.ptr ob off,v] H [u,x] w) (ho : H[ob]? = some (some cs)) (hval : v.isVal = true) (hk : v.cells.length = P.cellsOf t) (hz : 0 < P.cellsOf t)
  (hle : off + P.cellsOf t <= cs.length) (hr : R .undef (H.set ob (some (splice cs off v.cells)))) :
  OpRes P ((do Instr.storeAt t u x; pure Next.skip : Sem Next).run P w) (KOut F G w R):=by
 have hp:=h.l.rel 0 _ _ rfl rfl
 have hv:=h.l.rel 1 _ _ rfl rfl
 have ht:=h.l.tok 1 _ _ rfl rfl
 cases hp with
 | ptr o off b hb hbc =>
  obtain ⟨C,E,hrow,hCs,hC⟩:=h.h.at_obj ho hb hbc
  obtain ⟨hcv,htk⟩:=cells_of hval hv ht
  have hxl : x.cells.size = P.cellsOf t:=by have:=(val_shape hval hv).2.2; omega
  have hst:=run_storeCells_at P b off E x.cells.toList 0 C w hrow (by simp; omega) hcv.oneCell
  simp only [Nat.add_zero,Array.length_toList] at hst
  let C' : Array Value:=(C.toList.take off ++ x.cells.toList ++ C.toList.drop (off + x.cells.size)).toArray
  have hC' : C' = (C.toList.take off ++ x.cells.toList ++ C.toList.drop (off + x.cells.size)).toArray:=rfl
  have hsize : C'.size = C.size:=by rw [hC']; simp; omega
  have hrun : (do Instr.storeAt t (.pointer (some ⟨b,off,none⟩)) x; pure Next.skip : Sem Next).run P w = .ok .skip (w.setRow b C'):=by
   simp only [Instr.storeAt,Instr.sureAddr,storeVar,Sem.run_bind,Sem.run_pure,Result.andThen_ok,run_sizeOf_pos hz,Sem.run_ite]
   rw [if_neg (by omega)]
   simp only [Sem.run_pure,Result.andThen_ok,hst,hC']
  have hlen2 : (splice cs off v.cells).length = cs.length:=splice_length (by omega)
  have hspl : C'.toList.take cs.length = spliceV (C.toList.take cs.length) off x.cells.toList:=by
   rw [hC']
   have:=take_splice C.toList x.cells.toList off cs.length (by simp; omega) (by simpa using hCs)
   simpa [spliceV] using this
  have hCC:=hC.splice (off:=off) hcv
  have hset:=h.setObj ho hb hrow (C':=C') hsize (cs':=splice cs off v.cells) (by rw [hlen2,hsize]; exact hCs) (fun i c y hc hy => ?_) (vs:=[.undef]) (us':=[Go.undef]) (.cons (.undef _) (tok_nil_all (toks_undef _) F G w) (.nil F G w)) (fun y => ?_)
  ·exact OpRes.skip hrun ⟨.undef,_,G,hr,hset.1,hset.2⟩
  ·have hi:=(List.getElem?_eq_some_iff.1 hc).1
   refine hCC.at_ i c y hc ?_
   rw [<- hspl,List.getElem?_take,if_pos (by omega)]
   simpa using hy
  ·rw [tcnt_cons,tcnt_nil,toks_undef,tcnt_cons,tcnt_cons,tcnt_nil,htk]
   have z1 : (splice cs off v.cells).zip C'.toList = (splice cs off v.cells).zip (spliceV (C.toList.take cs.length) off x.cells.toList):=by
    have:=zip_take (splice cs off v.cells) C'.toList
    rw [hlen2,hspl] at this; exact this
   rw [z1,zip_take cs C.toList]
   have h1:=ctoks_splice (cs:=cs) (xs:=v.cells) (vs:=C.toList.take cs.length) (ys:=x.cells.toList) (off:=off) hC.len (by simp; omega) y
   unfold ctoks at h1 ⊢
   simp only [List.count_nil]
   omega
theorem ok_box {elem : TypeId} {v : AV} {u : Value} (h : CRel F G [v] H [u] w) (hval : v.isVal = true) (hr : R (.ptr H.length 0) (H ++ [some v.cells])) :
  OpRes P ((do let r <- Instr.box elem u; pure (Next.value r) : Sem Next).run P w) (KOut F G w R):=by
 have hv:=h.l.rel 0 _ _ rfl rfl
 have ht:=h.l.tok 0 _ _ rfl rfl
 obtain ⟨hc,htk⟩:=cells_of hval hv ht
 refine .value (u:=.pointer (some ⟨w.heap.size,0,none⟩)) (w':=w.alloc (.cells u.cells elem)) (by simp [Instr.box,newVar,newRow]) ⟨_,_,_,hr, ?_,ext_newObj h.h.fore _⟩
 refine h.newObj v.cells u.cells elem (by have:=hc.len; simp at this; omega) (fun i c x h1 h2 => hc.at_ i c x h1 (by simpa using h2)) (fun b => ?_) (.ptr _ _ _ ?_ ⟨_,_,heap_alloc_new w _⟩) (toks_scalar rfl rfl _)
 ·rw [tcnt_cons,tcnt_nil,htk]
  exact Nat.le_refl _
 ·show (G.obs ++ [w.heap.size])[H.length]? = _
  rw [<- h.h.len,List.getElem?_append_right (Nat.le_refl _)]
  simp
end
end Go.AI
namespace Go.AI
section
variable {P : Program} {F : Nat -> Prop} {G : Gh} {w : World} {H : Heap} {R : AV -> Heap -> Prop}
theorem VRel.constT (G : Gh) (w : World) (ty : Option TypeId) (v : Value) : VRel G w (constT P ty v) v:=by
 unfold Go.AI.constT
 split
 ·exact .slnil _
 ·exact VRel.const1 G w v
theorem tok_constT (ty : Option TypeId) (v u : Value) (h : u = v) : tok (constT P ty v,u) = none:=by
 subst h
 unfold constT
 split
 ·cases nilOwn P ty <;> rfl
 ·exact tok_owned1 (const1_owned1 _) _
theorem Cells.constT (cs : List Value) (tys : List TypeId) (k : Nat) (hs : ((cs.zipIdx k).map fun (c,i) => Go.AI.constT P tys[i]? c).all AV.scalar = true) :
  Cells F G w ((cs.zipIdx k).map fun (c,i) => Go.AI.constT P tys[i]? c) cs /\ ctoks ((cs.zipIdx k).map fun (c,i) => Go.AI.constT P tys[i]? c) cs = []:=by
 induction cs generalizing k with
 | nil => exact ⟨.nil,rfl⟩
 | cons c cs ih =>
  simp only [List.zipIdx_cons,List.map_cons,List.all_cons,Bool.and_eq_true] at hs ⊢
  obtain ⟨h1,h2⟩:=ih (k + 1) hs.2
  refine ⟨?_, ?_⟩
  ·have one : Cells F G w [Go.AI.constT P tys[k]? c] [c]:=⟨rfl,fun i x y hx hy => by
    cases i with
    | zero => simp at hx hy; subst hx; subst hy; exact ⟨hs.1,VRel.constT G w _ c,TokOk.of_none (tok_constT _ c c rfl)⟩
    | succ i => simp at hx⟩
   exact one.append h1
  ·simp only [ctoks,List.zip_cons_cons,List.filterMap_cons,tok_constT _ c c rfl]
   exact h2
theorem zero_sem {t : TypeId} {z : AV} (h : zeroAV P t = some z) : ∃ zv,(∀ w,(zeroValue t).run P w = .ok zv w) /\ z.isVal = true /\
  (∀ (F : Nat -> Prop) (G : Gh) (w : World),Cells F G w z.cells zv.cells.toList) /\ ctoks z.cells zv.cells.toList = []:=by
 unfold zeroAV at h
 split at h
 ·rename_i cs hz
  split at h
  ·rename_i hs
   cases h
   cases hi : P.info? t with
   | none => rw [hi] at hz; cases hz
   | some i =>
    rw [hi] at hz
    have hz' : i.zero = some (.agg cs):=hz
    refine ⟨.agg cs,fun w => by simp [zeroValue,typeInfo,hi,hz'],rfl,fun F G w => ?_, ?_⟩
    ·exact (Cells.constT (F:=F) (G:=G) (w:=w) cs.toList (leafTys P 20 t) 0 hs).1
    ·exact (Cells.constT (F:=fun _ => False) (G:=⟨[],fun _ => .imm⟩) (w:=default) cs.toList (leafTys P 20 t) 0 hs).2
  ·cases h
 ·rename_i zv hne hz
  split at h
  ·rename_i hs
   cases h
   cases hi : P.info? t with
   | none => rw [hi] at hz; cases hz
   | some i =>
    rw [hi] at hz
    have hz' : i.zero = some zv:=hz
    have hval : (Go.AI.constT P (some t) zv).isVal = true:=by
     generalize Go.AI.constT P (some t) zv = c at hs
     cases c <;> first | rfl | cases hs
    have h1 : (Go.AI.constT P (some t) zv).cells = [Go.AI.constT P (some t) zv]:=by
     generalize Go.AI.constT P (some t) zv = c at hs
     cases c <;> first | rfl | cases hs
    have h2 : zv.cells.toList = [zv]:=by
     have:=VRel.constT (P:=P) ⟨[],fun _ => .imm⟩ default (some t) zv
     generalize Go.AI.constT P (some t) zv = c at hs this
     cases this <;> first | rfl | cases hs
    refine ⟨zv,fun w => by simp [zeroValue,typeInfo,hi,hz'],hval,fun F G w => ?_, ?_⟩
    ·rw [h1,h2]
     exact ⟨rfl,fun i x y hx hy => by
      cases i with
      | zero => simp at hx hy; subst hx; subst hy; exact ⟨hs,VRel.constT G w _ zv,TokOk.of_none (tok_constT _ zv zv rfl)⟩
      | succ i => simp at hx⟩
    ·rw [h1,h2]
     simp [ctoks,tok_constT _ zv zv rfl]
  ·cases h
 ·cases h
end
end Go.AI
