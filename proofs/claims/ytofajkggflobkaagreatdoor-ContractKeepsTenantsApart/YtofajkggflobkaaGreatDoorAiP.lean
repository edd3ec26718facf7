/- That the model's operations do what 'ares' says: new variables, literals, slices, appends, calls. -/
import Derived.Test.YtofajkggflobkaaGreatDoorMn
set_option linter.unusedSimpArgs false
set_option linter.unusedVariables false
namespace Go.AI
section
variable {P : Program} {F : Nat -> Prop} {G : Gh} {w : World} {H : Heap} {R : AV -> Heap -> Prop}
theorem ok_alloc {elem : TypeId} {z : AV} (h : CRel F G [] H [] w) (hz : zeroAV P elem = some z) (hr : R (.ptr H.length 0) (H ++ [some z.cells])) :
  OpRes P ((do let r <- Instr.alloc elem true (.tuple #[]); pure (Next.value r) : Sem Next).run P w) (KOut F G w R):=by
 obtain ⟨zv,hrun,hval,hc,ht⟩:=zero_sem hz
 have hc':=hc F G w
 refine .value (u:=.pointer (some ⟨w.heap.size,0,none⟩)) (w':=w.alloc (.cells zv.cells elem)) (by simp [Instr.alloc,newVar,newRow,hrun]) ⟨_,_,_,hr, ?_,ext_newObj h.h.fore _⟩
 refine h.newObj z.cells zv.cells elem (by have:=hc'.len; simp at this; omega) (fun i c x h1 h2 => hc'.at_ i c x h1 (by rw [Array.getElem?_toList]; exact h2)) (fun b => ?_) (.ptr _ _ _ ?_ ⟨_,_,heap_alloc_new w _⟩) (toks_scalar rfl rfl _)
 ·show List.count b (ctoks z.cells zv.cells.toList) <= _
  rw [ht]; simp
 ·show (G.obs ++ [w.heap.size])[H.length]? = _
  rw [<- h.h.len,List.getElem?_append_right (Nat.le_refl _)]
  simp
theorem ok_alloc_nil {elem : TypeId} (h : CRel F G [] H [] w) (hz : nilZ P elem = true) (hr : R (.ptr H.length 0) (H ++ [some [.sl (some 0) []]])) :
  OpRes P ((do let r <- Instr.alloc elem true (.tuple #[]); pure (Next.value r) : Sem Next).run P w) (KOut F G w R):=by
 unfold nilZ at hz
 split at hz
 case h_2 => cases hz
 rename_i hz0
 cases hi : P.info? elem with
 | none => rw [hi] at hz0; cases hz0
 | some i =>
  rw [hi] at hz0
  have hz' : i.zero = some (.slice none 0 0):=hz0
  have hrun : ∀ w,(zeroValue elem).run P w = .ok (.slice none 0 0) w:=fun w => by simp [zeroValue,typeInfo,hi,hz']
  refine .value (u:=.pointer (some ⟨w.heap.size,0,none⟩)) (w':=w.alloc (.cells #[.slice none 0 0] elem)) (by simp [Instr.alloc,newVar,newRow,hrun,Value.cells]) ⟨_,_,_,hr, ?_,ext_newObj h.h.fore _⟩
  have htk : tok (.sl (some 0) [],.slice none 0 0) = none:=rfl
  refine h.newObj [.sl (some 0) []] #[.slice none 0 0] elem (by simp) (fun i c x h1 h2 => ?_) (fun b => ?_) (.ptr _ _ _ ?_ ⟨_,_,heap_alloc_new w _⟩) (toks_scalar rfl rfl _)
  ·cases i with
   | zero => simp at h1 h2; subst h1; subst h2; exact ⟨rfl,.slnil _,TokOk.of_none htk⟩
   | succ i => simp at h1
  ·simp [htk]
  ·show (G.obs ++ [w.heap.size])[H.length]? = _
   rw [<- h.h.len,List.getElem?_append_right (Nat.le_refl _)]
   simp
theorem fold_set (off : Nat) : ∀ (l : List Value) (k : Nat) (cells : Array Value),off + k + l.length <= cells.size ->
  ((l.zipIdx k).foldl (fun cs p => cs.setIfInBounds (off + p.2) p.1) cells).toList = cells.toList.take (off + k) ++ l ++ cells.toList.drop (off + k + l.length)
 | [],k,cells,h => by simp
 | v :: l,k,cells,h => by
  simp only [List.zipIdx_cons,List.foldl_cons]
  rw [fold_set off l (k + 1) _ (by simp at h ⊢; omega)]
  have e:=list_seg_step cells.toList (off + k) v l (by simp at h ⊢; omega)
  simpa [Array.toList_setIfInBounds,Nat.add_assoc] using e
theorem fill_one (v : Value) (off : Nat) (cells : Array Value) (h : off + v.cells.size <= cells.size) :
  v.cells.zipIdx.foldl (fun cs (c,j) => cs.setIfInBounds (off + j) c) cells = (spliceV cells.toList off v.cells.toList).toArray:=by
 apply Array.ext'
 have:=fold_set off v.cells.toList 0 cells (by simpa using h)
 rw [<- Array.foldl_toList,Array.toList_zipIdx]
 simpa [spliceV] using this
theorem fill_sem (place : Nat -> Option (Nat × Nat)) : ∀ (is : List Nat) (vs : List AV) (us : List Value) (cs cs' : List AV) (C : Array Value),fillAV place cs is vs = some cs' -> LRel F G vs us w -> Cells F G w cs C.toList ->
  ∃ C',Instr.fill place C (is.zip us) = some C' /\ Cells F G w cs' C'.toList /\ ∀ b,(ctoks cs' C'.toList).count b <= (ctoks cs C.toList).count b + tcnt b vs us
 | [],[],us,cs,cs',C,h,hl,hc => by
  simp only [fillAV,Option.some.injEq] at h
  subst h
  exact ⟨C,by simp [Instr.fill],hc,fun b => by omega⟩
 | [],_ :: _,_,_,_,_,h,_,_ => by simp [fillAV] at h
 | _ :: _,[],_,_,_,_,h,_,_ => by simp [fillAV] at h
 | i :: is,v :: vs,us,cs,cs',C,h,hl,hc => by
  match us,hl.len with
  | u :: us,_ =>
   obtain ⟨hv,ht,hl'⟩:=hl.uncons
   simp only [fillAV] at h
   split at h
   ·rename_i off size hp
    split at h
    ·rename_i hcond
     obtain ⟨hval,hk,hle⟩:=hcond
     obtain ⟨hcv,htk⟩:=cells_of hval hv ht
     have hus : u.cells.size = size:=by have:=(val_shape hval hv).2.2; omega
     have hCs : cs.length = C.size:=by simpa using hc.len
     obtain ⟨C',h1,h2,h3⟩:=fill_sem place is vs us (splice cs off v.cells) cs' (spliceV C.toList off u.cells.toList).toArray h hl' (by simpa using hc.splice (off:=off) hcv)
     refine ⟨C', ?_,h2,fun b => ?_⟩
     ·simp only [List.zip_cons_cons,Instr.fill,hp]
      rw [if_neg (by simp [hus]; omega),fill_one u off C (by omega)]
      exact h1
     ·have g1:=h3 b
      have g2:=ctoks_splice (cs:=cs) (xs:=v.cells) (vs:=C.toList) (ys:=u.cells.toList) (off:=off) hc.len hcv.len b
      rw [tcnt_cons,htk]
      simp only [List.toList_toArray] at g1
      omega
    ·cases h
   ·cases h
theorem zip_parts (ρ : Operand -> Value) : ∀ (ps : List (Nat × Operand)),(ps.map (·.1)).zip (ps.map fun p => ρ p.2) = ps.map fun p => (p.1,ρ p.2)
 | [] => rfl
 | p :: ps => by simp [zip_parts ρ ps]
theorem ok_build_parts {t : TypeId} {ps : List (Nat × Operand)} {ρ : Operand -> Value} {place : Nat -> Option (Nat × Nat)} {vs z cs : List AV} (h : CRel F G vs H (ps.map fun p => ρ p.2) w) (hz : zeroAV P t = some (.agg z))
  (hf : fillAV place z (ps.map (·.1)) vs = some cs) (hr : R (.agg cs) H)
  (hb : ∀ (zv : Value) (cells : Array Value),(∀ w,(zeroValue t).run P w = .ok zv w) -> Instr.fill place zv.cells (ps.map fun p => (p.1,ρ p.2)) = some cells -> (Instr.build t (ps.map fun p => (p.1,ρ p.2)).toArray).run P w = .ok (.agg cells) w) :
  OpRes P ((do let r <- Instr.build t (ps.map fun p => (p.1,ρ p.2)).toArray; pure (Next.value r) : Sem Next).run P w) (KOut F G w R):=by
 obtain ⟨zv,hrun,hval,hc,ht⟩:=zero_sem hz
 obtain ⟨C',h1,h2,h3⟩:=fill_sem (F:=F) (G:=G) (w:=w) place _ _ _ _ _ zv.cells hf h.l (hc F G w)
 rw [zip_parts] at h1
 have hbuild:=hb zv C' hrun h1
 obtain ⟨g1,g2,g3⟩:=agg_of h2
 rw [Array.toArray_toList] at g1 g2 g3
 refine .value (u:=.agg C') (w':=w) (by rw [Sem.run_bind,hbuild]; rfl) (KOut.same (h.one g1 g2 fun b => ?_) hr)
 rw [g3]
 have:=h3 b
 simp only [AV.cells] at ht
 rw [ht] at this
 simpa using this
theorem ok_build_struct {t : TypeId} {fs : Array Field} {ps : List (Nat × Operand)} {ρ : Operand -> Value} {vs z cs : List AV} (h : CRel F G vs H (ps.map fun p => ρ p.2) w) (hu : P.underlying t = some (.struct fs)) (hfs : fieldsOk P fs = true)
  (hz : zeroAV P t = some (.agg z)) (hf : fillAV ((fieldPlaces P fs)[·]?) z (ps.map (·.1)) vs = some cs) (hr : R (.agg cs) H) :
  OpRes P ((do let r <- Instr.build t (ps.map fun p => (p.1,ρ p.2)).toArray; pure (Next.value r) : Sem Next).run P w) (KOut F G w R):=by
 refine ok_build_parts h hz hf hr fun zv cells hrun hfill => ?_
 obtain ⟨i,hi⟩:=underlying_info hu
 have hzero : i.zero = some zv:=by
  have:=hrun w
  simp only [zeroValue,typeInfo,Sem.run_bind,run_program,Result.andThen_ok,hi,Sem.run_pure] at this
  cases hz' : i.zero with
  | none => rw [hz'] at this; cases this
  | some v => rw [hz'] at this; cases this; rfl
 have hpl : fs.toList.mapM (fun f => (P.info? f.type).map fun i => (f.offset,i.size)) = some (fieldPlaces P fs).toList:=by
  have hall : ∀ f ∈ fs.toList,(P.info? f.type).isSome = true:=by
   intro f hf'
   have:=Array.all_eq_true_iff_forall_mem.1 hfs f (by simpa using hf')
   exact this
  have : (fieldPlaces P fs).toList = fs.toList.map fun f => (f.offset,P.cellsOf f.type):=by simp [fieldPlaces]
  rw [this]
  clear hf hfill hu hfs this
  revert hall
  generalize fs.toList = L
  intro hall
  induction L with
  | nil => rfl
  | cons f l ih =>
   have h1:=hall f (by simp)
   obtain ⟨fi,hfi⟩:=Option.isSome_iff_exists.1 h1
   have ih':=ih fun g hg => hall g (by simp [hg])
   simp only [List.mapM_cons,Option.bind_eq_bind,Option.pure_def,hfi,Option.map_some,Option.bind_some,ih',List.map_cons,Program.cellsOf,Option.getD_some]
 refine run_build w t _ cells ?_
 simp only [Program.built,hi,hu,hzero,hpl]
 simpa using hfill
theorem ok_build_array {t e n : Nat} {ps : List (Nat × Operand)} {ρ : Operand -> Value} {vs z cs : List AV} (h : CRel F G vs H (ps.map fun p => ρ p.2) w) (hu : P.underlying t = some (.array n e)) (he : (P.info? e).isSome = true)
  (hz : zeroAV P t = some (.agg z)) (hf : fillAV (fun i => some (i * P.cellsOf e,P.cellsOf e)) z (ps.map (·.1)) vs = some cs) (hr : R (.agg cs) H) :
  OpRes P ((do let r <- Instr.build t (ps.map fun p => (p.1,ρ p.2)).toArray; pure (Next.value r) : Sem Next).run P w) (KOut F G w R):=by
 refine ok_build_parts h hz hf hr fun zv cells hrun hfill => ?_
 obtain ⟨i,hi⟩:=underlying_info hu
 obtain ⟨ie,hie⟩:=Option.isSome_iff_exists.1 he
 have hzero : i.zero = some zv:=by
  have:=hrun w
  simp only [zeroValue,typeInfo,Sem.run_bind,run_program,Result.andThen_ok,hi,Sem.run_pure] at this
  cases hz' : i.zero with
  | none => rw [hz'] at this; cases this
  | some v => rw [hz'] at this; cases this; rfl
 refine run_build w t _ cells ?_
 simp only [Program.built,hi,hu,hzero,hie]
 have hce : P.cellsOf e = ie.size:=by simp [Program.cellsOf,hie]
 rw [hce] at hfill
 simpa using hfill
theorem fill_row (size : Nat) : ∀ (us : List Value) (k : Nat) (C : Array Value),(∀ u ∈ us,u.cells.size = size) -> C.size = (k + us.length) * size ->
  Instr.fill (fun i => some (i * size,size)) C ((List.range' k us.length).zip us) = some (C.toList.take (k * size) ++ us.flatMap fun u => u.cells.toList).toArray
 | [],k,C,_,hC => by
  simp only [List.length_nil,Nat.add_zero] at hC
  simp [Instr.fill,List.take_of_length_le,hC]
 | u :: us,k,C,hs,hC => by
  have hu : u.cells.size = size:=hs u (by simp)
  have hC' : C.size = k * size + size + us.length * size:=by rw [hC]; simp only [List.length_cons,Nat.add_mul]; omega
  simp only [List.length_cons,List.range'_succ,List.zip_cons_cons,Instr.fill]
  rw [if_neg (by simp [hu]; omega),fill_one u (k * size) C (by omega),fill_row size us (k + 1) _ (fun x hx => hs x (by simp [hx])) ?_]
  ·congr 1
   apply Array.ext'
   simp only [List.toList_toArray,List.flatMap_cons]
   have e : (spliceV C.toList (k * size) u.cells.toList).take ((k + 1) * size) = C.toList.take (k * size) ++ u.cells.toList:=by
    unfold spliceV
    rw [List.take_append_of_le_length (by simp; rw [Nat.add_mul]; omega),List.take_of_length_le (by simp; rw [Nat.add_mul]; omega)]
   rw [e,List.append_assoc]
  ·simp only [spliceV,List.size_toArray,List.length_append,List.length_take,List.length_drop,Array.length_toList,hu,Nat.add_mul] at *
   omega
theorem cells_cat : ∀ (vs : List AV) (us : List Value),LRel F G vs us w -> (∀ v ∈ vs,v.isVal = true) -> Cells F G w (cat (vs.map AV.borrow)) (us.flatMap fun u => u.cells.toList)
 | [],us,h,_ => by
  match us,h.len with
  | [],_ => exact .nil
 | v :: vs,us,h,hv => by
  match us,h.len with
  | u :: us,_ =>
   obtain ⟨h1,h2,h3⟩:=h.uncons
   have hval : v.borrow.isVal = true:=by
    have:=hv v (by simp)
    cases v <;> first | rfl | cases this
   have hc:=(cells_of hval h1.borrow (tok_nil_all (toks_borrow v u) F G w)).1
   have:=cells_cat vs us h3 fun x hx => hv x (by simp [hx])
   simp only [List.map_cons,cat,List.flatMap_cons]
   exact hc.append this
theorem cells_borrow_len (v : AV) : v.borrow.cells.length = v.cells.length:=by
 cases v <;> simp [AV.borrow,borrow0,AV.cells]
theorem ok_buildSlice {t e len : Nat} {ps : List (Nat × Operand)} {ρ : Operand -> Value} {vs : List AV} (h : CRel F G vs H (ps.map fun p => ρ p.2) w) (hu : P.underlying t = some (.slice e)) (hpos : 0 < P.cellsOf e) (hsmall : len * P.cellsOf e <= 16777216)
  (hidx : ps.map (·.1) = List.range len) (hvs : ∀ v ∈ vs,v.isVal = true /\ v.cells.length = P.cellsOf e) (hz : zeroOk P e = true) (hr : R (.sl (some (P.cellsOf e)) (vs.map AV.borrow)) H) :
  OpRes P ((do let r <- Instr.buildSlice t len (ps.map fun p => (p.1,ρ p.2)).toArray; pure (Next.value r) : Sem Next).run P w) (KOut F G w R):=by
 have hpl : ps.length = len:=by have:=congrArg List.length hidx; simpa using this
 have hvl : vs.length = len:=by have:=h.l.len; simp at this; omega
 have hus : ∀ u ∈ ps.map (fun p => ρ p.2),u.cells.size = P.cellsOf e:=by
  intro u hu'
  obtain ⟨i,hi⟩:=List.getElem?_of_mem hu'
  have hlt:=(List.getElem?_eq_some_iff.1 hi).1
  simp at hlt
  have hv : vs[i]? = some (vs[i]'(by omega)):=List.getElem?_eq_getElem _
  obtain ⟨g1,g2⟩:=hvs _ (List.mem_of_getElem? hv)
  have:=(val_shape g1 (h.l.rel i _ u hv hi)).2.2
  omega
 unfold zeroOk at hz
 split at hz
 ·rename_i i hi
  split at hz
  ·rename_i z hz'
   have key : ∀ zc : Array Value,Instr.fill (fun i => some (i * P.cellsOf e,P.cellsOf e)) ((Array.range (len * P.cellsOf e)).map (zc[· % zc.size]!)) (ps.map fun p => (p.1,ρ p.2)) =
     some ((ps.map fun p => ρ p.2).flatMap fun u => u.cells.toList).toArray:=fun zc => by
    have hfill:=fill_row (P.cellsOf e) (ps.map fun p => ρ p.2) 0 ((Array.range (len * P.cellsOf e)).map (zc[· % zc.size]!)) hus (by simp [hpl])
    rw [show (List.range' 0 (ps.map fun p => ρ p.2).length) = ps.map (·.1) by rw [hidx,List.range_eq_range']; simp [hpl],zip_parts] at hfill
    simpa using hfill
   have hcc:=cells_cat vs _ h.l fun v hv => (hvs v hv).1
   have hrun : (Instr.buildSlice t len (ps.map fun p => (p.1,ρ p.2)).toArray).run P w = .ok (.slice (some ⟨w.heap.size,0,none⟩) len len) (w.alloc (.cells ((ps.map fun p => ρ p.2).flatMap fun u => u.cells.toList).toArray e)):=by
    have hs : (sizeOf e).run P w = .ok (P.cellsOf e) w:=run_sizeOf_pos hpos w
    simp only [Instr.buildSlice,Sem.run_bind,run_underlying hu,Result.andThen_ok,hs,Sem.run_ite]
    rw [if_neg (by omega)]
    simp only [Sem.run_pure,Result.andThen_ok]
    by_cases h0 : len * P.cellsOf e = 0
    ·simp only [if_pos h0,key]
     simp [newRow]
    ·simp only [if_neg h0,zeroValue,typeInfo,Sem.run_bind,run_program,Result.andThen_ok,hi,hz',Sem.run_pure,key]
     simp [newRow]
   obtain ⟨G',hc1,hc2⟩:=h.newList (vs.map AV.borrow) (P.cellsOf e) len ((ps.map fun p => ρ p.2).flatMap fun u => u.cells.toList).toArray e hpos (fun x hx => by
     obtain ⟨v,hv,rfl⟩:=List.mem_map.1 hx
     rw [cells_borrow_len]; exact (hvs v hv).2) (by simp [hvl]) (by
      have : len <= len * P.cellsOf e:=Nat.le_mul_of_pos_right _ hpos
      unfold maxLen; omega) (by
      have:=hcc.len
      rw [cat_length (n:=P.cellsOf e) fun x hx => by
       obtain ⟨v,hv,rfl⟩:=List.mem_map.1 hx
       rw [cells_borrow_len]; exact (hvs v hv).2] at this
      simp only [List.length_map,hvl] at this
      simp only [List.size_toArray]
      omega) (fun i c hi' => by
       have hlt:=(List.getElem?_eq_some_iff.1 hi').1
       have hx:=List.getElem?_eq_getElem (l:=(ps.map fun p => ρ p.2).flatMap fun u => u.cells.toList) (i:=i) (by rw [<- hcc.len]; exact hlt)
       obtain ⟨s1,s2,_⟩:=hcc.at_ i c _ hi' hx
       exact ⟨s1,_,by simp,s2⟩)
   simp only [List.length_map,hvl] at hc1
   exact .value (by rw [Sem.run_bind,hrun]; rfl) ⟨_,H,G',hr,hc1,hc2⟩
  ·cases hz
 ·cases hz
end
end Go.AI
