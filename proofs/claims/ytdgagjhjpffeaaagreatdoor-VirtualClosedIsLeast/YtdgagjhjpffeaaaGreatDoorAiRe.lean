/- That the model's operations do what 'ares' says: iterators over strings and maps. -/
import Derived.Test.YtdgagjhjpffeaaaGreatDoorAiRd
import Derived.Maps.RangeRun
set_option linter.unusedSimpArgs false
set_option linter.unusedVariables false
namespace Go.AI
section
variable {P : Program} {F : Nat -> Prop} {G : Gh} {w : World} {H : Heap} {R : AV -> Heap -> Prop}
theorem seenOf_map (l : List Nat) : seenOf (l.map fun (i : Nat) => AV.int .i64 (i : Int)) = l.map fun (i : Nat) => (i : Int):=by
 induction l with
 | nil => rfl
 | cons x xs ih =>
  show (x : Int) :: seenOf (xs.map fun (i : Nat) => AV.int .i64 (i : Int)) = _
  rw [ih]; rfl
theorem iter_lays {t : TypeId} {u : Value} {X : Obj} {cs : List AV} {vs : List AV} {us : List Value} (hc : CRel F G vs H us w) (hrun : (Instr.range t u).run P w = .ok (.pointer (some ⟨w.heap.size,0,none⟩)) (w.alloc X))
  (hX : ∀ C E f,X ≠ .cells C E f) (his : IterIs (G.newK w.heap.size .iter) (w.alloc X) cs w.heap.size) (hr : R (.it H.length) (H ++ [some cs])) :
  OpRes P ((do let v <- Instr.range t u; pure (Next.value v) : Sem Next).run P w) (KOut F G w R):=by
 refine .value (by rw [Sem.run_bind,hrun]; rfl) ⟨_,_,G.newK w.heap.size .iter,hr, ?_,ext_newK hc.h.fore _ _⟩
 have hkn : (G.newK w.heap.size .iter).kind w.heap.size = .iter:=G.kind_set _ _
 have hlen:=hc.h.len
 refine hc.newG .iter X cs ⟨fun hF => absurd (hc.h.fore _ hF) (Nat.lt_irrefl _),by rw [hkn]; exact his⟩ (.cons (.it _ _ ?_ (by rw [size_alloc]; omega) hkn) (tok_nil_all (toks_owned rfl _) F _ _) (.nil F _ _)) (fun b => ?_)
 ·show (G.obs ++ [w.heap.size])[H.length]? = _
  rw [List.getElem?_append_right (by omega),hlen,Nat.sub_self]; rfl
 ·rw [tcnt_cons,tcnt_nil,toks_owned rfl]
  have : btoks cs X = []:=by cases X <;> first | rfl | exact absurd rfl (hX _ _ _)
  rw [this]; simp
theorem ok_range {t : TypeId} {x : AV} {u : Value} (hc : CRel F G [x] H [u] w) (hr : arange P t H x R) :
  OpRes P ((do let v <- Instr.range t u; pure (Next.value v) : Sem Next).run P w) (KOut F G w R):=by
 have hx:=hc.l.rel 0 _ _ rfl rfl
 unfold arange at hr
 split at hr
 ·rename_i s hu
  cases hx
  exact iter_lays hc (by simp [Instr.range,run_underlying hu,Result.andThen]) (fun _ _ _ e => by cases e) (.inl ⟨s,0,heap_alloc_new _ _,rfl⟩) hr
 ·rename_i hu
  cases hx
  exact iter_lays hc (by simp [Instr.range,run_underlying hu,Result.andThen]) (fun _ _ _ e => by cases e) (.inr (.inl ⟨heap_alloc_new _ _,rfl⟩)) hr
 ·rename_i kt et o' hu
  split at hr
  ·rename_i es he
   rcases map_at hc hx he with ⟨h,_⟩ | ⟨o,b,ms,cl,ho,rfl,hob,hkb,hms,hl,hH,hrel⟩
   ·cases h
   cases ho
   obtain ⟨hcl,hborn⟩:=map_births hc hH hob hkb hms
   have hext:=ext_newK (F:=F) (G:=G) hc.h.fore (.mapIter (some b) cl #[] cl) .iter
   refine iter_lays (X:=.mapIter (some b) cl #[] cl) hc (by simp [Instr.range,run_underlying hu,Result.andThen,MapKept.run_getObj_map hms]) (fun _ _ _ e => by cases e) (.inr (.inr ⟨o',b,cl,[],heap_alloc_new _ _, ?_,hx.keep hext.keeps⟩)) hr
   rw [hcl,<- hl]
  ·exact hr.elim
 ·exact hr.elim
theorem iter_at {o : Nat} {u : Value} {cs : List AV} {vs : List AV} {us : List Value} (hc : CRel F G vs H us w) (hx : VRel G w (.it o) u) (ho : H[o]? = some (some cs)) : ∃ b,u = .pointer (some ⟨b,0,none⟩) /\ G.obs[o]? = some b /\ G.kind b = .iter /\ IterIs G w cs b:=by
 cases hx with
 | it _ b h hb hk =>
  have hi:=(hc.h.obj o cs b ho h).is
  rw [hk] at hi
  exact ⟨b,rfl,h,hk,hi⟩
theorem tup_out {vs : List AV} {us : Array Value} (hc : ∃ a ua,CRel F G a H ua w) (hl : vs.length = us.size) (hv : ∀ (i : Nat) (c : AV) (u : Value),vs[i]? = some c -> us[i]? = some u -> c.isVal = true /\ c.borrow = c /\ VRel G w c u) :
  VRel G w (.tup vs) (.tuple us) /\ toks (.tup vs) (.tuple us) = []:=by
 have hget : ∀ c ∈ vs,c.isVal = true /\ c.borrow = c:=fun c hc' => by
  obtain ⟨i,hi⟩:=List.getElem?_of_mem hc'
  have hlt:=(List.getElem?_eq_some_iff.1 hi).1
  obtain ⟨h1,h2,_⟩:=hv i c _ hi (Array.getElem?_eq_getElem (by omega))
  exact ⟨h1,h2⟩
 refine ⟨.tup _ _ hl (fun c hc' => (hget c hc').1) fun i c x h1 h2 => (hv i c x h1 h2).2.2,toks_owned ?_ _⟩
 show ((vs.flatMap AV.cells).any owned1) = false
 rw [List.any_eq_false]
 intro c hc' h
 obtain ⟨v,hv',hcv⟩:=List.mem_flatMap.1 hc'
 obtain ⟨h1,h2⟩:=hget v hv'
 have hb : v.borrow.cells = v.cells.map borrow1:=by cases v <;> first | rfl | cases h1
 rw [<- h2,hb] at hcv
 obtain ⟨d,_,rfl⟩:=List.mem_map.1 hcv
 cases d <;> cases h
theorem borrow_val {v : AV} (h : v.isVal = true) : v.borrow.borrow = v.borrow /\ v.borrow.isVal = true:=by
 refine ⟨?_,by cases v <;> first | rfl | cases h⟩
 cases v with
 | agg cs =>
  show AV.agg ((cs.map borrow1).map borrow1) = AV.agg (cs.map borrow1)
  rw [List.map_map]
  congr 1
  apply List.map_congr_left
  intro c _
  cases c <;> rfl
 | tup _ => cases h
 | _ => rfl
theorem ok_next {o' : Nat} {u : Value} {str : Bool} {ty : TypeId} (hc : CRel F G [.it o'] H [u] w) (hr : anext str H o' R) :
  OpRes P ((do let v <- Instr.next u str ty; pure (Next.value v) : Sem Next).run P w) (KOut F G w R):=by
 have hx:=hc.l.rel 0 _ _ rfl rfl
 unfold anext at hr
 have over : (∃ a ua,CRel F G a H ua w) -> VRel G w (.tup [.bool false]) (.tuple #[.bool false]) /\ toks (.tup [.bool false]) (.tuple #[.bool false]) = []:=fun h => tup_out h rfl fun i c x h1 h2 => by
  match i with
  | 0 => simp at h1 h2; subst h1; subst h2; exact ⟨rfl,rfl,.bool false⟩
  | i + 1 => simp at h1
 split at hr
 · -- over a string
  rename_i s pos ho
  obtain ⟨b,rfl,hob,hkb,hi⟩:=iter_at hc hx ho
  rcases hi with ⟨s',p',h1,h2⟩ | ⟨_,h2⟩ | ⟨_,_,_,_,_,h2,_⟩
  ·cases h2
   rw [Int.toNat_natCast] at hr
   by_cases hp : p' < s.size
   ·rw [if_pos hp] at hr
    have hrun : (do let v <- Instr.next (.pointer (some ⟨b,0,none⟩)) true ty; pure (Next.value v) : Sem Next).run P w = .ok (.value (.tuple #[.bool true,goInt p',.int .i32 (Utf8.decode s p').1])) (w.putObj b (.stringIter s (p' + (Utf8.decode s p').2))):=by
     simp [Instr.next,getObj,setObj,Sem.run,h1,Result.andThen,hp,World.putObj]
    have hor:=hc.h.obj o' _ b ho hob
    have he2 : Ext F G w G (w.putObj b (.stringIter s (p' + (Utf8.decode s p').2))):=ext_putObj hor.own h1 (fun _ _ _ e => by cases e)
    obtain ⟨g1,g2⟩:=tup_out (G:=G) (w:=w) (F:=F) (H:=H) (vs:=[.bool true,.int .i64 p',.int .i32 (Utf8.decode s p').1]) (us:=#[.bool true,goInt p',.int .i32 (Utf8.decode s p').1]) ⟨_,_,hc⟩ rfl fun i c x k1 k2 => by
     match i with
     | 0 => simp at k1 k2; subst k1; subst k2; exact ⟨rfl,rfl,.bool true⟩
     | 1 => simp at k1 k2; subst k1; subst k2; exact ⟨rfl,rfl,.int _ _⟩
     | 2 => simp at k1 k2; subst k1; subst k2; exact ⟨rfl,rfl,.int _ _⟩
     | i + 3 => simp at k1
    obtain ⟨h3,h4⟩:=hc.setSp (X:=.stringIter s (p' + (Utf8.decode s p').2)) ho hob (by rw [hkb]; rfl) (fun _ _ _ e => by cases e) (cs':=iterS s ((p' + (Utf8.decode s p').2 : Nat) : Int)) ⟨hor.own,by
     rw [hkb]; exact .inl ⟨s,_,World.putObj_heap_same hor.lt,rfl⟩⟩ (.cons g1 (tok_nil_all g2 F G w) (.nil F G w)) (fun x => by rw [tcnt_cons,tcnt_nil,g2]; simp)
    rw [hrun]
    exact ⟨_,_,G,hr,h3,h4⟩
   ·rw [if_neg hp] at hr
    have hrun : (do let v <- Instr.next (.pointer (some ⟨b,0,none⟩)) true ty; pure (Next.value v) : Sem Next).run P w = .ok (.value (.tuple #[.bool false])) w:=by
     simp [Instr.next,getObj,Sem.run,h1,Result.andThen,hp]
    rw [hrun]
    exact KOut.plain hc hr (over ⟨_,_,hc⟩).1 (over ⟨_,_,hc⟩).2
  ·cases h2
  ·cases h2
 · -- over no map
  rename_i ho
  obtain ⟨b,rfl,hob,hkb,hi⟩:=iter_at hc hx ho
  rcases hi with ⟨s',p',h1,h2⟩ | ⟨h1,h2⟩ | ⟨_,_,_,_,_,h2,_⟩
  ·cases h2
  ·have hrun : (do let v <- Instr.next (.pointer (some ⟨b,0,none⟩)) false ty; pure (Next.value v) : Sem Next).run P w = .ok (.value (.tuple #[.bool false])) w:=by
    simp [Instr.next,getObj,Sem.run,h1,Result.andThen]
   rw [hrun]
   exact KOut.plain hc hr (over ⟨_,_,hc⟩).1 (over ⟨_,_,hc⟩).2
  ·cases h2
 · -- over a map
  rename_i m since seen ho
  obtain ⟨b,rfl,hob,hkb,hi⟩:=iter_at hc hx ho
  rcases hi with ⟨s',p',h1,h2⟩ | ⟨h1,h2⟩ | ⟨om,mb,si,se,h1,h2,h3⟩
  ·cases h2
  ·cases h2
  ·simp only [iterM,List.cons.injEq,AV.mapr.injEq,AV.int.injEq,AV.tup.injEq,and_true,true_and] at h2
   obtain ⟨rfl,rfl,rfl⟩:=h2
   split at hr
   ·rename_i es he
    obtain ⟨hs,hend,hstep⟩:=hr
    rw [seenOf_map] at hend hstep
    rcases map_at hc h3 he with ⟨h,_⟩ | ⟨o,b2,ms,cl,ho2,hb2,hob2,hkb2,hms,hl,hH,hrel⟩
    ·cases h
    cases ho2; cases hb2
    obtain ⟨hcl,hborn⟩:=map_births hc hH hob2 hkb2 hms
    have hsi : si = es.length:=by omega
    have hin : ∀ e ∈ (leftOf ms se.toArray).toList,∃ i : Nat,ms[i]? = some e /\ e.born = i /\ i ∉ se:=fun e he' => by
     unfold leftOf at he'
     rw [Array.toList_filter,List.mem_filter] at he'
     obtain ⟨i,hi⟩:=List.getElem?_of_mem he'.1
     rw [Array.getElem?_toList] at hi
     refine ⟨i,hi,hborn i e hi,fun hse => ?_⟩
     have:=he'.2
     rw [hborn i e hi] at this
     simp [hse] at this
    rcases run_next_at (P:=P) w ty b mb si si se.toArray ms cl h1 hms (fun x hx' => by
      obtain ⟨i,hi⟩:=List.getElem?_of_mem hx'
      rw [Array.getElem?_toList] at hi
      rw [hborn i x hi]
      have:=(Array.getElem?_eq_some_iff.1 hi).1
      omega) (Nat.le_refl _) with ⟨g1,g2⟩ | ⟨e,g1,w1,g2,g3⟩
    ·rw [Sem.run_bind,g2]
     refine KOut.plain hc (hend fun i hi => ?_) (over ⟨_,_,hc⟩).1 (over ⟨_,_,hc⟩).2
     cases hd : decide (i ∈ se) with
     | true => exact List.mem_map.2 ⟨i,of_decide_eq_true hd,rfl⟩
     | false =>
      exfalso
      have hlt : i < ms.size:=by omega
      have hm : ms[i] ∈ (leftOf ms se.toArray).toList:=by
       unfold leftOf
       rw [Array.toList_filter,List.mem_filter]
       refine ⟨by simp, ?_⟩
       rw [hborn i ms[i] (Array.getElem?_eq_getElem hlt)]
       simpa using hd
      have : (leftOf ms se.toArray).toList.length = 0:=by simpa using g1
      rw [List.length_eq_zero_iff.1 this] at hm
      cases hm
    ·obtain ⟨i,hi,hbi,hns⟩:=hin e g1
     have hlt:=(Array.getElem?_eq_some_iff.1 hi).1
     obtain ⟨p,hp⟩ : ∃ p,es[i]? = some p:=⟨_,List.getElem?_eq_getElem (by omega)⟩
     obtain ⟨r1,r2,r3,r4⟩:=hrel i p e hp hi
     have hstep:=hstep i p hp (fun hm => by
      obtain ⟨j,hj,hj2⟩:=List.mem_map.1 hm
      have : j = i:=by omega
      subst this
      exact hns hj)
     rw [Sem.run_bind,g3]
     have fin : ∀ w1 : World,CRel F G [.it o'] H [.pointer (some ⟨b,0,none⟩)] w1 -> Ext F G w G w1 -> w1.heap = w.heap ->
       KOut F G w R (.tuple #[.bool true,e.key,e.val]) (ChangeMaps.setBlock w1 b (.mapIter (some mb) si (se.toArray.push e.born) cl)):=by
      intro w1 hc1 hext1 hh1
      have hor:=hc1.h.obj o' _ b ho hob
      have hb1 : w1.heap[b]? = some (.mapIter (some mb) si se.toArray si):=by rw [hh1]; exact h1
      have he2 : Ext F G w1 G (w1.putObj b (.mapIter (some mb) si (se.toArray.push e.born) cl)):=ext_putObj hor.own hb1 (fun _ _ _ e => by cases e)
      obtain ⟨k1,k2⟩:=tup_out (G:=G) (w:=w1) (F:=F) (H:=H) (vs:=[.bool true,p.1.borrow,p.2.borrow]) (us:=#[.bool true,e.key,e.val]) ⟨_,_,hc1⟩ rfl fun j c x m1 m2 => by
       match j with
       | 0 => simp at m1 m2; subst m1; subst m2; exact ⟨rfl,rfl,.bool true⟩
       | 1 => simp at m1 m2; subst m1; subst m2; exact ⟨(borrow_val r1).2,(borrow_val r1).1,(r3.keep hext1.keeps).borrow⟩
       | 2 => simp at m1 m2; subst m1; subst m2; exact ⟨(borrow_val r2).2,(borrow_val r2).1,(r4.keep hext1.keeps).borrow⟩
       | j + 3 => simp at m1
      obtain ⟨h5,h6⟩:=hc1.setSp (X:=.mapIter (some mb) si (se.toArray.push e.born) cl) ho hob (by rw [hkb]; rfl) (fun _ _ _ e => by cases e) (cs':=[.mapr m,.int .i64 (si : Int),.tup ((se.map fun (i : Nat) => AV.int .i64 (i : Int)) ++ [.int .i64 (i : Int)])]) ⟨hor.own,by
       rw [hkb]
       refine .inr (.inr ⟨m,mb,si,se ++ [i], ?_,by simp [iterM],((h3.keep hext1.keeps).keep he2.keeps)⟩)
       have e1 : cl = si:=by omega
       have e2 : se.toArray.push e.born = (se ++ [i]).toArray:=by rw [hbi]; simp
       rw [World.putObj_heap_same hor.lt,e1,e2]⟩ (.cons k1 (tok_nil_all k2 F G w1) (.nil F G w1)) (fun x => by rw [tcnt_cons,tcnt_nil,k2]; simp)
      exact ⟨_,_,G,hstep,h5,hext1.trans h6⟩
     rcases g2 with rfl | rfl
     ·exact fin _ hc (Ext.refl F G _) rfl
     ·exact fin _ hc.draw ext_draw rfl
   ·exact hr.elim
 ·exact hr.elim
theorem ok_entry {o' : Nat} {u : Value} (hc : CRel F G [.it o'] H [u] w) (hr : aentry H o' R) :
  OpRes P ((do let v <- Instr.entry u; pure (Next.value v) : Sem Next).run P w) (KOut F G w R):=by
 have hx:=hc.l.rel 0 _ _ rfl rfl
 unfold aentry at hr
 split at hr
 ·rename_i m since seen ho
  obtain ⟨b,rfl,hob,hkb,hi⟩:=iter_at hc hx ho
  rcases hi with ⟨s',p',h1,h2⟩ | ⟨h1,h2⟩ | ⟨om,mb,si,se,h1,h2,h3⟩
  ·cases h2
  ·cases h2
  ·simp only [iterM,List.cons.injEq,AV.mapr.injEq,AV.int.injEq,AV.tup.injEq,and_true,true_and] at h2
   obtain ⟨rfl,rfl,rfl⟩:=h2
   split at hr
   ·rename_i es i he hlast
    obtain ⟨hs,p,hp,hR⟩:=hr
    rcases map_at hc h3 he with ⟨h,_⟩ | ⟨o,b2,ms,cl,ho2,hb2,hob2,hkb2,hms,hl,hH,hrel⟩
    ·cases h
    cases ho2; cases hb2
    obtain ⟨hcl,hborn⟩:=map_births hc hH hob2 hkb2 hms
    have hlast2 : ∃ j : Nat,se.getLast? = some j /\ i = (j : Int):=by
     rw [List.getLast?_map] at hlast
     cases hj : se.getLast? with
     | none => rw [hj] at hlast; cases hlast
     | some j => rw [hj] at hlast; simp at hlast; exact ⟨j,rfl,hlast.symm⟩
    obtain ⟨j,hj,rfl⟩:=hlast2
    rw [Int.toNat_natCast] at hp
    have hlt:=(List.getElem?_eq_some_iff.1 hp).1
    have hmj : ms[j]? = some (ms[j]'(by omega)):=Array.getElem?_eq_getElem _
    obtain ⟨se',rfl⟩ : ∃ se',se = se' ++ [j]:=⟨se.dropLast,by
     cases hse : se with
     | nil => rw [hse] at hj; cases hj
     | cons x xs =>
      rw [hse] at hj
      rw [List.getLast?_eq_some_getLast (by simp)] at hj
      cases hj
      exact (List.dropLast_concat_getLast (by simp)).symm⟩
    have e2 : ((se' ++ [j]).toArray : Array Nat) = se'.toArray.push (ms[j]'(by omega)).born:=by rw [hborn j _ hmj]; simp
    have e1 : cl = si:=by omega
    have hrun:=run_entry_at (P:=P) w b mb si se'.toArray ms cl (ms[j]'(by omega)) (by rw [<- e2,e1]; exact h1) hms (by simp) (by
     have : ms.toList.map (·.born) = List.range ms.size:=by
      refine List.ext_getElem? fun k => ?_
      rw [List.getElem?_map,Array.getElem?_toList]
      by_cases hk : k < ms.size
      ·rw [Array.getElem?_eq_getElem hk,List.getElem?_range hk]
       simp [hborn k _ (Array.getElem?_eq_getElem hk)]
      ·rw [Array.getElem?_eq_none (by omega),List.getElem?_eq_none (by simp; omega)]; rfl
     rw [this]; exact List.nodup_range)
    rw [Sem.run_bind,hrun]
    obtain ⟨r1,r2,r3,r4⟩:=hrel j p _ hp hmj
    obtain ⟨k1,k2⟩:=tup_out (G:=G) (w:=w) (F:=F) (H:=H) (vs:=[p.1.borrow,p.2.borrow]) (us:=#[(ms[j]'(by omega)).key,(ms[j]'(by omega)).val]) ⟨_,_,hc⟩ rfl fun k c x m1 m2 => by
     match k with
     | 0 => simp at m1 m2; subst m1; subst m2; exact ⟨(borrow_val r1).2,(borrow_val r1).1,r3.borrow⟩
     | 1 => simp at m1 m2; subst m1; subst m2; exact ⟨(borrow_val r2).2,(borrow_val r2).1,r4.borrow⟩
     | k + 2 => simp at m1
    exact KOut.plain hc hR k1 k2
   ·exact hr.elim
 ·exact hr.elim
end
end Go.AI
