/- That the model's operations do what 'ares' says: maps; a part of a table. -/
import Derived.Test.YtofajkggflobkaaGreatDoorAiRc
import Derived.Test.YtofajkggflobkaaGreatDoorAiHb
set_option linter.unusedSimpArgs false
set_option linter.unusedVariables false
namespace Go.AI
open Go.MapKept
section
variable {P : Program} {F : Nat -> Prop} {G : Gh} {w : World} {H : Heap} {R : AV -> Heap -> Prop}
theorem cat_scalars {es : List AV} (h : ∀ c ∈ es,c.scalar = true) : cat es = es:=by
 induction es with
 | nil => rfl
 | cons c es ih =>
  simp only [cat,List.flatMap_cons,cells_scalar (h c (by simp))]
  have:=ih fun c' hc' => h c' (by simp [hc'])
  simp only [cat] at this
  rw [this]; rfl
theorem ok_slice_carr {t ta e n : Nat} {cs : List AV} {off : Nat} {u : Value} {rest : List AV} {urest : List Value} (hc : CRel F G (.cptr cs off :: rest) H (u :: urest) w) (hu : P.underlying t = some (.pointer ta)) (ha : P.underlying ta = some (.array n e))
  (h1 : P.cellsOf e = 1) (hle : off + n <= cs.length) (hm : n <= 9223372036854775807) (hr : R (.sl none ((cs.drop off).take n)) H) :
  OpRes P ((do let r <- Instr.sliceAt t u none none none; pure (Next.value r) : Sem Next).run P w) (KOut F G w R):=by
 have hx:=hc.l.rel 0 _ _ rfl rfl
 cases hx with
 | cptr _ _ b q f g1 g2 =>
  have hb:=run_sliceBounds (P:=P) (isSlice:=false) (len:=n) (cap:=n) (.none) (.none) .none (fun h => by cases h) (by simp) (by simp) (by simp) (by simp) w
  have hsz:=run_sizeOf_pos (P:=P) (t:=e) (by rw [h1]; exact Nat.one_pos) w
  have hlen : ((cs.drop off).take n).length = n:=by simp; omega
  have hget : ∀ (i : Nat) (c : AV),((cs.drop off).take n)[i]? = some c -> cs[off + i]? = some c:=fun i c hi => by
   rw [List.getElem?_take] at hi
   split at hi
   ·rwa [List.getElem?_drop] at hi
   ·cases hi
  have hsc : ∀ c ∈ (cs.drop off).take n,c.scalar = true:=fun c hc' => by
   obtain ⟨i,hi⟩:=List.getElem?_of_mem hc'
   exact (g1 _ c (hget i c hi)).1
  refine .value (u:=.slice (some ⟨b,q + off,none⟩) n n) (w':=w) ?_ (KOut.plain hc hr ?_ (toks_owned rfl _))
  ·simp only [Instr.sliceAt,Instr.slice,Sem.run_bind,run_underlying hu,Result.andThen_ok,asAddr,Sem.run_pure,run_underlying ha,hb,hsz,h1]
   simp [addr_add]
  ·have hv:=VRel.sl (G:=G) (w:=w) none ((cs.drop off).take n) 1 b (q + off) n (fun i => f (off + i)) (fun x hx => by rw [cells_scalar (hsc x hx)]; rfl) (fun _ h => by cases h) (by omega) (by unfold maxLen; omega)
    (fun i c hi => by
     rw [cat_scalars hsc] at hi
     have:=g1 _ c (hget i c hi)
     rw [Nat.add_assoc]; exact this)
    (fun i c hi => by
     rw [cat_scalars hsc] at hi
     exact g2 _ c (hget i c hi))
   rw [hlen] at hv
   exact hv
theorem ok_slice_carr2 {t e n : Nat} {cs : List AV} {off : Nat} {u : Value} {rest : List AV} {urest : List Value} (hc : CRel F G (.cptr cs off :: rest) H (u :: urest) w) (ha : P.underlying t = some (.array n e))
  (h1 : P.cellsOf e = 1) (hle : off + n <= cs.length) (hm : n <= 9223372036854775807) (hr : R (.sl none ((cs.drop off).take n)) H) :
  OpRes P ((do let r <- Instr.sliceAt t u none none none; pure (Next.value r) : Sem Next).run P w) (KOut F G w R):=by
 have hx:=hc.l.rel 0 _ _ rfl rfl
 cases hx with
 | cptr _ _ b q f g1 g2 =>
  have hb:=run_sliceBounds (P:=P) (isSlice:=false) (len:=n) (cap:=n) (.none) (.none) .none (fun h => by cases h) (by simp) (by simp) (by simp) (by simp) w
  have hsz:=run_sizeOf_pos (P:=P) (t:=e) (by rw [h1]; exact Nat.one_pos) w
  have hlen : ((cs.drop off).take n).length = n:=by simp; omega
  have hget : ∀ (i : Nat) (c : AV),((cs.drop off).take n)[i]? = some c -> cs[off + i]? = some c:=fun i c hi => by
   rw [List.getElem?_take] at hi
   split at hi
   ·rwa [List.getElem?_drop] at hi
   ·cases hi
  have hsc : ∀ c ∈ (cs.drop off).take n,c.scalar = true:=fun c hc' => by
   obtain ⟨i,hi⟩:=List.getElem?_of_mem hc'
   exact (g1 _ c (hget i c hi)).1
  refine .value (u:=.slice (some ⟨b,q + off,none⟩) n n) (w':=w) ?_ (KOut.plain hc hr ?_ (toks_owned rfl _))
  ·simp only [Instr.sliceAt,Instr.sureAddr,Sem.run_bind,Result.andThen_ok,Sem.run_pure,run_underlying ha,hb,hsz,h1]
   simp [addr_add]
  ·have hv:=VRel.sl (G:=G) (w:=w) none ((cs.drop off).take n) 1 b (q + off) n (fun i => f (off + i)) (fun x hx => by rw [cells_scalar (hsc x hx)]; rfl) (fun _ h => by cases h) (by omega) (by unfold maxLen; omega)
    (fun i c hi => by
     rw [cat_scalars hsc] at hi
     have:=g1 _ c (hget i c hi)
     rw [Nat.add_assoc]; exact this)
    (fun i c hi => by
     rw [cat_scalars hsc] at hi
     exact g2 _ c (hget i c hi))
   rw [hlen] at hv
   exact hv
theorem ok_slice_obj {t e n o off : Nat} {cs : List AV} {u : Value} {rest : List AV} {urest : List Value} (hc : CRel F G (.ptr o off :: rest) H (u :: urest) w) (ha : P.underlying t = some (.array n e))
  (hi : (P.info? e).isSome = true) (ho : H[o]? = some (some cs)) (hle : off + n * P.cellsOf e <= cs.length) (hm : n <= 9223372036854775807) (hr : R (.msl o off n (P.cellsOf e)) H) :
  OpRes P ((do let r <- Instr.sliceAt t u none none none; pure (Next.value r) : Sem Next).run P w) (KOut F G w R):=by
 have hx:=hc.l.rel 0 _ _ rfl rfl
 obtain ⟨i,hi'⟩:=Option.isSome_iff_exists.1 hi
 have hsize : ∀ w,(sizeOf e).run P w = .ok (P.cellsOf e) w:=fun w => by simp [sizeOf,typeInfo,hi',Program.cellsOf]
 cases hx with
 | ptr _ _ b hob hcell =>
  obtain ⟨C0,E0,hcell⟩:=hcell
  obtain ⟨_,C,E,g2,g3,_⟩:=(hc.h.obj o cs b ho hob).of_cells hcell
  have hb:=run_sliceBounds (P:=P) (isSlice:=false) (len:=n) (cap:=n) (.none) (.none) .none (fun h => by cases h) (by simp) (by simp) (by simp) (by simp) w
  refine .value (u:=.slice (some ⟨b,off,none⟩) n n) (w':=w) ?_ (KOut.plain hc hr (.msl _ _ _ _ b n hob (Nat.le_refl _) (by unfold maxLen; omega) ⟨C,E,g2,by omega⟩) (toks_scalar rfl rfl _))
  simp only [Instr.sliceAt,Instr.sureAddr,Sem.run_bind,Result.andThen_ok,Sem.run_pure,run_underlying ha,hb,hsize]
  simp [addr_add]
theorem ok_slice_cap0 {t e : Nat} {own : Option Nat} {es : List AV} {u : Value} {rest : List AV} {urest : List Value} {hi mx : Option Value} (hc : CRel F G (.sl own es :: rest) H (u :: urest) w) (hu : P.underlying t = some (.slice e))
  (hh : OptB hi (some 0)) (hm : OptB mx (some 0)) (hz : (P.info? e).isSome = true) (hr : R (.sl (some 0) []) H) :
  OpRes P ((do let r <- Instr.sliceAt t u none hi mx; pure (Next.value r) : Sem Next).run P w) (KOut F G w R):=by
 have hx:=hc.l.rel 0 _ _ rfl rfl
 obtain ⟨i,hi'⟩:=Option.isSome_iff_exists.1 hz
 have hsize : ∀ w,(sizeOf e).run P w = .ok (P.cellsOf e) w:=fun w => by simp [sizeOf,typeInfo,hi',Program.cellsOf]
 have run : ∀ (a : Option Addr) (len cap : Nat),(Instr.sliceAt t (.slice a len cap) none hi mx).run P w = .ok (.slice a 0 0) w:=fun a len cap => by
  have hb:=run_sliceBounds (P:=P) (isSlice:=true) (len:=len) (cap:=cap) .none hh hm (fun _ => rfl) (by simp) (by simp) (by simp) (by simp) w
  simp only [Instr.sliceAt,Instr.slice,Sem.run_bind,run_underlying hu,Result.andThen_ok,hb,hsize]
  simp
 have nt : ∀ a : Option Addr,toks (.sl (some 0) []) (.slice a 0 0) = []:=fun a => by cases a <;> simp [toks,prs,AV.flat,AV.cells,vflat,Value.cells,tok]
 cases hx with
 | slnil => exact .value (by rw [Sem.run_bind,run]; rfl) (KOut.plain hc hr (.slnil _) (nt _))
 | slany _ a => exact .value (by rw [Sem.run_bind,run]; rfl) (KOut.plain hc hr (.slany _ _) (nt _))
 | sl _ _ sz b q cap f hsz hown hl hmx hcs hus => exact .value (by rw [Sem.run_bind,run]; rfl) (KOut.plain hc hr (.slany _ _) (nt _))
theorem zero_rel {t : TypeId} {z : AV} (h : zeroAV P t = some z) : ∃ zv,(∀ w,(zeroValue t).run P w = .ok zv w) /\ z.isVal = true /\ VRel G w z zv:=by
 obtain ⟨zv0,hrun,hval,hcells,_⟩:=zero_sem (P:=P) h
 refine ⟨zv0,hrun,hval, ?_⟩
 unfold zeroAV at h
 split at h
 ·rename_i cs hz
  split at h
  ·cases h
   cases hi : P.info? t with
   | none => rw [hi] at hz; cases hz
   | some i =>
    rw [hi] at hz
    have hz' : i.zero = some (.agg cs):=hz
    have h2 : (zeroValue t).run P default = .ok (.agg cs) default:=by simp [zeroValue,typeInfo,hi,hz']
    rw [hrun default] at h2
    cases h2
    have:=(agg_of (hcells (fun _ => False) G w)).1
    exact this
  ·cases h
 ·rename_i zv hne hz
  split at h
  ·cases h
   cases hi : P.info? t with
   | none => rw [hi] at hz; cases hz
   | some i =>
    rw [hi] at hz
    have hz' : i.zero = some zv:=hz
    have h2 : (zeroValue t).run P default = .ok zv default:=by simp [zeroValue,typeInfo,hi,hz']
    rw [hrun default] at h2
    cases h2
    exact VRel.constT G w _ _
  ·cases h
 ·cases h
theorem map_lays {t : TypeId} {r : Option Value} {vs : List AV} {us : List Value} (hc : CRel F G vs H us w) (hrun : (Instr.makeMap t r).run P w = .ok (.map (some w.heap.size)) (w.alloc (.map #[] 0))) (hr : R (.mapr H.length) (H ++ [some (mapc [])])) :
  OpRes P ((do let v <- Instr.makeMap t r; pure (Next.value v) : Sem Next).run P w) (KOut F G w R):=by
 refine .value (by rw [Sem.run_bind,hrun]; rfl) ⟨_,_,G.newK w.heap.size .map,hr, ?_,ext_newK hc.h.fore _ _⟩
 have hkn : (G.newK w.heap.size .map).kind w.heap.size = .map:=G.kind_set _ _
 have hlen:=hc.h.len
 refine hc.newG .map (.map #[] 0) (mapc []) ⟨fun hF => absurd (hc.h.fore _ hF) (Nat.lt_irrefl _), ?_⟩ (.cons (.mapr _ _ ?_ (by rw [size_alloc]; omega) hkn) (tok_nil_all (toks_owned rfl _) F _ _) (.nil F _ _)) (fun b => ?_)
 ·rw [hkn]
  exact ⟨[],#[],0,heap_alloc_new _ _,rfl,rfl,(fun i p m h => by simp at h),rfl,fun i m h => by simp at h⟩
 ·show (G.obs ++ [w.heap.size])[H.length]? = _
  rw [List.getElem?_append_right (by omega),hlen,Nat.sub_self]; rfl
 ·rw [tcnt_cons,tcnt_nil,toks_owned rfl]; simp [btoks]
theorem ok_makeMap {t : TypeId} (hc : CRel F G [] H [] w) (hr : R (.mapr H.length) (H ++ [some (mapc [])])) :
  OpRes P ((do let v <- Instr.makeMap t none; pure (Next.value v) : Sem Next).run P w) (KOut F G w R) :=
 map_lays hc (by simp [Instr.makeMap]) hr
theorem ok_makeMap_hint {t kt et : TypeId} {k : IntKind} {n : Int} {u : Value} (hc : CRel F G [.int k n] H [u] w) (hu : P.underlying t = some (.map kt et)) (hr : R (.mapr H.length) (H ++ [some (mapc [])])) :
  OpRes P ((do let v <- Instr.makeMap t (some u); pure (Next.value v) : Sem Next).run P w) (KOut F G w R):=by
 have hx:=hc.l.rel 0 _ _ rfl rfl
 cases hx
 exact map_lays hc (by simp [Instr.makeMap,run_underlying hu,asInt,asIntOf,Result.andThen]) hr
theorem map_at {m : AV} {um : Value} {es : List (AV × AV)} {vs : List AV} {us : List Value} (hc : CRel F G vs H us w) (hm : VRel G w m um) (he : mapOf H m = some es) :
  (m = .nilm /\ um = .map none /\ es = []) \/ ∃ o b ms cl,m = .mapr o /\ um = .map (some b) /\ G.obs[o]? = some b /\ G.kind b = .map /\ w.heap[b]? = some (.map ms cl) /\ es.length = ms.size /\ H[o]? = some (some (mapc es)) /\
   ∀ (i : Nat) (p : AV × AV) (x : MapEntry),es[i]? = some p -> ms[i]? = some x -> p.1.isVal = true /\ p.2.isVal = true /\ VRel G w p.1 x.key /\ VRel G w p.2 x.val:=by
 cases hm with
 | nilm => simp only [mapOf,Option.some.injEq] at he; exact .inl ⟨rfl,rfl,he.symm⟩
 | mapr o b h hb hk =>
  refine .inr ?_
  simp only [mapOf] at he
  split at he
  ·rename_i cs hcs
   have hi:=(hc.h.obj o cs b hcs h).is
   rw [hk] at hi
   obtain ⟨es',ms,cl,g1,g2,g3,g4,_⟩:=hi
   subst g2
   rw [unmapc_mapc] at he
   cases he
   exact ⟨o,b,ms,cl,rfl,rfl,h,hk,g1,g3,hcs,g4⟩
  ·cases he
 | _ => simp [mapOf] at he
theorem map_births {o b : Nat} {ms : Array MapEntry} {cl : Nat} {cs : List AV} {vs : List AV} {us : List Value} (hc : CRel F G vs H us w) (ho : H[o]? = some (some cs)) (hb : G.obs[o]? = some b) (hk : G.kind b = .map) (hms : w.heap[b]? = some (.map ms cl)) :
  cl = ms.size /\ ∀ (i : Nat) (m : MapEntry),ms[i]? = some m -> m.born = i:=by
 have hi:=(hc.h.obj o cs b ho hb).is
 rw [hk] at hi
 obtain ⟨es',ms',cl',g1,_,_,_,g5⟩:=hi
 rw [hms] at g1; cases g1
 exact g5
theorem find_at {kt : TypeId} {D : Value -> Prop} (K : KLaw P kt D) {k : AV} {uk : Value} {es : List (AV × AV)} {ms : Array MapEntry} (hk : VRel G w k uk) (hkD : ∃ v,keyV k = some v /\ D v) (hl : es.length = ms.size)
  (hD : ∀ a ∈ es.map (·.1),∃ v,keyV a = some v /\ D v) (hd : distK es)
  (hr : ∀ (i : Nat) (p : AV × AV) (x : MapEntry),es[i]? = some p -> ms[i]? = some x -> p.1.isVal = true /\ p.2.isVal = true /\ VRel G w p.1 x.key /\ VRel G w p.2 x.val) :
  D uk /\ ((afind k es 0 = none /\ (Instr.findKey kt uk ms.toList).run P w = .ok none w) \/
   ∃ j p x,afind k es 0 = some (j,p.2) /\ es[j]? = some p /\ ms[j]? = some x /\ x.key = uk /\ (Instr.findKey kt uk ms.toList).run P w = .ok (some (j,x.val)) w):=by
 obtain ⟨vk,hvk,hDk⟩:=hkD
 have huk:=keyV_rel hvk hk
 subst huk
 have at_ : ∀ (j : Nat) (x : MapEntry),ms[j]? = some x -> ∃ p,es[j]? = some p /\ keyV p.1 = some x.key /\ D x.key:=fun j x hj => by
  have hlt:=(Array.getElem?_eq_some_iff.1 hj).1
  have hp : es[j]? = some es[j]:=List.getElem?_eq_getElem (by omega)
  obtain ⟨v,hv,hDv⟩:=hD es[j].1 (List.mem_map.2 ⟨_,List.mem_of_getElem? hp,rfl⟩)
  have:=keyV_rel hv (hr j _ x hp hj).2.2.1
  subst this
  exact ⟨_,hp,hv,hDv⟩
 refine ⟨hDk, ?_⟩
 rcases K.find w hDk ms.toList (fun x hx => by
  obtain ⟨j,hj⟩:=List.getElem?_of_mem hx
  rw [Array.getElem?_toList] at hj
  obtain ⟨p,_,_,h⟩:=at_ j x hj
  exact h) with ⟨h1,h2⟩ | ⟨j,x,h1,h2,h3⟩
 ·refine .inl ⟨afind_none fun p hp => ?_,h1⟩
  obtain ⟨j,hj⟩:=List.getElem?_of_mem hp
  have hlt:=(List.getElem?_eq_some_iff.1 hj).1
  have hx : ms[j]? = some (ms[j]'(by omega)):=Array.getElem?_eq_getElem _
  obtain ⟨p',hp',hv',_⟩:=at_ j _ hx
  rw [hj] at hp'; cases hp'
  cases hq : keyEq p.1 k with
  | false => rfl
  | true =>
   exact absurd ((keyEq_iff hv' hvk).1 hq) (h2 _ (by rw [<- Array.getElem?_toList] at hx; exact List.mem_of_getElem? hx))
 ·rw [Array.getElem?_toList] at h2
  obtain ⟨p,hp,hv,_⟩:=at_ j x h2
  have hke : keyEq p.1 k = true:=(keyEq_iff hv hvk).2 h3
  refine .inr ⟨j,p,x, ?_,hp,h2,h3,h1⟩
  have:=afind_at (k:=k) (i:=0) hp hke (fun l q hq hlt => by
   have h4:=List.pairwise_iff_getElem.1 hd l j (List.getElem?_eq_some_iff.1 hq).1 (List.getElem?_eq_some_iff.1 hp).1 hlt
   rw [(List.getElem?_eq_some_iff.1 hq).2,(List.getElem?_eq_some_iff.1 hp).2] at h4
   have hq2 : ms[l]? = some (ms[l]'(by have:=(List.getElem?_eq_some_iff.1 hq).1; omega)):=Array.getElem?_eq_getElem _
   obtain ⟨q',hq',hvq,_⟩:=at_ l _ hq2
   rw [hq] at hq'; cases hq'
   cases hqe : keyEq q.1 k with
   | false => rfl
   | true =>
    have e1:=(keyEq_iff hvq hvk).1 hqe
    have e2 : keyEq q.1 p.1 = true:=(keyEq_iff hvq hv).2 (e1.trans h3.symm)
    rw [e2] at h4; cases h4)
  rw [Nat.zero_add] at this
  exact this
theorem ok_lookup {t kt et : TypeId} {ok : Bool} {m k : AV} {um uk : Value} {es : List (AV × AV)} {z : AV} (hc : CRel F G [m,k] H [um,uk] w) (hu : P.underlying t = some (.map kt et)) (he : mapOf H m = some es)
  (hk : keysIn P kt (k :: es.map (·.1))) (hd : distK es) (hz : zeroAV P et = some z) (hr : R (lkres ok z (afind k es 0)) H) :
  OpRes P ((do let r <- Instr.lookup t um uk ok; pure (Next.value r) : Sem Next).run P w) (KOut F G w R):=by
 have hm:=hc.l.rel 0 _ _ rfl rfl
 have hkr:=hc.l.rel 1 _ _ rfl rfl
 obtain ⟨D,K,hD⟩:=hk
 obtain ⟨zv,hzr,hzval,hzv⟩:=zero_rel (P:=P) (G:=G) (w:=w) hz
 have out : ∀ (v : AV) (u : Value) (b : Bool),VRel G w v u -> v.isVal = true -> R (if ok = true then .tup [v.borrow,.bool b] else v.borrow) H ->
   OpRes P (.ok (.value (if ok = true then .tuple #[u,.bool b] else u)) w) (KOut F G w R):=by
  intro v u b hv hval hR
  cases ok with
  | false => exact KOut.plain hc hR hv.borrow (toks_borrow _ _)
  | true =>
   refine KOut.plain hc hR ?_ ?_
   ·refine .tup _ _ rfl (fun c hc' => ?_) (fun i c x h1 h2 => ?_)
    ·simp only [List.mem_cons,List.not_mem_nil,or_false] at hc'
     rcases hc' with rfl | rfl
     ·cases v <;> first | rfl | cases hval
     ·rfl
    ·match i with
     | 0 => simp at h1 h2; subst h1; subst h2; exact hv.borrow
     | 1 => simp at h1 h2; subst h1; subst h2; exact .bool b
     | i + 2 => simp at h1
   ·refine toks_owned ?_ _
    show ((([v.borrow,AV.bool b] : List AV).flatMap AV.cells).any owned1) = false
    have : ∀ c ∈ v.borrow.cells,owned1 c = false:=fun c hc' => by
     have hb : v.borrow.cells = v.cells.map borrow1:=by cases v <;> first | rfl | cases hval
     rw [hb] at hc'
     obtain ⟨d,_,rfl⟩:=List.mem_map.1 hc'
     cases d <;> rfl
    simp only [List.flatMap_cons,List.flatMap_nil,List.append_nil,List.any_append,Bool.or_eq_false_iff]
    refine ⟨?_,rfl⟩
    rw [List.any_eq_false]
    intro c hc' h
    rw [this c hc'] at h
    cases h
 rcases map_at hc hm he with ⟨rfl,rfl,rfl⟩ | ⟨o,b,ms,cl,rfl,rfl,hob,hkb,hms,hl,hH,hrel⟩
 ·obtain ⟨v,hv,hDv⟩:=hD k (by simp)
  have huk:=keyV_rel hv hkr
  subst huk
  have hfind : (Instr.findKey kt uk []).run P w = .ok none w:=by
   rcases K.find w hDv [] (fun _ h => by cases h) with ⟨h1,_⟩ | ⟨j,e,_,h2,_⟩
   ·exact h1
   ·simp at h2
  have hrun : (do let r <- Instr.lookup t (.map none) uk ok; pure (Next.value r) : Sem Next).run P w = .ok (.value (if ok = true then .tuple #[zv,.bool false] else zv)) w:=by
   simp [Instr.lookup,run_underlying hu,Result.andThen,K.check w _ hDv,hfind,hzr]
  rw [hrun]
  exact out z zv false hzv hzval hr
 ·obtain ⟨hDk,hf⟩:=find_at K hkr (hD k (by simp)) hl (fun a ha => hD a (by simp at ha ⊢; exact .inr ha)) hd hrel
  rcases hf with ⟨f1,f2⟩ | ⟨j,p,x,f1,f2,f3,f4,f5⟩
  ·have hrun : (do let r <- Instr.lookup t (.map (some b)) uk ok; pure (Next.value r) : Sem Next).run P w = .ok (.value (if ok = true then .tuple #[zv,.bool false] else zv)) w:=by
    simp [Instr.lookup,run_underlying hu,Result.andThen,MapKept.run_getObj_map hms,K.check w _ hDk,f2,hzr]
   rw [hrun]
   rw [f1] at hr
   exact out z zv false hzv hzval hr
  ·have hrun : (do let r <- Instr.lookup t (.map (some b)) uk ok; pure (Next.value r) : Sem Next).run P w = .ok (.value (if ok = true then .tuple #[x.val,.bool true] else x.val)) w:=by
    simp [Instr.lookup,run_underlying hu,Result.andThen,MapKept.run_getObj_map hms,K.check w _ hDk,f5]
   rw [hrun]
   rw [f1] at hr
   exact out p.2 x.val true (hrel j p x f2 f3).2.2.2 (hrel j p x f2 f3).2.1 hr
theorem ok_mapUpdate {t kt et : TypeId} {o : Nat} {k v : AV} {um uk uv : Value} {es : List (AV × AV)} (hc : CRel F G [.mapr o,k,v] H [um,uk,uv] w) (hu : P.underlying t = some (.map kt et)) (he : mapOf H (.mapr o) = some es)
  (hk : keysIn P kt (k :: es.map (·.1))) (hd : distK es) (hval : v.isVal = true) (hr : R .undef (H.set o (some (mapc (mapUpd es k v))))) :
  OpRes P ((do Instr.mapUpdate t um uk uv; pure Next.skip : Sem Next).run P w) (KOut F G w R):=by
 have hm:=hc.l.rel 0 _ _ rfl rfl
 have hkr:=hc.l.rel 1 _ _ rfl rfl
 have hvr:=hc.l.rel 2 _ _ rfl rfl
 obtain ⟨D,K,hD⟩:=hk
 rcases map_at hc hm he with ⟨h,_⟩ | ⟨o',b,ms,cl,ho,rfl,hob,hkb,hms,hl,hH,hrel⟩
 ·cases h
 cases ho
 obtain ⟨hDk,hf⟩:=find_at K hkr (hD k (by simp)) hl (fun a ha => hD a (by simp at ha ⊢; exact .inr ha)) hd hrel
 have hkval : k.isVal = true:=keyV_val (hD k (by simp)).choose_spec.1
 have hsp : (G.kind b).sp = true:=by rw [hkb]; rfl
 have hor:=hc.h.obj o _ b hH hob
 obtain ⟨hcl,hborn⟩:=map_births hc hH hob hkb hms
 have lay : ∀ (ms' : Array MapEntry) (cl' : Nat) (es' : List (AV × AV)),es'.length = ms'.size -> (cl' = ms'.size /\ ∀ (i : Nat) (m : MapEntry),ms'[i]? = some m -> m.born = i) -> R .undef (H.set o (some (mapc es'))) ->
   (∀ (i : Nat) (p : AV × AV) (x : MapEntry),es'[i]? = some p -> ms'[i]? = some x -> p.1.isVal = true /\ p.2.isVal = true /\ VRel G w p.1 x.key /\ VRel G w p.2 x.val) ->
   KOut F G w R Go.undef (w.putObj b (.map ms' cl')):=by
  intro ms' cl' es' hl' hbo hR hrel'
  have he2 : Ext F G w G (w.putObj b (.map ms' cl')):=ext_putObj hor.own hms (fun _ _ _ e => by cases e)
  obtain ⟨h1,h2⟩:=hc.setSp (X:=.map ms' cl') hH hob hsp (fun _ _ _ e => by cases e) (cs':=mapc es') ⟨hor.own,by
   rw [hkb]
   exact ⟨es',ms',cl',World.putObj_heap_same hor.lt,rfl,hl',(fun i p x g1 g2 =>
    let ⟨a1,a2,a3,a4⟩:=hrel' i p x g1 g2; ⟨a1,a2,a3.keep he2.keeps,a4.keep he2.keeps⟩),hbo⟩⟩
   (vs:=[.undef]) (us':=[Go.undef]) (.cons (.undef _) (tok_nil_all (toks_undef _) F G w) (.nil F G w)) (fun x => by rw [tcnt_cons,tcnt_nil,toks_undef]; simp)
  exact ⟨_,_,G,hR,h1,h2⟩
 rcases hf with ⟨f1,f2⟩ | ⟨j,p,x,f1,f2,f3,f4,f5⟩
 ·have hrun : (do Instr.mapUpdate t (.map (some b)) uk uv; pure Next.skip : Sem Next).run P w = .ok .skip (w.putObj b (.map (ms.push { key:=uk,val:=uv,born:=cl }) (cl + 1))):=by
   simp [Instr.mapUpdate,run_underlying hu,Result.andThen,MapKept.run_getObj_map hms,K.check w _ hDk,f2,MapKept.run_setObj_map _ hms,World.putObj]
  rw [hrun]
  simp only [mapUpd,f1] at hr
  refine lay _ _ (es ++ [(k,v)]) (by simp [hl]) ⟨by simp [hcl],fun i m g => ?_⟩ hr fun i p x g1 g2 => ?_
  ·by_cases hi : i < ms.size
   ·rw [Array.getElem?_push_lt hi] at g
    exact hborn i m (by rw [Array.getElem?_eq_getElem hi]; exact g)
   ·have hlt:=(Array.getElem?_eq_some_iff.1 g).1
    simp only [Array.size_push] at hlt
    have : i = ms.size:=by omega
    subst this
    rw [Array.getElem?_push_size] at g
    cases g
    exact hcl
  by_cases hi : i < es.length
  ·rw [List.getElem?_append_left hi] at g1
   rw [Array.getElem?_push_lt (by omega)] at g2
   exact hrel i p x g1 (by rw [Array.getElem?_eq_getElem (by omega)]; exact g2)
  ·have hlt:=(List.getElem?_eq_some_iff.1 g1).1
   simp only [List.length_append,List.length_cons,List.length_nil] at hlt
   have hie : i = es.length:=by omega
   subst hie
   rw [List.getElem?_append_right (Nat.le_refl _),Nat.sub_self] at g1
   rw [hl,Array.getElem?_push_size] at g2
   cases g1; cases g2
   exact ⟨hkval,hval,hkr,hvr⟩
 ·have hrun : (do Instr.mapUpdate t (.map (some b)) uk uv; pure Next.skip : Sem Next).run P w = .ok .skip (w.putObj b (.map (ms.modify j fun e => { e with key:=uk,val:=uv }) cl)):=by
   simp [Instr.mapUpdate,run_underlying hu,Result.andThen,MapKept.run_getObj_map hms,K.check w _ hDk,f5,f3,f4,K.stays w hDk,MapKept.run_setObj_map _ hms,World.putObj]
  rw [hrun]
  simp only [mapUpd,f1] at hr
  refine lay _ _ (es.set j (k,v)) (by simp [hl]) ⟨by simp [hcl],fun i m g => ?_⟩ hr fun i q y g1 g2 => ?_
  ·rw [Array.getElem?_modify] at g
   split at g
   ·rename_i hij
    subst hij
    rw [f3] at g
    simp only [Option.map_some,Option.some.injEq] at g
    rw [<- g]
    have hb : x.born = j:=hborn _ _ f3
    exact hb
   ·exact hborn i m g
  rw [List.getElem?_set] at g1
  rw [Array.getElem?_modify] at g2
  split at g1
  ·rename_i hij
   subst hij
   split at g1
   ·rw [if_pos rfl,f3] at g2
    cases g1; cases g2
    exact ⟨hkval,hval,hkr,hvr⟩
   ·cases g1
  ·rename_i hij
   rw [if_neg hij] at g2
   exact hrel i q y g1 g2
end
end Go.AI
