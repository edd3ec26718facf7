/- From the code's walk at the abstract side to the contract of a call. -/
import Derived.Test.YtofajkggflobkaaGreatDoorAiX
set_option linter.unusedSimpArgs false
set_option linter.unusedVariables false
namespace Go.AI
mutual
def AV.pure : AV -> Bool
 | .ptr _ _ => false
 | .msl _ _ _ _ => false
 | .mslc _ _ _ _ _ => false
 | .mapr _ => false
 | .it _ => false
 | .yld _ _ => false
 | .ifc _ a => a.pure
 | .cptr cs _ => pureL cs
 | .sl _ es => pureL es
 | .fn _ a b => pureL a && pureL b
 | .agg cs => pureL cs
 | .tup vs => pureL vs
 | _ => true
def pureL : List AV -> Bool
 | [] => true
 | v :: vs => v.pure && pureL vs
end
theorem pureL_mem {vs : List AV} (h : pureL vs = true) : ∀ v ∈ vs,v.pure = true:=by
 induction vs with
 | nil => intro v hv; cases hv
 | cons x xs ih =>
  simp only [pureL,Bool.and_eq_true] at h
  intro v hv
  rcases List.mem_cons.1 hv with rfl | hv
  ·exact h.1
  ·exact ih h.2 v hv
theorem pure_cells {v : AV} (h : v.pure = true) : ∀ c ∈ v.cells,c.pure = true:=by
 cases v <;> first | (intro c hc; simp only [AV.cells,List.mem_singleton] at hc; subst hc; exact h) | skip
 simp only [AV.pure] at h
 exact pureL_mem h
theorem pure_cat {es : List AV} (h : pureL es = true) : ∀ c ∈ cat es,c.pure = true:=by
 intro c hc
 obtain ⟨e,he,hc⟩:=List.mem_flatMap.1 hc
 exact pure_cells (pureL_mem h e he) c hc
theorem VRel.pure {G G' : Gh} {w : World} (hk : G'.kind = G.kind) {a : AV} {v : Value} (h : VRel G w a v) (hp : a.pure = true) : VRel G' w a v:=by
 have hsafe : ∀ b o,G.safe b o -> G'.safe b o:=fun b o hs => by unfold Gh.safe at *; rw [hk]; exact hs
 induction h with
 | undef v => exact .undef v
 | int k n => exact .int k n
 | bool b => exact .bool b
 | str s => exact .str s
 | nilp => exact .nilp
 | ptr o off b h hc => cases hp
 | mapr o b h hb hk => cases hp
 | it o b h hb hk => cases hp
 | nilm => exact .nilm
 | yld o b L h hb hk => cases hp
 | ifc t a v hs h ih => exact .ifc t a v hs (ih (by simpa [AV.pure] using hp))
 | nili => exact .nili
 | cptr cs off b q u h hu ih =>
  simp only [AV.pure] at hp
  exact .cptr cs off b q u (fun i c hi => ⟨(h i c hi).1,hsafe _ _ (h i c hi).2.1,(h i c hi).2.2⟩) fun i c hi => ih i c hi (pureL_mem hp c (List.mem_of_getElem? hi))
 | slnil own => exact .slnil own
 | slany own a => exact .slany own a
 | sl own es sz b q cap u hsz hown hl hm h hu ih =>
  simp only [AV.pure] at hp
  exact .sl own es sz b q cap u hsz hown hl hm (fun i c hi => ⟨(h i c hi).1,hsafe _ _ (h i c hi).2.1,(h i c hi).2.2⟩) fun i c hi => ih i c hi (pure_cat hp c (List.mem_of_getElem? hi))
 | msl => cases hp
 | mslc => cases hp
 | fn f first captured fi ca h1 h2 h3 h4 ih1 ih2 =>
  simp only [AV.pure,Bool.and_eq_true] at hp
  exact .fn f first captured fi ca h1 h2 (fun i c v hc hv => ih1 i c v hc hv (pureL_mem hp.1 c (List.mem_of_getElem? hc))) (fun i c v hc hv => ih2 i c v hc hv (pureL_mem hp.2 c (List.mem_of_getElem? hc)))
 | nilf => exact .nilf
 | agg cs vs hl hs h ih =>
  simp only [AV.pure] at hp
  exact .agg cs vs hl hs fun i c v hc hv => ih i c v hc hv (pureL_mem hp c (List.mem_of_getElem? hc))
 | tup cs vs hl hs h ih =>
  simp only [AV.pure] at hp
  exact .tup cs vs hl hs fun i c v hc hv => ih i c v hc hv (pureL_mem hp c (List.mem_of_getElem? hc))
def rev (P : Program) (n : Nat) : List ResultVar -> Env -> Heap -> (List AV -> Env -> Heap -> Prop) -> Prop
 | [],e,H,K => K [] e H
 | .tmp t :: rs,e,H,K => t < n /\ rev P n rs (ev1 P none true (.tmp t) e).2 H fun vs => K ((ev1 P none true (.tmp t) e).1 :: vs)
 | .cell t ty :: rs,e,H,K => t < n /\ match look e t with
  | .ptr ob off => match H[ob]? with
   | some (some cs) => match ldv P ty cs off with
    | some v => if v.owned = true then rev P n rs e (H.set ob (some (splice cs off (v.cells.map borrow1)))) fun vs => K (v :: vs) else rev P n rs e H fun vs => K (v.borrow :: vs)
    | none => False
   | _ => False
  | _ => False
def retK (K : AV -> Heap -> Prop) (vs : List AV) (H : Heap) : Prop :=
 match vs with
 | [v] => K v H
 | vs => (∀ v ∈ vs,v.isVal = true) /\ K (.tup vs) H
def QRet (P : Program) (n : Nat) (rs : Array ResultVar) (K : AV -> Heap -> Prop) (ex : Exit) (e : Env) (H : Heap) : Prop :=
 match ex with
 | .normal | .ret => rev P n rs.toList e H fun vs _ H' => retK K vs H'
 | _ => False
section
variable {P : Program} {F : Nat -> Prop} {G : Gh} {w : World} {H : Heap} {n : Nat}
theorem LRel.undefs (k : Nat) : LRel F G (List.replicate k .undef) (List.replicate k Go.undef) w:=by
 refine ⟨by simp,fun i a u h1 _ => ?_,fun i a u h1 _ => ?_⟩ <;> rw [List.getElem?_replicate] at h1 <;> split at h1 <;> cases h1
 ·exact .undef u
 ·exact tok_nil_all (toks_undef u) F G w
theorem tcnt_undefs (b k : Nat) : tcnt b (List.replicate k .undef) (List.replicate k Go.undef) = 0:=by
 induction k with
 | zero => rfl
 | succ k ih => rw [List.replicate_succ,List.replicate_succ,tcnt_cons,ih,toks_undef]; rfl
theorem CRel.args {vs : List AV} {us : List Value} (h : CRel F G vs H us w) (k : Nat) : CRel F G (vs ++ List.replicate k .undef) H (us ++ List.replicate k Go.undef) w:=by
 refine ⟨h.l.append (LRel.undefs k),h.h,fun b => ?_⟩
 rw [tcnt_append _ _ _ _ _ h.l.len,tcnt_undefs]
 exact h.cnt b
theorem prs_tup_cons {v : AV} {u : Value} {vs : List AV} {us : List Value} (hv : v.isVal = true) (h : VRel G w v u) : prs (.tup (v :: vs)) (.tuple (u :: us).toArray) = prs v u ++ prs (.tup vs) (.tuple us.toArray):=by
 rw [prs_val hv h]
 simp only [prs,AV.flat,vflat,List.flatMap_cons]
 rw [List.zip_append]
 have:=(val_shape hv h).2.2
 simpa using this
theorem tuple_of : ∀ (vs : List AV) (us : List Value),LRel F G vs us w -> (∀ v ∈ vs,v.isVal = true) ->
  VRel G w (.tup vs) (.tuple us.toArray) /\ (∀ p ∈ prs (.tup vs) (.tuple us.toArray),TokOk F G w p) /\ ∀ b,(toks (.tup vs) (.tuple us.toArray)).count b = tcnt b vs us:=by
 intro vs us hl hv
 refine ⟨.tup vs _ (by simpa using hl.len) hv (fun i c u h1 h2 => hl.rel i c u h1 (by simpa using h2)), ?_⟩
 induction vs generalizing us with
 | nil =>
  match us,hl.len with
  | [],_ => exact ⟨fun p hp => by simp [prs,AV.flat] at hp,fun b => by simp [toks,prs,AV.flat,tcnt]⟩
 | cons v vs ih =>
  match us,hl.len with
  | u :: us,_ =>
   obtain ⟨h1,h2,h3⟩:=hl.uncons
   obtain ⟨g1,g2⟩:=ih us h3 fun x hx => hv x (by simp [hx])
   have e:=prs_tup_cons (vs:=vs) (us:=us) (hv v (by simp)) h1
   refine ⟨fun p hp => ?_,fun b => ?_⟩
   ·rw [e] at hp
    rcases List.mem_append.1 hp with h | h
    ·exact h2 p h
    ·exact g1 p h
   ·have:=g2 b
    unfold toks at this ⊢
    rw [e,List.filterMap_append,List.count_append,this,tcnt_cons]
    rfl
theorem CRel.comm {A B : List AV} {ua ub : List Value} (h : CRel F G (A ++ B) H (ua ++ ub) w) (hl : A.length = ua.length) : CRel F G (B ++ A) H (ub ++ ua) w:=by
 obtain ⟨h1,h2⟩:=h.l.split hl
 refine ⟨h2.append h1,h.h,fun b => ?_⟩
 have:=h.cnt b
 rw [tcnt_append b A ua B ub hl] at this
 rw [tcnt_append b B ub A ua h2.len]
 omega
theorem CRel.turn {A B : List AV} {v : AV} {ua ub : List Value} {u : Value} {R : AV -> Heap -> Prop} {u' : Value} {w' : World} (h : CRel F G (A ++ v :: B) H (ua ++ u :: ub) w) (hl : A.length = ua.length)
  (hk : ∀ F',(∀ b,F b -> F' b) -> CRel F' G [v] H [u] w -> KOut F' G w R u' w') : ∃ v' H' G',R v' H' /\ CRel F G' (A ++ v' :: B) H' (ua ++ u' :: ub) w' /\ Ext F G w G' w':=by
 have h1 : CRel F G ((v :: B) ++ A) H ((u :: ub) ++ ua) w:=h.comm hl
 have h2 : CRel F G ([v] ++ (B ++ A)) H ([u] ++ (ub ++ ua)) w:=by simpa using h1
 have hB:=(h2.l.split (A:=[v]) rfl).2
 have hc:=h2.split (A:=[v]) rfl
 obtain ⟨v',H',G',hr,hc',he⟩:=hk _ (fun b hb => Or.inl hb) hc
 have hcb : ∀ b,tcnt b (B ++ A) (ub ++ ua) <= 1:=fun b => by
  have:=h2.cnt b
  rw [tcnt_append b [v] [u] _ _ rfl] at this
  omega
 have hj:=CRel.join (F:=F) hB hcb (fun b hb => Or.inl hb) (fun b hb => Or.inr hb) he hc'
 refine ⟨v',H',G',hr, ?_,he.mono fun b hb => Or.inl hb⟩
 have hlB : B.length = ub.length:=by
  have:=hB.len
  simp at this
  omega
 have h3 : CRel F G' ((v' :: B) ++ A) H' ((u' :: ub) ++ ua) w':=by simpa using hj
 exact h3.comm (by simp [hlB])
def readResult (tm : Array Value) : ResultVar -> Sem Value
 | .tmp t => pure (tm.getD t Go.undef)
 | .cell a t => do loadVar t (<- asAddr (tm.getD a Go.undef))
theorem load_run {t : TypeId} {u : Value} {R : AV -> Heap -> Prop} {w : World} (hu : ∃ a,u = .pointer (some a)) (h : OpRes P ((do let r <- Instr.loadAt t u; pure (Next.value r) : Sem Next).run P w) (KOut F G w R)) :
  ∃ u' w',(do loadVar t (<- asAddr u) : Sem Value).run P w = .ok u' w' /\ KOut F G w R u' w':=by
 obtain ⟨a,rfl⟩:=hu
 have e1 : (Instr.loadAt t (.pointer (some a)) : Sem Value).run P w = (loadVar t a).run P w:=by
  simp [Instr.loadAt,Instr.sureAddr]
 have e2 : (do loadVar t (<- asAddr (.pointer (some a))) : Sem Value).run P w = (loadVar t a).run P w:=by
  simp [asAddr]
 rw [e2]
 rw [Sem.run_bind,e1] at h
 cases hr : (loadVar t a).run P w with
 | ok u' w' =>
  rw [hr] at h
  simp only [Result.andThen_ok,Sem.run_pure] at h
  exact ⟨u',w',rfl,h⟩
 | _ => rw [hr] at h; exact h.elim
theorem rev_sound {a : Act} (hn : a.tmps.size = n) : ∀ (rs : List ResultVar) (env : Env) (H : Heap) (G : Gh) (w : World) (pre : List AV) (upre : List Value) (K : List AV -> Env -> Heap -> Prop),
  CRel F G (pre ++ elist n env) H (upre ++ a.tmps.toList) w -> pre.length = upre.length -> (∀ t,n <= t -> look env t = .undef) -> rev P n rs env H K ->
  ∃ us,(rs.mapM (readResult a.tmps)).run P w = .ok us w /\ ∃ vs env' H' G',K vs env' H' /\ vs.length = us.length /\ CRel F G' (pre ++ vs ++ elist n env') H' (upre ++ us ++ a.tmps.toList) w /\ Ext F G w G' w
 | [],env,H,G,w,pre,upre,K,h,hp,ho,hr => ⟨[],by simp,[],env,H,G,hr,rfl,by simpa using h,.refl F G w⟩
 | .tmp t :: rs,env,H,G,w,pre,upre,K,h,hp,ho,hr => by
  obtain ⟨htn,hr⟩:=hr
  obtain ⟨h1,ho1⟩:=ev1_ok (P:=P) none true (.tmp t) h hp hn ho
  obtain ⟨us,hrun,vs,env',H',G',hK,hlen,hc,he⟩:=rev_sound hn rs (ev1 P none true (.tmp t) env).2 H G w (pre ++ [(ev1 P none true (.tmp t) env).1]) (upre ++ [a.eval (.tmp t)]) _ (by simpa using h1) (by simp [hp]) ho1 hr
  refine ⟨a.eval (.tmp t) :: us, ?_,_,env',H',G',hK,by simp [hlen],by simpa using hc,he⟩
  have e0 : readResult a.tmps (.tmp t) = pure (a.eval (.tmp t)):=rfl
  simp only [List.mapM_cons,Sem.run_bind,e0,Sem.run_pure,Result.andThen_ok,hrun]
 | .cell t ty :: rs,env,H,G,w,pre,upre,K,h,hp,ho,hr => by
  obtain ⟨htn,hr⟩:=hr
  split at hr
  ·rename_i ob off hlk
   split at hr
   ·rename_i cs hob
    split at hr
    ·rename_i v hv
     obtain ⟨h1,ho1⟩:=ev1_ok (P:=P) none false (.tmp t) h hp hn ho
     have e1 : ev1 P none false (.tmp t) env = (.ptr ob off,env):=by simp [ev1,evo,hlk,AV.borrow,borrow0]
     rw [e1] at h1
     have key : ∀ R : AV -> Heap -> Prop,(R v.borrow H \/ R v (H.set ob (some (splice cs off (v.cells.map borrow1))))) -> ∃ u',(readResult a.tmps (.cell t ty)).run P w = .ok u' w /\
       ∃ v' H' G',R v' H' /\ CRel F G' (pre ++ v' :: elist n env) H' (upre ++ u' :: a.tmps.toList) w /\ Ext F G w G' w:=by
      intro R hR
      have hx : VRel G w (.ptr ob off) (a.eval (.tmp t)):=(((h1.l.split hp).2).uncons).1
      have hu : ∃ ad,a.eval (.tmp t) = .pointer (some ad):=by
       generalize a.eval (.tmp t) = u at hx
       cases hx; exact ⟨_,rfl⟩
      have hone : CRel (fun _ => False) G [AV.ptr ob off] H [a.eval (.tmp t)] w:=by
       have h2 : CRel F G ((AV.ptr ob off :: elist n env) ++ pre) H ((a.eval (.tmp t) :: a.tmps.toList) ++ upre) w:=h1.comm hp
       have h3 : CRel F G ([AV.ptr ob off] ++ (elist n env ++ pre)) H ([a.eval (.tmp t)] ++ (a.tmps.toList ++ upre)) w:=by simpa using h2
       have h4:=h3.split (A:=[AV.ptr ob off]) rfl
       exact ⟨h4.l.weaken fun _ h => h.elim,h4.h.weaken fun _ h => h.elim,h4.cnt⟩
      have hrun : ∃ u',(readResult a.tmps (.cell t ty)).run P w = .ok u' w:=by
       have e0 : readResult a.tmps (.cell t ty) = (do loadVar ty (<- asAddr (a.eval (.tmp t)))):=rfl
       rw [e0]
       clear hone h1
       generalize a.eval (.tmp t) = u at hx
       cases hx with
       | ptr _ _ b hb hbc =>
        obtain ⟨u',h1,_⟩:=ldv_sem (P:=P) hv (cellsAt_of_obj hbc.choose_spec.choose_spec (h.h.obj ob cs b hob hb))
        rw [Nat.zero_add] at h1
        exact ⟨u',by simpa [asAddr] using h1⟩
      obtain ⟨u',hrun⟩:=hrun
      refine ⟨u',hrun, ?_⟩
      refine h1.turn hp fun F' hF hc1 => ?_
      obtain ⟨u2,w2,hrun2,hk⟩:=load_run (P:=P) hu (ok_load_ptr (P:=P) hc1 hob hv hR)
      have e5 : readResult a.tmps (.cell t ty) = (do loadVar ty (<- asAddr (a.eval (.tmp t)))):=rfl
      rw [<- e5,hrun] at hrun2
      cases hrun2
      exact hk
     have fin : ∀ (v' : AV) (H1 : Heap),(rev P n rs env H1 fun vs => K (v' :: vs)) -> (∀ R : AV -> Heap -> Prop,R v' H1 -> R v.borrow H \/ R v (H.set ob (some (splice cs off (v.cells.map borrow1))))) ->
       ∃ us,((ResultVar.cell t ty :: rs).mapM (readResult a.tmps)).run P w = .ok us w /\ ∃ vs env' H' G',K vs env' H' /\ vs.length = us.length /\ CRel F G' (pre ++ vs ++ elist n env') H' (upre ++ us ++ a.tmps.toList) w /\ Ext F G w G' w:=by
      intro v' H1 hrev hR
      obtain ⟨u',hrun,v2,H2,G2,⟨rfl,rfl⟩,hc2,he2⟩:=key (fun a b => a = v' /\ b = H1) (hR (fun a b => a = v' /\ b = H1) ⟨rfl,rfl⟩)
      obtain ⟨us,hrun',vs,env',H',G',hK,hlen,hc,he⟩:=rev_sound hn rs env H2 G2 w (pre ++ [v2]) (upre ++ [u']) _ (by simpa using hc2) (by simp [hp]) ho hrev
      refine ⟨u' :: us, ?_,_,env',H',G',hK,by simp [hlen],by simpa using hc,he2.trans he⟩
      simp only [List.mapM_cons,Sem.run_bind,hrun,Sem.run_pure,Result.andThen_ok,hrun']
     by_cases hw : v.owned = true
     ·rw [if_pos hw] at hr
      exact fin _ _ hr fun R h => .inr h
     ·rw [if_neg hw] at hr
      exact fin _ _ hr fun R h => .inl h
    ·exact hr.elim
   ·exact hr.elim
  ·exact hr.elim
theorem run_results {fn : Func} {tm : Array Value} {w w' : World} {us : List Value} (h : (fn.results.toList.mapM (readResult tm)).run P w = .ok us w') :
  (results fn tm).run P w = .ok (match (generalizing:=false) us with
   | [u] => u
   | us => .tuple us.toArray) w':=by
 unfold results
 rw [Array.mapM_eq_mapM_toList]
 rw [Sem.run_bind,Sem.run_map]
 have e : ∀ (g g' : ResultVar -> Sem Value) (l : List ResultVar),(∀ r,g r = g' r) -> l.mapM g = l.mapM g':=fun g g' l hg => by rw [show g = g' from funext hg]
 rw [e _ (readResult tm) fn.results.toList (fun r => by cases r <;> rfl),h]
 simp only [Result.andThen_ok,Sem.run_pure]
 match us with
 | [] => simp
 | [t] => simp
 | t :: t' :: ts => simp
theorem ret_out {env : Env} {a : Act} {fn : Func} {K : AV -> Heap -> Prop} {ex : Exit} (hs : SRel F G n env H a w) (hq : QRet P n fn.results K ex env H) :
  (ex = .normal \/ ex = .ret) /\ ∃ v u H' G',K v H' /\ CRel F G' [v] H' [u] w /\ Ext F G w G' w /\ (results fn a.tmps).run P w = .ok u w:=by
 have main : (rev P n fn.results.toList env H fun vs _ H' => retK K vs H') -> ∃ v u H' G',K v H' /\ CRel F G' [v] H' [u] w /\ Ext F G w G' w /\ (results fn a.tmps).run P w = .ok u w:=by
  intro hq
  obtain ⟨us,hrun,vs,env',H',G',hK,hlen,hc,he⟩:=rev_sound (pre:=[]) (upre:=[]) hs.size fn.results.toList env H G w _ hs.c rfl hs.out hq
  have hres:=run_results hrun
  have hc1 : CRel F G' vs H' us w:=by
   have h1:=hc.split (A:=[] ++ vs) (B:=elist n env') (by simpa using hlen)
   have h2 : CRel (fun b => F b \/ 0 < tcnt b (elist n env') a.tmps.toList) G' vs H' us w:=by simpa using h1
   exact ⟨h2.l.weaken fun _ h => .inl h,h2.h.weaken fun _ h => .inl h,h2.cnt⟩
  match vs,us,hlen with
  | [v],[u],_ => exact ⟨v,u,H',G',hK,hc1,he,hres⟩
  | [],[],_ =>
   obtain ⟨h1,h2,h3⟩:=tuple_of _ _ hc1.l hK.1
   exact ⟨_,_,H',G',hK.2,hc1.one h1 h2 fun b => Nat.le_of_eq (h3 b),he,hres⟩
  | v :: v2 :: vs,u :: u2 :: us,_ =>
   obtain ⟨h1,h2,h3⟩:=tuple_of _ _ hc1.l hK.1
   exact ⟨_,_,H',G',hK.2,hc1.one h1 h2 fun b => Nat.le_of_eq (h3 b),he,hres⟩
 cases ex with
 | normal => exact ⟨.inl rfl,main hq⟩
 | ret => exact ⟨.inr rfl,main hq⟩
 | _ => exact hq.elim
theorem CRel.shut {vs : List AV} {us : List Value} (h : CRel F G vs H us w) {b : Nat} (hd : isD w b) (hF : ¬ F b) : CRel F G vs H us (w.putObj b (.deferred none)) /\ Ext F G w G (w.putObj b (.deferred none)):=by
 have he : Ext F G w G (w.putObj b (.deferred none)):=ext_putObj hF hd (fun _ _ _ e => by cases e)
 have hne : ∀ b',b' ≠ b -> (w.putObj b (.deferred none)).heap[b']? = w.heap[b']?:=fun b' hn => World.putObj_heap_other hn
 have hcells : ∀ {b' : Nat} {C : Array Value} {E : TypeId},w.heap[b']? = some (.cells C E (0,0)) -> b' ≠ b:=fun h3 e => by
  subst e; unfold isD at hd; rw [hd] at h3; cases h3
 refine ⟨⟨⟨h.l.len,fun i a u h1 h2 => (h.l.rel i a u h1 h2).keep he.keeps,fun i a u h1 h2 p hp => (h.l.tok i a u h1 h2 p hp).keep fun b' hb' => ?_⟩,h.h.ext he rfl fun b' hb' => ⟨rfl, ?_⟩,fun b' => ?_⟩,he⟩
 ·obtain ⟨t1,_,C,E,t3⟩:=(h.l.tok i a u h1 h2 p hp).of_tok hb'
  exact ⟨t1,rfl,hne b' (hcells t3)⟩
 ·refine hne b' ?_
  rcases hb' with ⟨o,cs,h1,h2⟩ | hb'
  ·intro e; subst e; exact (h.h.obj o cs _ h1 h2).not_isD hd
  ·obtain ⟨_,_,C,E,t3⟩:=h.h.tok_of_pos hb'
   exact hcells t3
 ·rw [hcnt_ext (G:=G) (w:=w) (G':=G) rfl fun o cs b2 h1 h2 => hne b2 fun e => by subst e; exact (h.h.obj o cs _ h1 h2).not_isD hd]
  exact h.cnt b'
theorem leaves_marks {fn : Func} {tm : Array Value} {R : Ending -> World -> Prop} {vs : List AV} {us : List Value} {G0 : Gh} {w0 : World} : ∀ (bs : List Nat) {w : World},CRel F G vs H us w -> bs.Nodup -> (∀ b ∈ bs,¬ F b /\ isD w b) -> Ext F G0 w0 G w ->
  (∀ w',CRel F G vs H us w' -> Ext F G0 w0 G w' -> ∃ v,(results fn tm).run P w' = .ok v w' /\ R (.returned v) w') ->
  LeavesInM Fence.wide 0 P fn tm R (bs.map fun b => { target:=.collected b,args:=#[] }) .returning w
 | [],w,hc,_,_,he,hk => hk w hc he
 | b :: bs,w,hc,hn,hb,he,hk => by
  obtain ⟨h1,h2⟩:=List.nodup_cons.1 hn
  obtain ⟨hF,hd⟩:=hb b (by simp)
  obtain ⟨hc',he'⟩:=hc.shut hd hF
  refine ⟨by simp,.inl ⟨b,_,rfl,run_takeDeferred (P:=P) hd,leaves_marks bs hc' h2 (fun b' hb' => ⟨(hb b' (by simp [hb'])).1, ?_⟩) (he.trans he') hk⟩⟩
  have h3:=(hb b' (by simp [hb'])).2
  unfold isD at h3 ⊢
  rw [World.putObj_heap_other (fun (e : b' = b) => h1 (by rw [<- e]; exact hb'))]; exact h3
theorem calls_of_awp {f : FuncId} {fn : Func} {c : Code} {h : Hint} {vs : List AV} {us : List Value} {K : AV -> Heap -> Prop} (hg : h.gc = [] \/ G.obs = []) (hm : P.follows .mixedOrders = true) (hd : fn.body.any (drawsOk h) = true) (hf : P.funcs[f]? = some fn) (hb : fn.body = some c)
  (hn : vs.length <= fn.ntmps) (ha : awp P fn.ntmps h none c (QRet P fn.ntmps fn.results K) (argsFrom 0 vs) H) (hc : CRel F G vs H us w) :
  Calls P f us.toArray w fun e w' => ∃ u,e = .returned u /\ ∃ v H' G',K v H' /\ CRel F G' [v] H' [u] w' /\ Ext F G w G' w':=by
 have hlen:=hc.l.len
 have hs : SRel F G fn.ntmps (argsFrom 0 vs) H { tmps:=us.toArray ++ Array.replicate (fn.ntmps - us.toArray.size) Go.undef,defers:=[] } w:=by
  refine ⟨by simp; omega,.nil F w,fun t ht => ?_, ?_⟩
  ·rw [look_argsFrom,if_pos (Nat.zero_le _),List.getElem?_eq_none (by simp; exact Nat.le_trans hn ht)]; rfl
  ·rw [elist_args vs hn]
   have:=hc.args (fn.ntmps - vs.length)
   simp only [Array.toList_append,Array.toList_replicate,List.size_toArray]
   rw [<- hlen]
   exact this
 refine callsIn_wide.1 (callsIn_of_wp_marks (F:=Fence.wide) (n:=0) hf hb trivial (show c.wpIn (fen none) 0 P _ _ w from awp_sound hm c none none F G w hg trivial (by rw [hb] at hd; exact hd) _ _ G _ H _ w hs (.refl F G w) ha fun ex a' w' hl => ?_))
 obtain ⟨env',H',G',hq,hs',he⟩:=hl
 have hex : ex = .normal \/ ex = .ret:=(ret_out hs' hq).1
 obtain ⟨bs,hb1,hb2,hb3⟩:=hs'.defers
 have hfin : LeavesInM Fence.wide 0 P fn a'.tmps (fun e w' => ∃ u,e = .returned u /\ ∃ v H' G',K v H' /\ CRel F G' [v] H' [u] w' /\ Ext F G w G' w') a'.defers .returning w':=by
  rw [hb1]
  refine leaves_marks bs hs'.c hb2 hb3 he fun w2 hc2 he2 => ?_
  obtain ⟨_,v,u,H2,G2,hK,hcr,he3,hrun⟩:=ret_out (a:={ tmps:=a'.tmps,defers:=[] }) ⟨hs'.size,.nil F w2,hs'.out,hc2⟩ hq
  exact ⟨u,hrun,u,rfl,v,H2,G2,hK,hcr,he2.trans he3⟩
 rcases hex with rfl | rfl
 ·exact hfin
 ·exact hfin
theorem ACall.of {f : FuncId} {fn : Func} {c : Code} {vs : List AV} {R : AV -> Heap -> Prop} (h : Hint) (hg : h.gc = []) (hm : P.follows .mixedOrders = true) (hd : fn.body.any (drawsOk h) = true) (hf : P.funcs[f]? = some fn) (hb : fn.body = some c) (hcal : callable P f = true)
  (hn : vs.length <= fn.ntmps) (ha : awp P fn.ntmps h none c (QRet P fn.ntmps fn.results R) (argsFrom 0 vs) H) : ACall P f vs H R :=
 ⟨hcal,fun F G w us hc => calls_of_awp (.inl hg) hm hd hf hb hn ha hc⟩
def hidden (F : Nat -> Prop) (G : Gh) (H : Heap) (w : World) (b : Nat) : Prop :=
 F b \/ (∃ (o : Nat) (cs : List AV),H[o]? = some (some cs) /\ G.obs[o]? = some b) \/ 0 < hcnt G H w b
theorem CRel.hide {vs : List AV} {us : List Value} (hc : CRel F G vs H us w) (hp : ∀ v ∈ vs,v.pure = true) : CRel (hidden F G H w) ⟨[],G.kind⟩ vs [] us w:=by
 refine ⟨⟨hc.l.len,fun i a u h1 h2 => VRel.pure (G:=G) (G':=⟨[],G.kind⟩) rfl (hc.l.rel i a u h1 h2) (hp a (List.mem_of_getElem? h1)),fun i a u h1 h2 p hm => ?_⟩,
  ⟨rfl,fun o cs b h1 _ => by simp at h1,fun o o' cs cs' b h1 _ _ _ => by simp at h1,fun b hb => ?_,hc.h.glob.same rfl⟩,fun b => ?_⟩
 ·have ht:=hc.l.tok i a u h1 h2 p hm
  refine (Option.eq_none_or_eq_some (tok p)).elim TokOk.of_none fun ⟨b,hb⟩ => ?_
  have hx:=ht.of_tok hb
  have key : TokOk (hidden F G H w) G w p:=ht.keep fun b' hb' => by
   rw [hb] at hb'; cases hb'
   refine ⟨?_,rfl,rfl⟩
   rintro (h | ⟨o,cs,h3,h4⟩ | h)
   ·exact hx.1 h
   ·obtain ⟨_,⟨q,hq⟩,_⟩:=hx
    exact (hc.h.obj o cs b h3 h4).no_buf hq
   ·have h5:=tcnt_of_tok h1 h2 hm hb
    have:=hc.cnt b
    omega
  exact key
 ·rcases hb with h | ⟨o,cs,h3,h4⟩ | h
  ·exact hc.h.fore b h
  ·exact hc.h.block_lt h3 h4
  ·obtain ⟨_,_,C,E,hh⟩:=hc.h.tok_of_pos h
   exact (Array.getElem?_eq_some_iff.1 hh).1
 ·have:=hc.cnt b
  show tcnt b vs us + hcnt _ [] w b <= 1
  simp only [hcnt,List.length_nil,List.range_zero,List.map_nil,List.sum_nil]
  omega
theorem CRel.unhide {vs : List AV} {us : List Value} (hc : CRel F G vs H us w) {G' : Gh} {H2 : Heap} {v : AV} {u : Value} {w' : World} (hv : v.pure = true)
  (hr : CRel (hidden F G H w) G' [v] H2 [u] w') (he : Ext (hidden F G H w) ⟨[],G.kind⟩ w G' w') :
  CRel F ⟨G.obs,G'.kind⟩ [v] H [u] w' /\ Ext F G w ⟨G.obs,G'.kind⟩ w':=by
 have hk : Keeps G w ⟨G.obs,G'.kind⟩ w':=⟨fun _ _ h => h,he.keeps.shape,fun b hb hs => he.keeps.sp b hb hs,fun b o x hs hcell => he.keeps.safe b o x hs hcell⟩
 have hext : Ext F G w ⟨G.obs,G'.kind⟩ w':=⟨he.size,hk,fun b hb => he.kind b (.inl hb),fun b hb => he.cells b (.inl hb),he.io⟩
 obtain ⟨h1,h2,_⟩:=hr.l.uncons
 refine ⟨⟨.cons (VRel.pure (G:=G') (G':=⟨G.obs,G'.kind⟩) rfl h1 hv) (fun p hp => ?_) (.nil F _ _), ?_,fun b => ?_⟩,hext⟩
 ·have:=(h2 p hp).weaken (F:=F) fun b hb => .inl hb
  exact this
 ·exact hc.h.ext hext rfl fun b hb => ⟨he.kind b (.inr hb),he.cells b (.inr hb)⟩
 ·have e : hcnt ⟨G.obs,G'.kind⟩ H w' b = hcnt G H w b:=hcnt_ext rfl (fun o cs b' g1 g2 => he.cells b' (.inr (.inl ⟨o,cs,g1,g2⟩))) b
  rw [e,tcnt_cons,tcnt_nil]
  by_cases h0 : 0 < hcnt G H w b
  ·have h3 : ¬ 0 < tcnt b [v] [u]:=fun hp => (hr.l.tok_of_pos hp).1 (.inr (.inr h0))
   rw [tcnt_cons,tcnt_nil] at h3
   have:=hc.cnt b
   omega
  ·have:=hr.cnt b
   rw [tcnt_cons,tcnt_nil] at this
   omega
theorem QCall.of {f : FuncId} {fn : Func} {c : Code} {vs : List AV} {Q : AV -> Prop} (h : Hint) (hm : P.follows .mixedOrders = true) (hd : fn.body.any (drawsOk h) = true) (hf : P.funcs[f]? = some fn) (hb : fn.body = some c) (hcal : callable P f = true)
  (hn : vs.length <= fn.ntmps) (hp : pureL vs = true) (ha : awp P fn.ntmps h none c (QRet P fn.ntmps fn.results fun v' _ => v'.pure = true /\ Q v') (argsFrom 0 vs) []) : QCall P f vs Q:=fun H =>
 ⟨hcal,fun F G w us hc => Calls.mono (calls_of_awp (.inr rfl) hm hd hf hb hn ha (hc.hide (pureL_mem hp))) fun e w' he => by
  obtain ⟨u,rfl,v',H2,G',⟨hv,hq⟩,hcr,hext⟩:=he
  obtain ⟨h1,h2⟩:=hc.unhide hv hcr hext
  exact ⟨u,rfl,v',H,_,⟨hq,rfl⟩,h1,h2⟩⟩
theorem PCall.of {f : FuncId} {fn : Func} {c : Code} {vs : List AV} {v : AV} (h : Hint) (hm : P.follows .mixedOrders = true) (hd : fn.body.any (drawsOk h) = true) (hf : P.funcs[f]? = some fn) (hb : fn.body = some c) (hcal : callable P f = true)
  (hn : vs.length <= fn.ntmps) (hp : pureL vs = true) (hv : v.pure = true) (ha : awp P fn.ntmps h none c (QRet P fn.ntmps fn.results fun v' _ => v' = v) (argsFrom 0 vs) []) : PCall P f vs v:=fun H =>
 ⟨hcal,fun F G w us hc => Calls.mono (calls_of_awp (.inr rfl) hm hd hf hb hn ha (hc.hide (pureL_mem hp))) fun e w' he => by
  obtain ⟨u,rfl,v',H2,G',rfl,hcr,hext⟩:=he
  obtain ⟨h1,h2⟩:=hc.unhide hv hcr hext
  exact ⟨u,rfl,_,H,_,⟨rfl,rfl⟩,h1,h2⟩⟩
end
end Go.AI
