/- From the code's walk at the abstract side to the contract of a call. -/
import Derived.Test.YtofajkggflobkaaGreatDoorLg
import Derived.ProofKit
import Derived.SizedLaws
import Derived.Test.YtofajkggflobkaaGreatDoorLa
namespace Go.AI
mutual
def AV.pure : AV -> Bool
 | .ptr _ _ => false
 | .msl _ _ _ _ => false
 | .mslc _ _ _ _ _ => false
 | .mapr _ => false
 | .it _ => false
 | .yld _ _ => false
 | .ifc _ a => a.pure
 | .cptr cs _ => pureL cs
 | .sl _ es => pureL es
 | .fn _ a b => pureL a && pureL b
 | .agg cs => pureL cs
 | .tup vs => pureL vs
 | _ => true
def pureL : List AV -> Bool
 | [] => true
 | v :: vs => v.pure && pureL vs
end
theorem pureL_mem {vs : List AV} (h : pureL vs = true) : ∀ v ∈ vs,v.pure = true:=by
 induction vs with
 | nil => intro v hv; cases hv
 | cons x xs ih =>
  simp only [pureL,Bool.and_eq_true] at h
  intro v hv
  rcases List.mem_cons.1 hv with rfl | hv
  ·exact h.1
  ·exact ih h.2 v hv
theorem pure_cells {v : AV} (h : v.pure = true) : ∀ c ∈ v.cells,c.pure = true:=by
 cases v <;> first | (intro c hc; simp only [AV.cells,List.mem_singleton] at hc; subst hc; exact h) | skip
 simp only [AV.pure] at h
 exact pureL_mem h
theorem pure_cat {es : List AV} (h : pureL es = true) : ∀ c ∈ cat es,c.pure = true:=by
 intro c hc
 obtain ⟨e,he,hc⟩:=List.mem_flatMap.1 hc
 exact pure_cells (pureL_mem h e he) c hc
theorem VRel.pure {G G' : Gh} {w : World} (hk : G'.kind = G.kind) {a : AV} {v : Value} (h : VRel G w a v) (hp : a.pure = true) : VRel G' w a v:=by
 have hsafe : ∀ b o,G.safe b o -> G'.safe b o:=fun b o hs => by unfold Gh.safe at *; rw [hk]; exact hs
 induction h with
 | undef v => exact .undef v
 | int k n => exact .int k n
 | bool b => exact .bool b
 | str s => exact .str s
 | nilp => exact .nilp
 | ptr o off b h hc => cases hp
 | mapr o b h hb hk => cases hp
 | it o b h hb hk => cases hp
 | nilm => exact .nilm
 | yld o b L h hb hk => cases hp
 | ifc t a v hs h ih => exact .ifc t a v hs (ih (by simpa [AV.pure] using hp))
 | nili => exact .nili
 | cptr cs off b q u h hu ih =>
  simp only [AV.pure] at hp
  exact .cptr cs off b q u (fun i c hi => ⟨(h i c hi).1,hsafe _ _ (h i c hi).2.1,(h i c hi).2.2⟩) fun i c hi => ih i c hi (pureL_mem hp c (List.mem_of_getElem? hi))
 | slnil own => exact .slnil own
 | slany own a => exact .slany own a
 | sl own es sz b q cap u hsz hown hl hm h hu ih =>
  simp only [AV.pure] at hp
  exact .sl own es sz b q cap u hsz hown hl hm (fun i c hi => ⟨(h i c hi).1,hsafe _ _ (h i c hi).2.1,(h i c hi).2.2⟩) fun i c hi => ih i c hi (pure_cat hp c (List.mem_of_getElem? hi))
 | msl => cases hp
 | mslc => cases hp
 | fn f first captured fi ca h1 h2 h3 h4 ih1 ih2 =>
  simp only [AV.pure,Bool.and_eq_true] at hp
  exact .fn f first captured fi ca h1 h2 (fun i c v hc hv => ih1 i c v hc hv (pureL_mem hp.1 c (List.mem_of_getElem? hc))) (fun i c v hc hv => ih2 i c v hc hv (pureL_mem hp.2 c (List.mem_of_getElem? hc)))
 | nilf => exact .nilf
 | agg cs vs hl hs h ih =>
  simp only [AV.pure] at hp
  exact .agg cs vs hl hs fun i c v hc hv => ih i c v hc hv (pureL_mem hp c (List.mem_of_getElem? hc))
 | tup cs vs hl hs h ih =>
  simp only [AV.pure] at hp
  exact .tup cs vs hl hs fun i c v hc hv => ih i c v hc hv (pureL_mem hp c (List.mem_of_getElem? hc))
def rev (P : Program) (n : Nat) : List ResultVar -> Env -> Heap -> (List AV -> Env -> Heap -> Prop) -> Prop
 | [],e,H,K => K [] e H
 | .tmp t :: rs,e,H,K => t < n /\ rev P n rs (ev1 P none true (.tmp t) e).2 H fun vs => K ((ev1 P none true (.tmp t) e).1 :: vs)
 | .cell t ty :: rs,e,H,K => t < n /\ match look e t with
  | .ptr ob off => match H[ob]? with
   | some (some cs) => match ldv P ty cs off with
    | some v => if v.owned = true then rev P n rs e (H.set ob (some (splice cs off (v.cells.map borrow1)))) fun vs => K (v :: vs) else rev P n rs e H fun vs => K (v.borrow :: vs)
    | none => False
   | _ => False
  | _ => False
def retK (K : AV -> Heap -> Prop) (vs : List AV) (H : Heap) : Prop :=
 match vs with
 | [v] => K v H
 | vs => (∀ v ∈ vs,v.isVal = true) /\ K (.tup vs) H
def QRet (P : Program) (n : Nat) (rs : Array ResultVar) (K : AV -> Heap -> Prop) (ex : Exit) (e : Env) (H : Heap) : Prop :=
 match ex with
 | .normal | .ret => rev P n rs.toList e H fun vs _ H' => retK K vs H'
 | _ => False
section
variable {P : Program} {F : Nat -> Prop} {G : Gh} {w : World} {H : Heap} {n : Nat}
theorem LRel.undefs (k : Nat) : LRel F G (List.replicate k .undef) (List.replicate k Go.undef) w:=by
 refine ⟨by simp,fun i a u h1 _ => ?_,fun i a u h1 _ => ?_⟩ <;> rw [List.getElem?_replicate] at h1 <;> split at h1 <;> cases h1
 ·exact .undef u
 ·exact tok_nil_all (toks_undef u) F G w
theorem tcnt_undefs (b k : Nat) : tcnt b (List.replicate k .undef) (List.replicate k Go.undef) = 0:=by
 induction k with
 | zero => rfl
 | succ k ih => rw [List.replicate_succ,List.replicate_succ,tcnt_cons,ih,toks_undef]; rfl
theorem CRel.args {vs : List AV} {us : List Value} (h : CRel F G vs H us w) (k : Nat) : CRel F G (vs ++ List.replicate k .undef) H (us ++ List.replicate k Go.undef) w:=by
 refine ⟨h.l.append (LRel.undefs k),h.h,fun b => ?_⟩
 rw [tcnt_append _ _ _ _ _ h.l.len,tcnt_undefs]
 exact h.cnt b
theorem prs_tup_cons {v : AV} {u : Value} {vs : List AV} {us : List Value} (hv : v.isVal = true) (h : VRel G w v u) : prs (.tup (v :: vs)) (.tuple (u :: us).toArray) = prs v u ++ prs (.tup vs) (.tuple us.toArray):=by
 rw [prs_val hv h]
 simp only [prs,AV.flat,vflat,List.flatMap_cons]
 rw [List.zip_append]
 have:=(val_shape hv h).2.2
 simpa using this
theorem tuple_of : ∀ (vs : List AV) (us : List Value),LRel F G vs us w -> (∀ v ∈ vs,v.isVal = true) ->
  VRel G w (.tup vs) (.tuple us.toArray) /\ (∀ p ∈ prs (.tup vs) (.tuple us.toArray),TokOk F G w p) /\ ∀ b,(toks (.tup vs) (.tuple us.toArray)).count b = tcnt b vs us:=by
 intro vs us hl hv
 refine ⟨.tup vs _ (by simpa using hl.len) hv (fun i c u h1 h2 => hl.rel i c u h1 (by simpa using h2)), ?_⟩
 induction vs generalizing us with
 | nil =>
  match us,hl.len with
  | [],_ => exact ⟨fun p hp => by simp [prs,AV.flat] at hp,fun b => by simp [toks,prs,AV.flat,tcnt]⟩
 | cons v vs ih =>
  match us,hl.len with
  | u :: us,_ =>
   obtain ⟨h1,h2,h3⟩:=hl.uncons
   obtain ⟨g1,g2⟩:=ih us h3 fun x hx => hv x (by simp [hx])
   have e:=prs_tup_cons (vs:=vs) (us:=us) (hv v (by simp)) h1
   refine ⟨fun p hp => ?_,fun b => ?_⟩
   ·rw [e] at hp
    rcases List.mem_append.1 hp with h | h
    ·exact h2 p h
    ·exact g1 p h
   ·have:=g2 b
    unfold toks at this ⊢
    rw [e,List.filterMap_append,List.count_append,this,tcnt_cons]
    rfl
theorem CRel.comm {A B : List AV} {ua ub : List Value} (h : CRel F G (A ++ B) H (ua ++ ub) w) (hl : A.length = ua.length) : CRel F G (B ++ A) H (ub ++ ua) w:=by
 obtain ⟨h1,h2⟩:=h.l.split hl
 refine ⟨h2.append h1,h.h,fun b => ?_⟩
 have:=h.cnt b
 rw [tcnt_append b A ua B ub hl] at this
 rw [tcnt_append b B ub A ua h2.len]
 omega
theorem CRel.turn {A B : List AV} {v : AV} {ua ub : List Value} {u : Value} {R : AV -> Heap -> Prop} {u' : Value} {w' : World} (h : CRel F G (A ++ v :: B) H (ua ++ u :: ub) w) (hl : A.length = ua.length)
  (hk : ∀ F',(∀ b,F b -> F' b) -> CRel F' G [v] H [u] w -> KOut F' G w R u' w') : ∃ v' H' G',R v' H' /\ CRel F G' (A ++ v' :: B) H' (ua ++ u' :: ub) w' /\ Ext F G w G' w':=by
 have h1 : CRel F G ((v :: B) ++ A) H ((u :: ub) ++ ua) w:=h.comm hl
 have h2 : CRel F G ([v] ++ (B ++ A)) H ([u] ++ (ub ++ ua)) w:=by simpa using h1
 have hB:=(h2.l.split (A:=[v]) rfl).2
 have hc:=h2.split (A:=[v]) rfl
 obtain ⟨v',H',G',hr,hc',he⟩:=hk _ (fun b hb => Or.inl hb) hc
 have hcb : ∀ b,tcnt b (B ++ A) (ub ++ ua) <= 1:=fun b => by
  have:=h2.cnt b
  rw [tcnt_append b [v] [u] _ _ rfl] at this
  omega
 have hj:=CRel.join (F:=F) hB hcb (fun b hb => Or.inl hb) (fun b hb => Or.inr hb) he hc'
 refine ⟨v',H',G',hr, ?_,he.mono fun b hb => Or.inl hb⟩
 have hlB : B.length = ub.length:=by
  have:=hB.len
  simp at this
  omega
 have h3 : CRel F G' ((v' :: B) ++ A) H' ((u' :: ub) ++ ua) w':=by simpa using hj
 exact h3.comm (by simp [hlB])
def readResult (tm : Array Value) : ResultVar -> Sem Value
 | .tmp t => pure (tm.getD t Go.undef)
 | .cell a t => do loadVar t (<- asAddr (tm.getD a Go.undef))
theorem load_run {t : TypeId} {u : Value} {R : AV -> Heap -> Prop} {w : World} (hu : ∃ a,u = .pointer (some a)) (h : OpRes P ((do let r <- Instr.loadAt t u; pure (Next.value r) : Sem Next).run P w) (KOut F G w R)) :
  ∃ u' w',(do loadVar t (<- asAddr u) : Sem Value).run P w = .ok u' w' /\ KOut F G w R u' w':=by
 obtain ⟨a,rfl⟩:=hu
 have e1 : (Instr.loadAt t (.pointer (some a)) : Sem Value).run P w = (loadVar t a).run P w:=by
  simp [Instr.loadAt,Instr.sureAddr]
 have e2 : (do loadVar t (<- asAddr (.pointer (some a))) : Sem Value).run P w = (loadVar t a).run P w:=by
  simp [asAddr]
 rw [e2]
 rw [Sem.run_bind,e1] at h
 cases hr : (loadVar t a).run P w with
 | ok u' w' =>
  rw [hr] at h
  simp only [Result.andThen_ok,Sem.run_pure] at h
  exact ⟨u',w',rfl,h⟩
 | _ => rw [hr] at h; exact h.elim
theorem rev_sound {a : Act} (hn : a.tmps.size = n) : ∀ (rs : List ResultVar) (env : Env) (H : Heap) (G : Gh) (w : World) (pre : List AV) (upre : List Value) (K : List AV -> Env -> Heap -> Prop),
  CRel F G (pre ++ elist n env) H (upre ++ a.tmps.toList) w -> pre.length = upre.length -> (∀ t,n <= t -> look env t = .undef) -> rev P n rs env H K ->
  ∃ us,(rs.mapM (readResult a.tmps)).run P w = .ok us w /\ ∃ vs env' H' G',K vs env' H' /\ vs.length = us.length /\ CRel F G' (pre ++ vs ++ elist n env') H' (upre ++ us ++ a.tmps.toList) w /\ Ext F G w G' w
 | [],env,H,G,w,pre,upre,K,h,hp,ho,hr => ⟨[],by simp,[],env,H,G,hr,rfl,by simpa using h,.refl F G w⟩
 | .tmp t :: rs,env,H,G,w,pre,upre,K,h,hp,ho,hr => by
  obtain ⟨htn,hr⟩:=hr
  obtain ⟨h1,ho1⟩:=ev1_ok (P:=P) none true (.tmp t) h hp hn ho
  obtain ⟨us,hrun,vs,env',H',G',hK,hlen,hc,he⟩:=rev_sound hn rs (ev1 P none true (.tmp t) env).2 H G w (pre ++ [(ev1 P none true (.tmp t) env).1]) (upre ++ [a.eval (.tmp t)]) _ (by simpa using h1) (by simp [hp]) ho1 hr
  refine ⟨a.eval (.tmp t) :: us, ?_,_,env',H',G',hK,by simp [hlen],by simpa using hc,he⟩
  have e0 : readResult a.tmps (.tmp t) = pure (a.eval (.tmp t)):=rfl
  simp only [List.mapM_cons,Sem.run_bind,e0,Sem.run_pure,Result.andThen_ok,hrun]
 | .cell t ty :: rs,env,H,G,w,pre,upre,K,h,hp,ho,hr => by
  obtain ⟨htn,hr⟩:=hr
  split at hr
  ·rename_i ob off hlk
   split at hr
   ·rename_i cs hob
    split at hr
    ·rename_i v hv
     obtain ⟨h1,ho1⟩:=ev1_ok (P:=P) none false (.tmp t) h hp hn ho
     have e1 : ev1 P none false (.tmp t) env = (.ptr ob off,env):=by simp [ev1,evo,hlk,AV.borrow,borrow0]
     rw [e1] at h1
     have key : ∀ R : AV -> Heap -> Prop,(R v.borrow H \/ R v (H.set ob (some (splice cs off (v.cells.map borrow1))))) -> ∃ u',(readResult a.tmps (.cell t ty)).run P w = .ok u' w /\
       ∃ v' H' G',R v' H' /\ CRel F G' (pre ++ v' :: elist n env) H' (upre ++ u' :: a.tmps.toList) w /\ Ext F G w G' w:=by
      intro R hR
      have hx : VRel G w (.ptr ob off) (a.eval (.tmp t)):=(((h1.l.split hp).2).uncons).1
      have hu : ∃ ad,a.eval (.tmp t) = .pointer (some ad):=by
       generalize a.eval (.tmp t) = u at hx
       cases hx; exact ⟨_,rfl⟩
      have hone : CRel (fun _ => False) G [AV.ptr ob off] H [a.eval (.tmp t)] w:=by
       have h2 : CRel F G ((AV.ptr ob off :: elist n env) ++ pre) H ((a.eval (.tmp t) :: a.tmps.toList) ++ upre) w:=h1.comm hp
       have h3 : CRel F G ([AV.ptr ob off] ++ (elist n env ++ pre)) H ([a.eval (.tmp t)] ++ (a.tmps.toList ++ upre)) w:=by simpa using h2
       have h4:=h3.split (A:=[AV.ptr ob off]) rfl
       exact ⟨h4.l.weaken fun _ h => h.elim,h4.h.weaken fun _ h => h.elim,h4.cnt⟩
      have hrun : ∃ u',(readResult a.tmps (.cell t ty)).run P w = .ok u' w:=by
       have e0 : readResult a.tmps (.cell t ty) = (do loadVar ty (<- asAddr (a.eval (.tmp t)))):=rfl
       rw [e0]
       clear hone h1
       generalize a.eval (.tmp t) = u at hx
       cases hx with
       | ptr _ _ b hb hbc =>
        obtain ⟨u',h1,_⟩:=ldv_sem (P:=P) hv (cellsAt_of_obj hbc.choose_spec.choose_spec (h.h.obj ob cs b hob hb))
        rw [Nat.zero_add] at h1
        exact ⟨u',by simpa [asAddr] using h1⟩
      obtain ⟨u',hrun⟩:=hrun
      refine ⟨u',hrun, ?_⟩
      refine h1.turn hp fun F' hF hc1 => ?_
      obtain ⟨u2,w2,hrun2,hk⟩:=load_run (P:=P) hu (ok_load_ptr (P:=P) hc1 hob hv hR)
      have e5 : readResult a.tmps (.cell t ty) = (do loadVar ty (<- asAddr (a.eval (.tmp t)))):=rfl
      rw [<- e5,hrun] at hrun2
      cases hrun2
      exact hk
     have fin : ∀ (v' : AV) (H1 : Heap),(rev P n rs env H1 fun vs => K (v' :: vs)) -> (∀ R : AV -> Heap -> Prop,R v' H1 -> R v.borrow H \/ R v (H.set ob (some (splice cs off (v.cells.map borrow1))))) ->
       ∃ us,((ResultVar.cell t ty :: rs).mapM (readResult a.tmps)).run P w = .ok us w /\ ∃ vs env' H' G',K vs env' H' /\ vs.length = us.length /\ CRel F G' (pre ++ vs ++ elist n env') H' (upre ++ us ++ a.tmps.toList) w /\ Ext F G w G' w:=by
      intro v' H1 hrev hR
      obtain ⟨u',hrun,v2,H2,G2,⟨rfl,rfl⟩,hc2,he2⟩:=key (fun a b => a = v' /\ b = H1) (hR (fun a b => a = v' /\ b = H1) ⟨rfl,rfl⟩)
      obtain ⟨us,hrun',vs,env',H',G',hK,hlen,hc,he⟩:=rev_sound hn rs env H2 G2 w (pre ++ [v2]) (upre ++ [u']) _ (by simpa using hc2) (by simp [hp]) ho hrev
      refine ⟨u' :: us, ?_,_,env',H',G',hK,by simp [hlen],by simpa using hc,he2.trans he⟩
      simp only [List.mapM_cons,Sem.run_bind,hrun,Sem.run_pure,Result.andThen_ok,hrun']
     by_cases hw : v.owned = true
     ·rw [if_pos hw] at hr
      exact fin _ _ hr fun R h => .inr h
     ·rw [if_neg hw] at hr
      exact fin _ _ hr fun R h => .inl h
    ·exact hr.elim
   ·exact hr.elim
  ·exact hr.elim
theorem run_results {fn : Func} {tm : Array Value} {w w' : World} {us : List Value} (h : (fn.results.toList.mapM (readResult tm)).run P w = .ok us w') :
  (results fn tm).run P w = .ok (match (generalizing:=false) us with
   | [u] => u
   | us => .tuple us.toArray) w':=by
 unfold results
 rw [Array.mapM_eq_mapM_toList]
 rw [Sem.run_bind,Sem.run_map]
 have e : ∀ (g g' : ResultVar -> Sem Value) (l : List ResultVar),(∀ r,g r = g' r) -> l.mapM g = l.mapM g':=fun g g' l hg => by rw [show g = g' from funext hg]
 rw [e _ (readResult tm) fn.results.toList (fun r => by cases r <;> rfl),h]
 simp only [Result.andThen_ok,Sem.run_pure]
 match us with
 | [] => simp
 | [t] => simp
 | t :: t' :: ts => simp
theorem ret_out {env : Env} {a : Act} {fn : Func} {K : AV -> Heap -> Prop} {ex : Exit} (hs : SRel F G n env H a w) (hq : QRet P n fn.results K ex env H) :
  (ex = .normal \/ ex = .ret) /\ ∃ v u H' G',K v H' /\ CRel F G' [v] H' [u] w /\ Ext F G w G' w /\ (results fn a.tmps).run P w = .ok u w:=by
 have main : (rev P n fn.results.toList env H fun vs _ H' => retK K vs H') -> ∃ v u H' G',K v H' /\ CRel F G' [v] H' [u] w /\ Ext F G w G' w /\ (results fn a.tmps).run P w = .ok u w:=by
  intro hq
  obtain ⟨us,hrun,vs,env',H',G',hK,hlen,hc,he⟩:=rev_sound (pre:=[]) (upre:=[]) hs.size fn.results.toList env H G w _ hs.c rfl hs.out hq
  have hres:=run_results hrun
  have hc1 : CRel F G' vs H' us w:=by
   have h1:=hc.split (A:=[] ++ vs) (B:=elist n env') (by simpa using hlen)
   have h2 : CRel (fun b => F b \/ 0 < tcnt b (elist n env') a.tmps.toList) G' vs H' us w:=by simpa using h1
   exact ⟨h2.l.weaken fun _ h => .inl h,h2.h.weaken fun _ h => .inl h,h2.cnt⟩
  match vs,us,hlen with
  | [v],[u],_ => exact ⟨v,u,H',G',hK,hc1,he,hres⟩
  | [],[],_ =>
   obtain ⟨h1,h2,h3⟩:=tuple_of _ _ hc1.l hK.1
   exact ⟨_,_,H',G',hK.2,hc1.one h1 h2 fun b => Nat.le_of_eq (h3 b),he,hres⟩
  | v :: v2 :: vs,u :: u2 :: us,_ =>
   obtain ⟨h1,h2,h3⟩:=tuple_of _ _ hc1.l hK.1
   exact ⟨_,_,H',G',hK.2,hc1.one h1 h2 fun b => Nat.le_of_eq (h3 b),he,hres⟩
 cases ex with
 | normal => exact ⟨.inl rfl,main hq⟩
 | ret => exact ⟨.inr rfl,main hq⟩
 | _ => exact hq.elim
theorem CRel.shut {vs : List AV} {us : List Value} (h : CRel F G vs H us w) {b : Nat} (hd : isD w b) (hF : ¬ F b) : CRel F G vs H us (w.putObj b (.deferred none)) /\ Ext F G w G (w.putObj b (.deferred none)):=by
 have he : Ext F G w G (w.putObj b (.deferred none)):=ext_putObj hF hd (fun _ _ _ e => by cases e)
 have hne : ∀ b',b' ≠ b -> (w.putObj b (.deferred none)).heap[b']? = w.heap[b']?:=fun b' hn => World.putObj_heap_other hn
 have hcells : ∀ {b' : Nat} {C : Array Value} {E : TypeId},w.heap[b']? = some (.cells C E (0,0)) -> b' ≠ b:=fun h3 e => by
  subst e; unfold isD at hd; rw [hd] at h3; cases h3
 refine ⟨⟨⟨h.l.len,fun i a u h1 h2 => (h.l.rel i a u h1 h2).keep he.keeps,fun i a u h1 h2 p hp => (h.l.tok i a u h1 h2 p hp).keep fun b' hb' => ?_⟩,h.h.ext he rfl fun b' hb' => ⟨rfl, ?_⟩,fun b' => ?_⟩,he⟩
 ·obtain ⟨t1,_,C,E,t3⟩:=(h.l.tok i a u h1 h2 p hp).of_tok hb'
  exact ⟨t1,rfl,hne b' (hcells t3)⟩
 ·refine hne b' ?_
  rcases hb' with ⟨o,cs,h1,h2⟩ | hb'
  ·intro e; subst e; exact (h.h.obj o cs _ h1 h2).not_isD hd
  ·obtain ⟨_,_,C,E,t3⟩:=h.h.tok_of_pos hb'
   exact hcells t3
 ·rw [hcnt_ext (G:=G) (w:=w) (G':=G) rfl fun o cs b2 h1 h2 => hne b2 fun e => by subst e; exact (h.h.obj o cs _ h1 h2).not_isD hd]
  exact h.cnt b'
theorem leaves_marks {fn : Func} {tm : Array Value} {R : Ending -> World -> Prop} {vs : List AV} {us : List Value} {G0 : Gh} {w0 : World} : ∀ (bs : List Nat) {w : World},CRel F G vs H us w -> bs.Nodup -> (∀ b ∈ bs,¬ F b /\ isD w b) -> Ext F G0 w0 G w ->
  (∀ w',CRel F G vs H us w' -> Ext F G0 w0 G w' -> ∃ v,(results fn tm).run P w' = .ok v w' /\ R (.returned v) w') ->
  LeavesInM Fence.wide 0 P fn tm R (bs.map fun b => { target:=.collected b,args:=#[] }) .returning w
 | [],w,hc,_,_,he,hk => hk w hc he
 | b :: bs,w,hc,hn,hb,he,hk => by
  obtain ⟨h1,h2⟩:=List.nodup_cons.1 hn
  obtain ⟨hF,hd⟩:=hb b (by simp)
  obtain ⟨hc',he'⟩:=hc.shut hd hF
  refine ⟨by simp,.inl ⟨b,_,rfl,run_takeDeferred (P:=P) hd,leaves_marks bs hc' h2 (fun b' hb' => ⟨(hb b' (by simp [hb'])).1, ?_⟩) (he.trans he') hk⟩⟩
  have h3:=(hb b' (by simp [hb'])).2
  unfold isD at h3 ⊢
  rw [World.putObj_heap_other (fun (e : b' = b) => h1 (by rw [<- e]; exact hb'))]; exact h3
theorem calls_of_awp {f : FuncId} {fn : Func} {c : Code} {h : Hint} {vs : List AV} {us : List Value} {K : AV -> Heap -> Prop} (hg : h.gc = [] \/ G.obs = []) (hm : P.follows .mixedOrders = true) (hd : fn.body.any (drawsOk h) = true) (hf : P.funcs[f]? = some fn) (hb : fn.body = some c)
  (hn : vs.length <= fn.ntmps) (ha : awp P fn.ntmps h none c (QRet P fn.ntmps fn.results K) (argsFrom 0 vs) H) (hc : CRel F G vs H us w) :
  Calls P f us.toArray w fun e w' => ∃ u,e = .returned u /\ ∃ v H' G',K v H' /\ CRel F G' [v] H' [u] w' /\ Ext F G w G' w':=by
 have hlen:=hc.l.len
 have hs : SRel F G fn.ntmps (argsFrom 0 vs) H { tmps:=us.toArray ++ Array.replicate (fn.ntmps - us.toArray.size) Go.undef,defers:=[] } w:=by
  refine ⟨by simp; omega,.nil F w,fun t ht => ?_, ?_⟩
  ·rw [look_argsFrom,if_pos (Nat.zero_le _),List.getElem?_eq_none (by simp; exact Nat.le_trans hn ht)]; rfl
  ·rw [elist_args vs hn]
   have:=hc.args (fn.ntmps - vs.length)
   simp only [Array.toList_append,Array.toList_replicate,List.size_toArray]
   rw [<- hlen]
   exact this
 refine callsIn_wide.1 (callsIn_of_wp_marks (F:=Fence.wide) (n:=0) hf hb trivial (show c.wpIn (fen none) 0 P _ _ w from awp_sound hm c none none F G w hg trivial (by rw [hb] at hd; exact hd) _ _ G _ H _ w hs (.refl F G w) ha fun ex a' w' hl => ?_))
 obtain ⟨env',H',G',hq,hs',he⟩:=hl
 have hex : ex = .normal \/ ex = .ret:=(ret_out hs' hq).1
 obtain ⟨bs,hb1,hb2,hb3⟩:=hs'.defers
 have hfin : LeavesInM Fence.wide 0 P fn a'.tmps (fun e w' => ∃ u,e = .returned u /\ ∃ v H' G',K v H' /\ CRel F G' [v] H' [u] w' /\ Ext F G w G' w') a'.defers .returning w':=by
  rw [hb1]
  refine leaves_marks bs hs'.c hb2 hb3 he fun w2 hc2 he2 => ?_
  obtain ⟨_,v,u,H2,G2,hK,hcr,he3,hrun⟩:=ret_out (a:={ tmps:=a'.tmps,defers:=[] }) ⟨hs'.size,.nil F w2,hs'.out,hc2⟩ hq
  exact ⟨u,hrun,u,rfl,v,H2,G2,hK,hcr,he2.trans he3⟩
 rcases hex with rfl | rfl
 ·exact hfin
 ·exact hfin
theorem ACall.of {f : FuncId} {fn : Func} {c : Code} {vs : List AV} {R : AV -> Heap -> Prop} (h : Hint) (hg : h.gc = []) (hm : P.follows .mixedOrders = true) (hd : fn.body.any (drawsOk h) = true) (hf : P.funcs[f]? = some fn) (hb : fn.body = some c) (hcal : callable P f = true)
  (hn : vs.length <= fn.ntmps) (ha : awp P fn.ntmps h none c (QRet P fn.ntmps fn.results R) (argsFrom 0 vs) H) : ACall P f vs H R :=
 ⟨hcal,fun F G w us hc => calls_of_awp (.inl hg) hm hd hf hb hn ha hc⟩
def hidden (F : Nat -> Prop) (G : Gh) (H : Heap) (w : World) (b : Nat) : Prop :=
 F b \/ (∃ (o : Nat) (cs : List AV),H[o]? = some (some cs) /\ G.obs[o]? = some b) \/ 0 < hcnt G H w b
theorem CRel.hide {vs : List AV} {us : List Value} (hc : CRel F G vs H us w) (hp : ∀ v ∈ vs,v.pure = true) : CRel (hidden F G H w) ⟨[],G.kind⟩ vs [] us w:=by
 refine ⟨⟨hc.l.len,fun i a u h1 h2 => VRel.pure (G:=G) (G':=⟨[],G.kind⟩) rfl (hc.l.rel i a u h1 h2) (hp a (List.mem_of_getElem? h1)),fun i a u h1 h2 p hm => ?_⟩,
  ⟨rfl,fun o cs b h1 _ => by simp at h1,fun o o' cs cs' b h1 _ _ _ => by simp at h1,fun b hb => ?_,hc.h.glob.same rfl⟩,fun b => ?_⟩
 ·have ht:=hc.l.tok i a u h1 h2 p hm
  refine (Option.eq_none_or_eq_some (tok p)).elim TokOk.of_none fun ⟨b,hb⟩ => ?_
  have hx:=ht.of_tok hb
  have key : TokOk (hidden F G H w) G w p:=ht.keep fun b' hb' => by
   rw [hb] at hb'; cases hb'
   refine ⟨?_,rfl,rfl⟩
   rintro (h | ⟨o,cs,h3,h4⟩ | h)
   ·exact hx.1 h
   ·obtain ⟨_,⟨q,hq⟩,_⟩:=hx
    exact (hc.h.obj o cs b h3 h4).no_buf hq
   ·have h5:=tcnt_of_tok h1 h2 hm hb
    have:=hc.cnt b
    omega
  exact key
 ·rcases hb with h | ⟨o,cs,h3,h4⟩ | h
  ·exact hc.h.fore b h
  ·exact hc.h.block_lt h3 h4
  ·obtain ⟨_,_,C,E,hh⟩:=hc.h.tok_of_pos h
   exact (Array.getElem?_eq_some_iff.1 hh).1
 ·have:=hc.cnt b
  show tcnt b vs us + hcnt _ [] w b <= 1
  simp only [hcnt,List.length_nil,List.range_zero,List.map_nil,List.sum_nil]
  omega
theorem CRel.unhide {vs : List AV} {us : List Value} (hc : CRel F G vs H us w) {G' : Gh} {H2 : Heap} {v : AV} {u : Value} {w' : World} (hv : v.pure = true)
  (hr : CRel (hidden F G H w) G' [v] H2 [u] w') (he : Ext (hidden F G H w) ⟨[],G.kind⟩ w G' w') :
  CRel F ⟨G.obs,G'.kind⟩ [v] H [u] w' /\ Ext F G w ⟨G.obs,G'.kind⟩ w':=by
 have hk : Keeps G w ⟨G.obs,G'.kind⟩ w':=⟨fun _ _ h => h,he.keeps.shape,fun b hb hs => he.keeps.sp b hb hs,fun b o x hs hcell => he.keeps.safe b o x hs hcell⟩
 have hext : Ext F G w ⟨G.obs,G'.kind⟩ w':=⟨he.size,hk,fun b hb => he.kind b (.inl hb),fun b hb => he.cells b (.inl hb),he.io⟩
 obtain ⟨h1,h2,_⟩:=hr.l.uncons
 refine ⟨⟨.cons (VRel.pure (G:=G') (G':=⟨G.obs,G'.kind⟩) rfl h1 hv) (fun p hp => ?_) (.nil F _ _), ?_,fun b => ?_⟩,hext⟩
 ·have:=(h2 p hp).weaken (F:=F) fun b hb => .inl hb
  exact this
 ·exact hc.h.ext hext rfl fun b hb => ⟨he.kind b (.inr hb),he.cells b (.inr hb)⟩
 ·have e : hcnt ⟨G.obs,G'.kind⟩ H w' b = hcnt G H w b:=hcnt_ext rfl (fun o cs b' g1 g2 => he.cells b' (.inr (.inl ⟨o,cs,g1,g2⟩))) b
  rw [e,tcnt_cons,tcnt_nil]
  by_cases h0 : 0 < hcnt G H w b
  ·have h3 : ¬ 0 < tcnt b [v] [u]:=fun hp => (hr.l.tok_of_pos hp).1 (.inr (.inr h0))
   rw [tcnt_cons,tcnt_nil] at h3
   have:=hc.cnt b
   omega
  ·have:=hr.cnt b
   rw [tcnt_cons,tcnt_nil] at this
   omega
theorem QCall.of {f : FuncId} {fn : Func} {c : Code} {vs : List AV} {Q : AV -> Prop} (h : Hint) (hm : P.follows .mixedOrders = true) (hd : fn.body.any (drawsOk h) = true) (hf : P.funcs[f]? = some fn) (hb : fn.body = some c) (hcal : callable P f = true)
  (hn : vs.length <= fn.ntmps) (hp : pureL vs = true) (ha : awp P fn.ntmps h none c (QRet P fn.ntmps fn.results fun v' _ => v'.pure = true /\ Q v') (argsFrom 0 vs) []) : QCall P f vs Q:=fun H =>
 ⟨hcal,fun F G w us hc => Calls.mono (calls_of_awp (.inr rfl) hm hd hf hb hn ha (hc.hide (pureL_mem hp))) fun e w' he => by
  obtain ⟨u,rfl,v',H2,G',⟨hv,hq⟩,hcr,hext⟩:=he
  obtain ⟨h1,h2⟩:=hc.unhide hv hcr hext
  exact ⟨u,rfl,v',H,_,⟨hq,rfl⟩,h1,h2⟩⟩
theorem PCall.of {f : FuncId} {fn : Func} {c : Code} {vs : List AV} {v : AV} (h : Hint) (hm : P.follows .mixedOrders = true) (hd : fn.body.any (drawsOk h) = true) (hf : P.funcs[f]? = some fn) (hb : fn.body = some c) (hcal : callable P f = true)
  (hn : vs.length <= fn.ntmps) (hp : pureL vs = true) (hv : v.pure = true) (ha : awp P fn.ntmps h none c (QRet P fn.ntmps fn.results fun v' _ => v' = v) (argsFrom 0 vs) []) : PCall P f vs v:=fun H =>
 ⟨hcal,fun F G w us hc => Calls.mono (calls_of_awp (.inr rfl) hm hd hf hb hn ha (hc.hide (pureL_mem hp))) fun e w' he => by
  obtain ⟨u,rfl,v',H2,G',rfl,hcr,hext⟩:=he
  obtain ⟨h1,h2⟩:=hc.unhide hv hcr hext
  exact ⟨u,rfl,_,H,_,⟨rfl,rfl⟩,h1,h2⟩⟩
end
end Go.AI
namespace Go.AI
abbrev Kt:=Env -> Heap -> Prop
def tkd (x : Operand) (v : AV) (e : Env) : Env :=
 match v.owned,x with
 | true,.tmp t => (t,v.borrow) :: e
 | _,_ => e
def bnd (r : Option AV) (d : Tmp) (K : Kt) (e : Env) (H : Heap) : Prop :=
 match r with
 | some v => K ((d,v) :: e) H
 | none => False
def bndH (r : Option (AV × Heap)) (d : Option Tmp) (K : Kt) (e : Env) : Prop :=
 match r with
 | some (v,H) => K (put d v e) H
 | none => False
def gsel (c : AV) (b : Bool) (A B : Kt) (e : Env) (H : Heap) : Prop :=
 match c with
 | .bool c => if c = b then A e H else B e H
 | .tup _ => B e H
 | _ => False
def gthen (t : Option Tmp) (b : Bool) (A B : Kt) (e : Env) (H : Heap) : Prop :=
 match t with
 | some t => gsel (look e t) b A B e H
 | none => False
def skipK (n : Nat) (d : Option Tmp) (K : Kt) (e : Env) (H : Heap) : Prop:=dstOk n d /\ K (put d (.tup []) e) H
def condK (c : AV) (A B : Kt) (e : Env) (H : Heap) : Prop :=
 match c with
 | .bool t => if t = true then A e H else B e H
 | _ => False
def seqK (B : Kt) (Q : Exit -> Kt) (ex : Exit) : Kt:=fun e H =>
 match ex with
 | .normal => B e H
 | ex => Q ex e H
def blkK (id : Nat) (Q : Exit -> Kt) (ex : Exit) : Kt:=fun e H =>
 match ex with
 | .exit j => if j = id then Q .normal e H else Q (.exit j) e H
 | ex => Q ex e H
def frzK (zs : List (Tmp × Option Nat × Bool)) (Q : Exit -> Kt) : Kt:=fun e H => Q .normal (frzs zs e H).1 (frzs zs e H).2
def gcK (g : Option Nat) (Q : Exit -> Kt) (ex : Exit) : Kt:=fun e H =>
 match ex with
 | .normal => Q .normal e (gcut g e H)
 | ex => Q ex e H
def endK (live : List Tmp) (zs : List (Tmp × Option Nat × Bool)) (Q : Exit -> Kt) : Kt:=fun e H => frzK zs Q (clean live e) H
def vRead (P : Program) (t : TypeId) (a : AV) (H : Heap) : Option (AV × Heap) :=
 match a with
 | .ptr ob off => match H[ob]? with
  | some (some cs) => match ldv P t cs off with
   | some v => if v.owned = true then some (v,H.set ob (some (splice cs off (v.cells.map borrow1)))) else some (v.borrow,H)
   | none => none
  | _ => none
 | _ => none
def rdK (r : Option (AV × Heap)) (K : AV -> Heap -> Prop) : Prop :=
 match r with
 | some (v,H) => K v H
 | none => False
def PCallK (P : Program) (f : FuncId) (vs : List AV) (d : Option Tmp) (K : Kt) (e : Env) (H : Heap) : Prop:=∃ v,PCall P f vs v /\ K (put d v e) H
def ACallK (P : Program) (f : FuncId) (vs : List AV) (d : Option Tmp) (K : Kt) (e : Env) (H : Heap) : Prop:=ACall P f vs H fun v H' => K (put d v e) H'
section
variable {P : Program} {n : Nat} {h : Hint} {ops : Array Oper} {K : Kt} {p : Tmp × AV} {e : Env} {H : Heap} {d : Tmp} {ty : TypeId} {ps : String} {af : Array Edge} {Q : Exit -> Kt} {ar : Option Nat}
@[go_sem] theorem look_cons (t k : Tmp) (v : AV) : look ((k,v) :: e) t = if k = t then v else look e t:=rfl
@[go_sem] theorem look_nil (t : Tmp) : look [] t = .undef:=rfl
@[go_sem] theorem clean_nil : clean [] e = []:=rfl
@[go_sem] theorem clean_cons (t : Tmp) (l : List Tmp) : clean (t :: l) e = (t,look e t) :: clean l e:=rfl
@[go_sem] theorem put_some (v : AV) : put (some d) v e = (d,v) :: e:=rfl
@[go_sem] theorem dstOk_some : dstOk n (some d) = (d < n):=rfl
@[go_sem] theorem evo_tmp (o : Option TypeId) (t : Tmp) : evo P o e (.tmp t) = look e t:=rfl
@[go_sem] theorem evo_int (o : Option TypeId) (k : IntKind) (m : Int) : evo P o e (.const (.int k m)) = .int k m:=rfl
@[go_sem] theorem evo_bool (o : Option TypeId) (b : Bool) : evo P o e (.const (.bool b)) = .bool b:=rfl
@[go_sem] theorem evo_str (o : Option TypeId) (s : ByteArray) : evo P o e (.const (.string s)) = .str s:=rfl
@[go_sem] theorem evo_nilp (o : Option TypeId) : evo P o e (.const (.pointer none)) = .nilp:=rfl
@[go_sem] theorem evo_nilf (o : Option TypeId) : evo P o e (.const .nilFunc) = .nilf:=rfl
@[go_sem] theorem evo_nils (o : Option TypeId) : evo P o e (.const (.slice none 0 0)) = .sl (nilOwn P o) []:=rfl
@[go_sem] theorem evo_func (o : Option TypeId) (f : FuncId) : evo P o e (.func f) = .fn (.func f) [] []:=rfl
@[go_sem] theorem nilOwn_none : nilOwn P none = none:=rfl
@[go_sem] theorem nilOwn_some (t : TypeId) : nilOwn P (some t) = match P.underlying t with
  | some (.slice e) => some (P.cellsOf e)
  | _ => none:=rfl
@[go_sem] theorem owned_int (k : IntKind) (m : Int) : (AV.int k m).owned = false:=rfl
@[go_sem] theorem owned_bool (b : Bool) : (AV.bool b).owned = false:=rfl
@[go_sem] theorem owned_str (b : ByteArray) : (AV.str b).owned = false:=rfl
@[go_sem] theorem owned_nilp : AV.nilp.owned = false:=rfl
@[go_sem] theorem owned_ptr (a b : Nat) : (AV.ptr a b).owned = false:=rfl
@[go_sem] theorem owned_cptr (a : List AV) (b : Nat) : (AV.cptr a b).owned = false:=rfl
@[go_sem] theorem owned_sln (es : List AV) : (AV.sl none es).owned = false:=rfl
@[go_sem] theorem owned_sls (k : Nat) (es : List AV) : (AV.sl (some k) es).owned = true:=rfl
@[go_sem] theorem owned_msl (a b c k : Nat) : (AV.msl a b c k).owned = false:=rfl
@[go_sem] theorem owned_mslc (a b c k m : Nat) : (AV.mslc a b c k m).owned = false:=rfl
@[go_sem] theorem owned_fn (f : Fn) (a b : List AV) : (AV.fn f a b).owned = false:=rfl
@[go_sem] theorem owned_nilf : AV.nilf.owned = false:=rfl
@[go_sem] theorem owned_agg (cs : List AV) : (AV.agg cs).owned = cs.any owned1:=rfl
@[go_sem] theorem owned_tup (cs : List AV) : (AV.tup cs).owned = (cs.flatMap AV.cells).any owned1:=rfl
@[go_sem] theorem owned1_sln (es : List AV) : owned1 (AV.sl none es) = false:=rfl
@[go_sem] theorem owned1_int (k : IntKind) (m : Int) : owned1 (AV.int k m) = false:=rfl
@[go_sem] theorem owned1_bool (b : Bool) : owned1 (AV.bool b) = false:=rfl
@[go_sem] theorem owned1_msl (a b c k : Nat) : owned1 (AV.msl a b c k) = false:=rfl
@[go_sem] theorem borrow_int (k : IntKind) (m : Int) : (AV.int k m).borrow = .int k m:=rfl
@[go_sem] theorem borrow_bool (b : Bool) : (AV.bool b).borrow = .bool b:=rfl
@[go_sem] theorem borrow_str (b : ByteArray) : (AV.str b).borrow = .str b:=rfl
@[go_sem] theorem borrow_ptr (a b : Nat) : (AV.ptr a b).borrow = .ptr a b:=rfl
@[go_sem] theorem borrow_cptr (a : List AV) (b : Nat) : (AV.cptr a b).borrow = .cptr a b:=rfl
@[go_sem] theorem borrow_sl (o : Option Nat) (es : List AV) : (AV.sl o es).borrow = .sl none es:=rfl
@[go_sem] theorem borrow_msl (a b c k : Nat) : (AV.msl a b c k).borrow = .msl a b c k:=rfl
@[go_sem] theorem borrow_mslc (a b c k m : Nat) : (AV.mslc a b c k m).borrow = .mslc a b c k m:=rfl
@[go_sem] theorem borrow_fn (f : Fn) (a b : List AV) : (AV.fn f a b).borrow = .fn f a b:=rfl
@[go_sem] theorem borrow_agg (cs : List AV) : (AV.agg cs).borrow = .agg (cs.map borrow1):=rfl
@[go_sem] theorem borrow_tup (cs : List AV) : (AV.tup cs).borrow = .tup (cs.map borrow0):=rfl
@[go_sem] theorem borrow1_sl (o : Option Nat) (es : List AV) : borrow1 (AV.sl o es) = .sl none es:=rfl
@[go_sem] theorem borrow1_int (k : IntKind) (m : Int) : borrow1 (AV.int k m) = .int k m:=rfl
@[go_sem] theorem cells_agg (cs : List AV) : (AV.agg cs).cells = cs:=rfl
@[go_sem] theorem cells_int (k : IntKind) (m : Int) : (AV.int k m).cells = [.int k m]:=rfl
@[go_sem] theorem cells_bool (b : Bool) : (AV.bool b).cells = [.bool b]:=rfl
@[go_sem] theorem cells_str (b : ByteArray) : (AV.str b).cells = [.str b]:=rfl
@[go_sem] theorem cells_nilp : AV.nilp.cells = [.nilp]:=rfl
@[go_sem] theorem cells_ptr (a b : Nat) : (AV.ptr a b).cells = [.ptr a b]:=rfl
@[go_sem] theorem cells_sl (o : Option Nat) (es : List AV) : (AV.sl o es).cells = [.sl o es]:=rfl
@[go_sem] theorem cells_msl (a b c k : Nat) : (AV.msl a b c k).cells = [.msl a b c k]:=rfl
@[go_sem] theorem isVal_agg (cs : List AV) : (AV.agg cs).isVal = true:=rfl
@[go_sem] theorem isVal_int (k : IntKind) (m : Int) : (AV.int k m).isVal = true:=rfl
@[go_sem] theorem isVal_bool (b : Bool) : (AV.bool b).isVal = true:=rfl
@[go_sem] theorem isVal_str (b : ByteArray) : (AV.str b).isVal = true:=rfl
@[go_sem] theorem isVal_ptr (a b : Nat) : (AV.ptr a b).isVal = true:=rfl
@[go_sem] theorem isVal_sl (o : Option Nat) (es : List AV) : (AV.sl o es).isVal = true:=rfl
@[go_sem] theorem isVal_msl (a b c k : Nat) : (AV.msl a b c k).isVal = true:=rfl
@[go_sem] theorem owned_mapr (a : Nat) : (AV.mapr a).owned = false:=rfl
@[go_sem] theorem owned_yld (a : Nat) (L : LoopRec) : (AV.yld a L).owned = false:=rfl
@[go_sem] theorem owned1_fn (f : Fn) (a b : List AV) : owned1 (AV.fn f a b) = false:=rfl
@[go_sem] theorem owned1_nilf : owned1 AV.nilf = false:=rfl
@[go_sem] theorem borrow_mapr (a : Nat) : (AV.mapr a).borrow = .mapr a:=rfl
@[go_sem] theorem borrow_yld (a : Nat) (L : LoopRec) : (AV.yld a L).borrow = .yld a L:=rfl
@[go_sem] theorem cells_mapr (a : Nat) : (AV.mapr a).cells = [.mapr a]:=rfl
@[go_sem] theorem cells_nilm : AV.nilm.cells = [.nilm]:=rfl
@[go_sem] theorem cells_fn (f : Fn) (a b : List AV) : (AV.fn f a b).cells = [.fn f a b]:=rfl
@[go_sem] theorem cells_nilf : AV.nilf.cells = [.nilf]:=rfl
@[go_sem] theorem cells_yld (a : Nat) (L : LoopRec) : (AV.yld a L).cells = [.yld a L]:=rfl
@[go_sem] theorem isVal_mapr (a : Nat) : (AV.mapr a).isVal = true:=rfl
@[go_sem] theorem isVal_fn (f : Fn) (a b : List AV) : (AV.fn f a b).isVal = true:=rfl
@[go_sem] theorem isVal_yld (a : Nat) (L : LoopRec) : (AV.yld a L).isVal = true:=rfl
def tkdB (b : Bool) (x : Operand) (v : AV) (e : Env) : Env :=
 match b,x with
 | true,.tmp t => (t,v.borrow) :: e
 | _,_ => e
@[go_sem] theorem tkd_B (x : Operand) (v : AV) : tkd x v e = tkdB v.owned x v e:=rfl
@[go_sem] theorem tkdB_f (x : Operand) (v : AV) : tkdB false x v e = e:=rfl
@[go_sem] theorem tkdB_t (t : Tmp) (v : AV) : tkdB true (.tmp t) v e = (t,v.borrow) :: e:=rfl
@[go_sem] theorem tkdB_const (b : Bool) (c : Value) (v : AV) : tkdB b (.const c) v e = e:=by cases b <;> rfl
@[go_sem] theorem tkdB_func (b : Bool) (f : FuncId) (v : AV) : tkdB b (.func f) v e = e:=by cases b <;> rfl
@[go_sem] theorem bnd_some (v : AV) : bnd (some v) d K e H = K ((d,v) :: e) H:=Eq.trans rfl rfl
@[go_sem] theorem bndH_some (v : AV) (dd : Option Tmp) : bndH (some (v,H)) dd K e = K (put dd v e) H:=Eq.trans rfl rfl
@[go_sem] theorem gthen_some (t : Tmp) (b : Bool) (A B : Kt) : gthen (some t) b A B e H = gsel (look e t) b A B e H:=Eq.trans rfl rfl
@[go_sem] theorem gsel_tt (A B : Kt) : gsel (.bool true) true A B e H = A e H:=Eq.trans rfl rfl
@[go_sem] theorem gsel_ff (A B : Kt) : gsel (.bool false) false A B e H = A e H:=Eq.trans rfl rfl
@[go_sem] theorem gsel_tf (A B : Kt) : gsel (.bool true) false A B e H = B e H:=Eq.trans rfl rfl
@[go_sem] theorem gsel_ft (A B : Kt) : gsel (.bool false) true A B e H = B e H:=Eq.trans rfl rfl
@[go_sem] theorem gsel_tup (b : Bool) (vs : List AV) (A B : Kt) : gsel (.tup vs) b A B e H = B e H:=by simp [gsel]
@[go_sem] theorem skipK_eq (dd : Option Tmp) : skipK n dd K e H = (dstOk n dd /\ K (put dd (.tup []) e) H):=Eq.trans rfl rfl
@[go_sem] theorem condK_t (A B : Kt) : condK (.bool true) A B e H = A e H:=Eq.trans rfl rfl
@[go_sem] theorem condK_f (A B : Kt) : condK (.bool false) A B e H = B e H:=Eq.trans rfl rfl
theorem condK_split (t : Bool) (A B : Kt) (ht : t = true -> A e H) (hf : t = false -> B e H) : condK (.bool t) A B e H:=by
 cases t
 ·exact hf rfl
 ·exact ht rfl
theorem gsel_split (t b : Bool) (A B : Kt) (ht : t = b -> A e H) (hf : t = (!b) -> B e H) : gsel (.bool t) b A B e H:=by
 cases t <;> cases b <;> first | exact ht rfl | exact hf rfl
@[go_sem] theorem arun_nil : arun P n h ops [] K (p :: e) H = K (p :: e) H:=Eq.trans rfl rfl
@[go_sem] theorem arun_cons (o : Oper) (l : List Oper) : arun P n h ops (o :: l) K (p :: e) H = aop P n h ops o (arun P n h ops l K) (p :: e) H:=Eq.trans rfl rfl
@[go_sem] theorem awp_skip : awp P n h ar .skip Q (p :: e) H = Q .normal (p :: e) H:=Eq.trans rfl rfl
@[go_sem] theorem awp_ret : awp P n h ar .ret Q (p :: e) H = Q .ret (p :: e) H:=Eq.trans rfl rfl
@[go_sem] theorem awp_exit (id : Nat) : awp P n h ar (.exit id) Q (p :: e) H = Q (.exit id) (p :: e) H:=Eq.trans rfl rfl
@[go_sem] theorem awp_seq (a b : Code) : awp P n h ar (.seq a b) Q (p :: e) H = awp P n h ar a (seqK (awp P n h ar b Q) Q) (p :: e) H:=Eq.trans rfl rfl
@[go_sem] theorem awp_block (id : Nat) (c : Code) : awp P n h ar (.block id c) Q (p :: e) H = awp P n h ar c (blkK id Q) (p :: e) H:=Eq.trans rfl rfl
@[go_sem] theorem awp_cond (c : Operand) (a b : Code) : awp P n h ar (.cond c a b) Q (p :: e) H = condK (evo P none (p :: e) c) (awp P n h ar a Q) (awp P n h ar b Q) (p :: e) H:=Eq.trans rfl rfl
@[go_sem] theorem awp_region (id : Nat) (ops : Array Oper) (dr : Bool) (hd : h.dn id = false) : awp P n h ar (.region id ops dr) Q (p :: e) H = arun P n h ops ops.toList (endK (h.lv id) (h.at id) (gcK (h.ct id) Q)) (p :: e) H:=by
 obtain ⟨h1,h2⟩:=Hint.dn_no hd ops
 have e1 : (fun e H => (h.da id = true -> dynAll P h ops e) /\ Q .normal (frzs (h.at id) (clean (h.lv id) e) H).1 (gcut (h.ct id) (frzs (h.at id) (clean (h.lv id) e) H).1 (frzs (h.at id) (clean (h.lv id) e) H).2)) = endK (h.lv id) (h.at id) (gcK (h.ct id) Q):=by
  funext e H
  simp only [h1,Bool.false_eq_true,false_implies,true_and]
  rfl
 show arun P n h ops (h.ord id ops) _ (p :: e) H = _
 rw [<- e1,h2]
def dynK (P : Program) (h : Hint) (ops : Array Oper) (K : Kt) : Kt:=fun e H => dynAll P h ops e /\ K e H
theorem awp_regionD (id : Nat) (ops : Array Oper) (dr : Bool) (hd : h.dn id = true) (ha : h.da id = true) (hm : h.mv id = []) : awp P n h ar (.region id ops dr) Q (p :: e) H = arun P n h ops ops.toList (dynK P h ops (endK (h.lv id) (h.at id) (gcK (h.ct id) Q))) (p :: e) H:=by
 have e1 : (fun e H => (h.da id = true -> dynAll P h ops e) /\ Q .normal (frzs (h.at id) (clean (h.lv id) e) H).1 (gcut (h.ct id) (frzs (h.at id) (clean (h.lv id) e) H).1 (frzs (h.at id) (clean (h.lv id) e) H).2)) = dynK P h ops (endK (h.lv id) (h.at id) (gcK (h.ct id) Q)):=by
  funext e H
  simp only [ha,true_implies]
  rfl
 have h2 : h.ord id ops = ops.toList:=by unfold Hint.ord; rw [hm]
 show arun P n h ops (h.ord id ops) _ (p :: e) H = _
 rw [<- e1,h2]
theorem awp_regionO (id : Nat) (ops : Array Oper) (dr : Bool) (hd : h.dn id = true) (ha : h.da id = false) : awp P n h ar (.region id ops dr) Q (p :: e) H = arun P n h ops (h.ord id ops) (endK (h.lv id) (h.at id) (gcK (h.ct id) Q)) (p :: e) H:=by
 have e1 : (fun e H => (h.da id = true -> dynAll P h ops e) /\ Q .normal (frzs (h.at id) (clean (h.lv id) e) H).1 (gcut (h.ct id) (frzs (h.at id) (clean (h.lv id) e) H).1 (frzs (h.at id) (clean (h.lv id) e) H).2)) = endK (h.lv id) (h.at id) (gcK (h.ct id) Q):=by
  funext e H
  simp only [ha,Bool.false_eq_true,false_implies,true_and]
  rfl
 show arun P n h ops (h.ord id ops) _ (p :: e) H = _
 rw [<- e1]
def rfK (P : Program) (n : Nat) (h : Hint) (ar : Option Nat) (g : Operand) (rs : Array Tmp) (assign body : Code) (Q : Exit -> Kt) : Kt:=awp P n h ar (.rangeFunc g rs assign body) Q
@[go_sem] theorem awp_rangeFunc (g : Operand) (rs : Array Tmp) (assign body : Code) : awp P n h ar (.rangeFunc g rs assign body) Q (p :: e) H = rfK P n h ar g rs assign body Q (p :: e) H:=Eq.trans rfl rfl
@[go_sem] theorem endK_eq (live : List Tmp) (zs : List (Tmp × Option Nat × Bool)) : endK live zs Q (p :: e) H = frzK zs Q (clean live (p :: e)) H:=Eq.trans rfl rfl
@[go_sem] theorem frzK_nil : frzK [] Q e H = Q .normal e H:=Eq.trans rfl rfl
theorem frzK_cons (z : Tmp × Option Nat × Bool) (zs : List (Tmp × Option Nat × Bool)) : frzK (z :: zs) Q e H = frzK zs Q (frz1 z e H).1 (frz1 z e H).2:=rfl
@[go_sem] theorem gcK_none : gcK none Q = Q:=by
 funext ex e H
 cases ex <;> rfl
@[go_sem] theorem gcK_some (k : Nat) : gcK (some k) Q .normal e H = if k <= H.length /\ bndL k (e.map (·.2)) = true /\ closedB (H.take k) = true then Q .normal e (H.take k) else Q .normal e H:=by
 simp only [gcK,gcut]
 split <;> rfl
@[go_sem] theorem seqK_normal (B : Kt) : seqK B Q .normal = B:=Eq.trans rfl rfl
@[go_sem] theorem seqK_ret (B : Kt) : seqK B Q .ret = Q .ret:=Eq.trans rfl rfl
@[go_sem] theorem seqK_exit (B : Kt) (j : Nat) : seqK B Q (.exit j) = Q (.exit j):=Eq.trans rfl rfl
@[go_sem] theorem blkK_normal (id : Nat) : blkK id Q .normal = Q .normal:=Eq.trans rfl rfl
@[go_sem] theorem blkK_ret (id : Nat) : blkK id Q .ret = Q .ret:=Eq.trans rfl rfl
@[go_sem] theorem blkK_hit (id : Nat) : blkK id Q (.exit id) = Q .normal:=by
 funext e H; simp [blkK]
@[go_sem] theorem blkK_exit (id j : Nat) (hj : (j == id) = false) : blkK id Q (.exit j) = Q (.exit j):=by
 funext e H
 have : j ≠ id:=by simpa using hj
 simp [blkK,this]
@[go_sem] theorem QRet_ret (rs : Array ResultVar) (K : AV -> Heap -> Prop) : QRet P n rs K .ret e H = rev P n rs.toList e H fun vs _ H' => retK K vs H':=Eq.trans rfl rfl
@[go_sem] theorem QRet_normal (rs : Array ResultVar) (K : AV -> Heap -> Prop) : QRet P n rs K .normal e H = rev P n rs.toList e H fun vs _ H' => retK K vs H':=Eq.trans rfl rfl
@[go_sem] theorem rev_nil (K : List AV -> Env -> Heap -> Prop) : rev P n [] e H K = K [] e H:=Eq.trans rfl rfl
@[go_sem] theorem rev_tmp (t : Tmp) (rs : List ResultVar) (K : List AV -> Env -> Heap -> Prop) : rev P n (.tmp t :: rs) e H K = (t < n /\ rev P n rs (tkd (.tmp t) (look e t) e) H fun vs => K (look e t :: vs)):=by
 have e1 : (ev1 P none true (.tmp t) e).2 = tkd (.tmp t) (look e t) e:=by
  simp only [ev1,evo,tkd]
  cases (look e t).owned <;> rfl
 simp only [rev,e1]
 rfl
@[go_sem] theorem rev_cell (t : Tmp) (ty : TypeId) (rs : List ResultVar) (K : List AV -> Env -> Heap -> Prop) : rev P n (.cell t ty :: rs) e H K = (t < n /\ rdK (vRead P ty (look e t) H) fun v H' => rev P n rs e H' fun vs => K (v :: vs)):=by
 simp only [rev,vRead]
 congr 1
 cases look e t with
 | ptr ob off =>
  dsimp only
  cases H[ob]? with
  | none => rfl
  | some c => cases c with
   | none => rfl
   | some cs =>
    dsimp only
    cases ldv P ty cs off with
    | none => rfl
    | some v =>
     dsimp only
     by_cases hv : v.owned = true
     ·rw [if_pos hv,if_pos hv]; rfl
     ·rw [if_neg hv,if_neg hv]; rfl
 | _ => rfl
@[go_sem] theorem rdK_some (v : AV) (K : AV -> Heap -> Prop) : rdK (some (v,H)) K = K v H:=Eq.trans rfl rfl
@[go_sem] theorem retK_one (v : AV) (K : AV -> Heap -> Prop) : retK K [v] H = K v H:=Eq.trans rfl rfl
@[go_sem] theorem retK_nil (K : AV -> Heap -> Prop) : retK K [] H = K (.tup []) H:=by simp [retK]
@[go_sem] theorem retK_two (u v : AV) (K : AV -> Heap -> Prop) : retK K [u,v] H = (u.isVal = true /\ v.isVal = true /\ K (.tup [u,v]) H):=by simp [retK,and_assoc]
@[go_sem] theorem retK_three (u v x : AV) (K : AV -> Heap -> Prop) : retK K [u,v,x] H = (u.isVal = true /\ v.isVal = true /\ x.isVal = true /\ K (.tup [u,v,x]) H):=by simp [retK,and_assoc]
theorem PCallK.intro {f : FuncId} {vs : List AV} {dd : Option Tmp} {v : AV} (hc : PCall P f vs v) (hk : K (put dd v e) H) : PCallK P f vs dd K e H:=⟨v,hc,hk⟩
theorem ACallK.intro {f : FuncId} {vs : List AV} {dd : Option Tmp} {R : AV -> Heap -> Prop} (hc : ACall P f vs H R) (hk : ∀ v H',R v H' -> K (put dd v e) H') : ACallK P f vs dd K e H:=hc.mono hk
theorem ACallK.pure {f : FuncId} {vs : List AV} {dd : Option Tmp} {v : AV} (hc : PCall P f vs v) (hk : K (put dd v e) H) : ACallK P f vs dd K e H:=(hc H).mono fun v' H' hq => by obtain ⟨rfl,rfl⟩:=hq; exact hk
theorem ACallK.prop {f : FuncId} {vs : List AV} {dd : Option Tmp} {Q : AV -> Prop} (hc : QCall P f vs Q) (hk : ∀ v,Q v -> K (put dd v e) H) : ACallK P f vs dd K e H:=(hc H).mono fun v' H' hq => by obtain ⟨h1,rfl⟩:=hq; exact hk v' h1
end
end Go.AI
namespace Go.AI
def tvals (P : Program) : List Operand -> Env -> List AV × Env
 | [],e => ([],e)
 | x :: xs,e => ((evo P none e x) :: (tvals P xs (tkd x (evo P none e x) e)).1,(tvals P xs (tkd x (evo P none e x) e)).2)
def vLoad (P : Program) (tk : Bool) (t : TypeId) (a : AV) (H : Heap) : Option (AV × Heap) :=
 match a with
 | .ptr ob off => match H[ob]? with
  | some (some cs) => match ldv P t cs off with
   | some v => match tk with
    | true => if v.owned = true /\ v.scalar = true then some (v,H.set ob (some (splice cs off (v.cells.map borrow1)))) else none
    | false => some (v.borrow,H)
   | none => none
  | _ => none
 | .cptr cs off => match ldv P t cs off with
  | some v => some (v.borrow,H)
  | none => none
 | _ => none
def vStore (P : Program) (t : TypeId) (a v : AV) (H : Heap) : Option Heap :=
 match a with
 | .ptr ob off => match H[ob]? with
  | some (some cs) => if v.isVal = true /\ v.cells.length = P.cellsOf t /\ 0 < P.cellsOf t /\ off + P.cellsOf t <= cs.length then some (H.set ob (some (splice cs off v.cells))) else none
  | _ => none
 | _ => none
def stK (r : Option Heap) (K : Kt) (e : Env) : Prop :=
 match r with
 | some H => K e H
 | none => False
def vOff (a : AV) (k : Nat) : Option AV :=
 match a with
 | .ptr ob off => some (.ptr ob (off + k))
 | .cptr cs off => some (.cptr cs (off + k))
 | _ => none
def fieldAt (P : Program) (s f : Nat) : Option Field :=
 match P.underlying s with
 | some (.struct fs) => fs[f]?
 | _ => none
def vField (P : Program) (fd : Option Field) (x : AV) : Option AV :=
 match fd with
 | some fd => if 0 < P.cellsOf fd.type then vOff x fd.offset else none
 | none => none
def vPart (P : Program) (fd : Option Field) (x : AV) : Option AV :=
 match fd,x with
 | some fd,.agg cs => ldv P fd.type cs fd.offset
 | _,_ => none
def vNil (x : AV) : Option AV :=
 match x with
 | .ptr ob off => some (.ptr ob off)
 | .cptr cs off => some (.cptr cs off)
 | .fn (.func f) a b => some (.fn (.func f) a b)
 | .yld o L => some (.yld o L)
 | _ => none
def vPick (c a b : AV) : Option AV :=
 match c with
 | .bool c => some (if c = true then a else b)
 | _ => none
def vExtract (x : AV) (i : Nat) : Option AV :=
 match x with
 | .tup vs => vs[i]?
 | _ => none
def vLen (d : Option TypeDesc) (x : AV) : Option AV :=
 match d,x with
 | some (.slice _),.sl _ es => some (.int .i64 es.length)
 | some (.slice _),.msl _ _ len _ => some (.int .i64 len)
 | some (.slice _),.mslc _ _ len _ _ => some (.int .i64 len)
 | some .string,.str s => some (.int .i64 s.size)
 | some (.array n _),_ => some (.int .i64 n)
 | _,_ => none
def vUn (op : UnOp) (x : AV) : Option AV :=
 match op,x with
 | .neg,.int k m => some (.int k (k.wrap (0 - m)))
 | .not,.bool b => some (.bool !b)
 | _,_ => none
section
variable {P : Program} {n : Nat} {h : Hint} {ops : Array Oper} {K : Kt} {p : Tmp × AV} {e : Env} {H : Heap} {d : Tmp} {ty : TypeId} {ps : String} {af : Array Edge} {Q : Exit -> Kt}
theorem evs_take : ∀ (xs : List Operand) (e : Env),evs P none true xs e = tvals P xs e
 | [],e => rfl
 | x :: xs,e => by
  have : (ev1 P none true x e).2 = tkd x (evo P none e x) e:=by
   simp only [ev1,tkd]
   cases x with
   | tmp t => simp only [evo]; cases (look e t).owned <;> rfl
   | _ => cases (evo P none e _).owned <;> rfl
  simp only [evs,tvals,this,evs_take xs]
  rfl
theorem evs_plain (ty : Option TypeId) : ∀ (xs : List Operand) (e : Env),evs P ty false xs e = (xs.map fun x => (evo P ty e x).borrow,e)
 | [],e => rfl
 | x :: xs,e => by simp only [evs,ev1,evs_plain ty xs,List.map_cons]
@[go_sem] theorem tvals_nil : tvals P [] e = ([],e):=rfl
@[go_sem] theorem tvals_cons (x : Operand) (xs : List Operand) : tvals P (x :: xs) e = ((evo P none e x) :: (tvals P xs (tkd x (evo P none e x) e)).1,(tvals P xs (tkd x (evo P none e x) e)).2):=rfl
theorem aop_none (o : Oper) (hg : o.guard = none) : aop P n h ops o K e H = (dstOk n o.dst /\ ares P h o (evs P (opTy o) (taking h o) o.op.operands.toList e).1 H fun v H' => K (put o.dst v (evs P (opTy o) (taking h o) o.op.operands.toList e).2) H'):=by
 simp only [aop,agd,hg]
@[go_sem] theorem aop_guard (op : Op) (j : Nat) (b : Bool) (dd : Option Tmp) : aop P n h ops ⟨dd,op,ty,ps,af,some (j,b)⟩ K (p :: e) H =
  gthen ((ops[j]?).bind Oper.dst) b (aop P n h ops ⟨dd,op,ty,ps,af,none⟩ K) (skipK n dd K) (p :: e) H:=by
 simp only [aop,agd,gthen,gsel,skipK]
 cases (ops[j]?).bind Oper.dst with
 | none => rfl
 | some t =>
  simp only
  cases look (p :: e) t with
  | bool c => cases c <;> cases b <;> rfl
  | _ => rfl
theorem tkd_eq (x : Operand) (o : Option TypeId) : (ev1 P o true x e).2 = tkd x (evo P o e x) e:=by
 simp only [ev1,tkd]
 cases x with
 | tmp t => simp only [evo]; cases (look e t).owned <;> rfl
 | _ => cases (evo P o e _).owned <;> rfl
@[go_sem] theorem aop_move (x : Operand) : aop P n h ops ⟨some d,.move x,ty,ps,af,none⟩ K (p :: e) H =
  (d < n /\ bif h.tk.contains d then K ((d,evo P (some ty) (p :: e) x) :: tkd x (evo P (some ty) (p :: e) x) (p :: e)) H else K ((d,(evo P (some ty) (p :: e) x).borrow) :: p :: e) H):=by
 rw [aop_none _ rfl]
 cases ht : h.tk.contains d
 ·simp only [taking,Option.any_some,ht,opTy,Op.operands,evs,ares,put,dstOk,cond_false]; rfl
 ·simp only [taking,Option.any_some,ht,opTy,Op.operands,evs,tkd_eq,ares,put,dstOk,cond_true]; rfl
@[go_sem] theorem aop_assign (x : Operand) : aop P n h ops ⟨some d,.assign x,ty,ps,af,none⟩ K (p :: e) H =
  (d < n /\ K ((d,evo P (some ty) (p :: e) x) :: tkd x (evo P (some ty) (p :: e) x) (p :: e)) H):=by
 rw [aop_none _ rfl]
 simp only [taking,opTy,Op.operands,evs,tkd_eq,ares,put,dstOk]; rfl
@[go_sem] theorem aop_pick (c a b : Operand) : aop P n h ops ⟨some d,.pick c a b,ty,ps,af,none⟩ K (p :: e) H =
  (d < n /\ bnd (vPick (evo P none (p :: e) c).borrow (evo P none (p :: e) a).borrow (evo P none (p :: e) b).borrow) d K (p :: e) H):=by
 rw [aop_none _ rfl]
 simp only [taking,opTy,Op.operands,evs_plain,List.map_cons,List.map_nil,ares,put,dstOk,vPick]
 cases (evo P none (p :: e) c).borrow <;> rfl
@[go_sem] theorem aop_box (el : TypeId) (x : Operand) : aop P n h ops ⟨some d,.box el x,ty,ps,af,none⟩ K (p :: e) H =
  (d < n /\ (evo P none (p :: e) x).isVal = true /\ K ((d,.ptr H.length 0) :: tkd x (evo P none (p :: e) x) (p :: e)) (H ++ [some (evo P none (p :: e) x).cells])):=by
 rw [aop_none _ rfl]
 simp only [taking,opTy,Op.operands,evs,tkd_eq,ares,put,dstOk]; rfl
@[go_sem] theorem aop_load (t : TypeId) (x : Operand) : aop P n h ops ⟨some d,.load t x,ty,ps,af,none⟩ K (p :: e) H =
  (d < n /\ bndH (vLoad P (h.tk.contains d) t (evo P none (p :: e) x).borrow H) (some d) K (p :: e)):=by
 rw [aop_none _ rfl]
 simp only [taking,opTy,Op.operands,evs_plain,List.map_cons,List.map_nil,ares,put,dstOk,vLoad]
 congr 1
 cases (evo P none (p :: e) x).borrow with
 | ptr ob off =>
  simp only
  cases H[ob]? with
  | none => rfl
  | some c => cases c with
   | none => rfl
   | some cs =>
    simp only
    cases ldv P t cs off with
    | none => rfl
    | some v =>
     simp only [Option.any_some]
     cases h.tk.contains d
     ·rfl
     ·dsimp only
      by_cases hc : v.owned = true /\ v.scalar = true
      ·rw [if_pos hc]; simp [hc.1,hc.2,bndH,put]
      ·rw [if_neg hc]
       simp only [bndH,eq_iff_iff,iff_false]
       intro hx
       exact hc ⟨hx.1,hx.2.1⟩
 | cptr cs off =>
  simp only
  cases ldv P t cs off <;> rfl
 | _ => rfl
@[go_sem] theorem aop_store (t : TypeId) (a v : Operand) : aop P n h ops ⟨none,.store t a v,ty,ps,af,none⟩ K (p :: e) H =
  stK (vStore P t (evo P (some t) (p :: e) a) (evo P (some t) (tkd a (evo P (some t) (p :: e) a) (p :: e)) v) H) K (tkd v (evo P (some t) (tkd a (evo P (some t) (p :: e) a) (p :: e)) v) (tkd a (evo P (some t) (p :: e) a) (p :: e))):=by
 rw [aop_none _ rfl]
 have e1 : ∀ (x : Operand) (e : Env),(ev1 P (some t) true x e).1 = evo P (some t) e x:=fun _ _ => rfl
 simp only [taking,opTy,Op.operands,evs,tkd_eq,e1,ares,put,dstOk,vStore,true_and]
 generalize evo P (some t) (tkd a (evo P (some t) (p :: e) a) (p :: e)) v = vv
 generalize tkd v vv (tkd a (evo P (some t) (p :: e) a) (p :: e)) = e'
 cases evo P (some t) (p :: e) a with
 | ptr ob off =>
  simp only
  cases H[ob]? with
  | none => rfl
  | some c => cases c with
   | none => rfl
   | some cs =>
    simp only
    by_cases hc : vv.isVal = true /\ vv.cells.length = P.cellsOf t /\ 0 < P.cellsOf t /\ off + P.cellsOf t <= cs.length
    ·rw [if_pos hc]
     obtain ⟨h1,h2,h3,h4⟩:=hc
     simp only [h1,h2,h3,h4,true_and,stK]
    ·rw [if_neg hc]
     simp only [stK,eq_iff_iff,iff_false]
     intro hx
     exact hc ⟨hx.1,hx.2.1,hx.2.2.1,hx.2.2.2.1⟩
 | _ => rfl
@[go_sem] theorem aop_nilCheck (x : Operand) : aop P n h ops ⟨some d,.nilCheck x,ty,ps,af,none⟩ K (p :: e) H = (d < n /\ bnd (vNil (evo P none (p :: e) x).borrow) d K (p :: e) H):=by
 rw [aop_none _ rfl]
 simp only [taking,opTy,Op.operands,evs_plain,List.map_cons,List.map_nil,ares,put,dstOk,vNil]
 congr 1
 cases (evo P none (p :: e) x).borrow with
 | fn f a b => cases f <;> rfl
 | _ => rfl
@[go_sem] theorem aop_unOp (op : UnOp) (t : TypeId) (x : Operand) : aop P n h ops ⟨some d,.unOp op t x,ty,ps,af,none⟩ K (p :: e) H = (d < n /\ bnd (vUn op (evo P none (p :: e) x).borrow) d K (p :: e) H):=by
 rw [aop_none _ rfl]
 simp only [taking,opTy,Op.operands,evs_plain,List.map_cons,List.map_nil,ares,put,dstOk,vUn]
 congr 1
 cases op <;> cases (evo P none (p :: e) x).borrow <;> rfl
@[go_sem] theorem aop_fieldAddr (s f : Nat) (x : Operand) : aop P n h ops ⟨some d,.fieldAddr s x f,ty,ps,af,none⟩ K (p :: e) H = (d < n /\ bnd (vField P (fieldAt P s f) (evo P none (p :: e) x).borrow) d K (p :: e) H):=by
 rw [aop_none _ rfl]
 simp only [taking,opTy,Op.operands,evs_plain,List.map_cons,List.map_nil,ares,put,dstOk,vField,fieldAt]
 congr 1
 cases P.underlying s with
 | none => rfl
 | some dd => cases dd with
  | struct fs =>
   simp only
   cases fs[f]? with
   | none => rfl
   | some fd =>
    simp only
    by_cases hc : 0 < P.cellsOf fd.type
    ·rw [if_pos hc]
     simp only [hc,true_and]
     cases (evo P none (p :: e) x).borrow <;> rfl
    ·rw [if_neg hc]
     simp only [hc,false_and,bnd]
  | _ => rfl
@[go_sem] theorem aop_field (s f : Nat) (x : Operand) : aop P n h ops ⟨some d,.field s x f,ty,ps,af,none⟩ K (p :: e) H = (d < n /\ bnd (vPart P (fieldAt P s f) (evo P none (p :: e) x).borrow) d K (p :: e) H):=by
 rw [aop_none _ rfl]
 simp only [taking,opTy,Op.operands,evs_plain,List.map_cons,List.map_nil,put,dstOk,vPart,fieldAt]
 congr 1
 generalize (evo P none (p :: e) x).borrow = a
 unfold ares
 dsimp only
 cases hu : P.underlying s with
 | none => cases a <;> simp [bnd,hu]
 | some dd => cases dd with
  | struct fs =>
   dsimp only
   cases hf : fs[f]? with
   | none => cases a <;> simp [bnd,hu,hf]
   | some fd => cases a with
    | agg cs => simp only [hu,hf]; cases ldv P fd.type cs fd.offset <;> rfl
    | _ => simp [bnd]
  | _ => cases a <;> simp [bnd,hu]
@[go_sem] theorem aop_extract (x : Operand) (i : Nat) : aop P n h ops ⟨some d,.extract x i,ty,ps,af,none⟩ K (p :: e) H = (d < n /\ bnd (vExtract (evo P none (p :: e) x).borrow i) d K (p :: e) H):=by
 rw [aop_none _ rfl]
 simp only [taking,opTy,Op.operands,evs_plain,List.map_cons,List.map_nil,ares,put,dstOk,vExtract]
 congr 1
 cases (evo P none (p :: e) x).borrow with
 | tup vs => simp only; cases vs[i]? <;> simp [bnd]
 | _ => rfl
@[go_sem] theorem aop_len (x : Operand) (t : TypeId) : aop P n h ops ⟨some d,.call ⟨.builtin .len,#[x],#[t]⟩,ty,ps,af,none⟩ K (p :: e) H = (d < n /\ bnd (vLen (P.underlying t) (evo P none (p :: e) x).borrow) d K (p :: e) H):=by
 rw [aop_none _ rfl]
 have e1 : (#[] ++ #[x] : Array Operand).toList = [x]:=rfl
 simp only [taking,opTy,Op.operands,Call.operands,e1,evs_plain,List.map_cons,List.map_nil,ares,put,dstOk,vLen]
 congr 1
 simp only [List.getElem?_toArray,List.getElem?_cons_zero,Option.bind_some]
 cases P.underlying t with
 | none => cases (evo P none (p :: e) x).borrow <;> rfl
 | some dd => cases dd <;> cases (evo P none (p :: e) x).borrow <;> rfl
end
end Go.AI
namespace Go.AI
def binK (P : Program) (op : BinOp) (t : TypeId) (a b : AV) (d : Tmp) (K : Kt) (e : Env) (H : Heap) : Prop:=abinop P op t a b fun v => K ((d,v) :: e) H
def isSl (P : Program) (t : TypeId) : Bool:=match P.underlying t with | some (.slice _) => true | _ => false
def nilK (P : Program) (op : BinOp) (t : TypeId) (a : AV) (d : Tmp) (K : Kt) (e : Env) (H : Heap) : Prop:=nilcmp P op t a fun v => K ((d,v) :: e) H
def binN (P : Program) (op : BinOp) (t : TypeId) (z : Bool) (a b : AV) (d : Tmp) (K : Kt) (e : Env) (H : Heap) : Prop :=
 match z with
 | true => nilK P op t a d K e H
 | false => binK P op t a b d K e H
def vIndexAddr (P : Program) (u : Option TypeDesc) (x : AV) (i : AV) : Option AV :=
 match i with
 | .int _ i => match u,x with
  | some (.slice e),.sl _ es => if 0 <= i then (es[i.toNat]?).bind fun v => if v.cells.length = P.cellsOf e /\ 0 < P.cellsOf e then some (.cptr v.cells 0) else none else none
  | some (.slice e),.msl ob off len sz => if 0 <= i /\ i < len /\ sz = P.cellsOf e /\ 0 < sz then some (.ptr ob (off + i.toNat * sz)) else none
  | some (.array n e),.ptr ob off => if 0 <= i /\ i < n /\ 0 < P.cellsOf e then some (.ptr ob (off + i.toNat * P.cellsOf e)) else none
  | some (.array n e),.cptr cs off => if 0 <= i /\ i < n /\ 0 < P.cellsOf e then some (.cptr cs (off + i.toNat * P.cellsOf e)) else none
  | _,_ => none
 | _ => none
def vIndex (P : Program) (u : Option TypeDesc) (x : AV) (i : AV) : Option AV :=
 match i with
 | .int _ i => match u,x with
  | some .string,.str s => if 0 <= i /\ i < s.size then some (.int .u8 ((s.data[i.toNat]?).getD 0).toNat) else none
  | some (.array n e),.agg cs => if 0 <= i /\ i < n /\ 0 < P.cellsOf e then ldv P e cs (i.toNat * P.cellsOf e) else none
  | _,_ => none
 | _ => none
def apnK (P : Program) (el : TypeId) (mt ln : Bool) (H : Heap) (a : AV) (xs : List AV) (d : Tmp) (K : Kt) (e : Env) : Prop:=aappend P el mt ln H a xs fun v H' => K ((d,v) :: e) H'
def apsK (P : Program) (el : TypeId) (mt ln : Bool) (xs : Option (List AV)) (a : AV) (d : Tmp) (K : Kt) (e : Env) (H : Heap) : Prop :=
 match xs with
 | some xs => apnK P el mt ln H a xs d K e
 | none => False
def appK (P : Program) (mt tk ln : Bool) (t : TypeId) (vs : List AV) (d : Tmp) (K : Kt) (e : Env) (H : Heap) : Prop :=
 match vs with
 | [a,b] => match P.underlying t with
  | some (.slice el) => 0 < P.cellsOf el /\ zeroOk P el = true /\ apsK P el mt ln (asrc P el (mt || tk) H b) a d K e H
  | _ => False
 | _ => False
def DCallK (P : Program) (f : FuncId) (vs : List AV) (d : Option Tmp) (K : Kt) (e : Env) (H : Heap) : Prop:=∃ v ext,ACall P f vs H (fun v2 H2 => v2 = v /\ H2 = H ++ ext) /\ K (put d v e) (H ++ ext)
def RCallK (P : Program) (f : FuncId) (vs : List AV) (d : Option Tmp) (K : Kt) (e : Env) (H : Heap) : Prop:=∃ v,(RCall P f vs H v \/ XCall P f vs H v) /\ K (put d v e) H
def YCallK (P : Program) (o : Nat) (L : LoopRec) (vs : List AV) (d : Option Tmp) (K : Kt) (e : Env) (H : Heap) : Prop:=YCall P o L vs H fun v H' => K (put d v e) H'
theorem YCallK.intro {P : Program} {o : Nat} {L : LoopRec} {vs : List AV} {d : Option Tmp} {K : Kt} {e : Env} {H : Heap} {R : AV -> Heap -> Prop} (hc : YCall P o L vs H R) (hk : ∀ v H',R v H' -> K (put d v e) H') : YCallK P o L vs d K e H:=hc.mono hk
def callK (P : Program) (pc mt : Bool) (vs : List AV) (d : Option Tmp) (K : Kt) (e : Env) (H : Heap) : Prop :=
 match vs with
 | .fn (.func f) first captured :: args => match pc with
  | true => match mt with
   | true => RCallK P f (first.map AV.borrow ++ args ++ captured.map AV.borrow) d K e H
   | false => PCallK P f (first.map AV.borrow ++ args ++ captured.map AV.borrow) d K e H
  | false => match mt with
   | true => DCallK P f (first.map AV.borrow ++ args ++ captured.map AV.borrow) d K e H
   | false => ACallK P f (first.map AV.borrow ++ args ++ captured.map AV.borrow) d K e H
 | .yld o L :: args => (pc = false /\ mt = false) /\ YCallK P o L args d K e H
 | _ => False
def vBuild (P : Program) (t : TypeId) (is : List Nat) (vs : List AV) : Option AV :=
 match P.underlying t with
 | some (.struct fs) => if fieldsOk P fs = true then match zeroAV P t with
  | some (.agg z) => (fillAV ((fieldPlaces P fs)[·]?) z is vs).map .agg
  | _ => none
  else none
 | some (.array _ e) => if (P.info? e).isSome = true then match zeroAV P t with
  | some (.agg z) => (fillAV (fun i => some (i * P.cellsOf e,P.cellsOf e)) z is vs).map .agg
  | _ => none
  else none
 | _ => none
def lstK (P : Program) (mt : Bool) (t len : Nat) (is : List Nat) (vs : List AV) (d : Tmp) (K : Kt) (e : Env) (H : Heap) : Prop :=
 match P.underlying t with
 | some (.slice el) => 0 < P.cellsOf el /\ len * P.cellsOf el <= 16777216 /\ is = List.range len /\ (∀ v ∈ vs,v.isVal = true /\ v.cells.length = P.cellsOf el) /\ zeroOk P el = true /\
   match mt with
   | true => K ((d,.msl H.length 0 len (P.cellsOf el)) :: e) (H ++ [some (cat (vs.map AV.borrow))])
   | false => K ((d,.sl (some (P.cellsOf el)) (vs.map AV.borrow)) :: e) H
 | _ => False
def sliceK (P : Program) (mt : Bool) (t : TypeId) (bl bh bm : Bool) (vs : List AV) (d : Tmp) (K : Kt) (e : Env) (H : Heap) : Prop :=
 match vs with
 | x :: rest => match bounds3 bl bh bm rest with
  | some (l,hh,m) => match mt with
   | true => apslice P t x l hh m H fun v => K ((d,v) :: e) H
   | false => aslice P t x l hh m fun v => K ((d,v) :: e) H
  | none => False
 | [] => False
def mmK (mn : Bool) (vs : List AV) (d : Tmp) (K : Kt) (e : Env) (H : Heap) : Prop :=
 match vs with
 | [.int k a,.int k' b] => k = k' /\ K ((d,.int k (if mn then (if b < a then b else a) else (if b > a then b else a))) :: e) H
 | _ => False
def convK (P : Program) (su du : Option TypeDesc) (x : AV) (d : Tmp) (K : Kt) (e : Env) (H : Heap) : Prop :=
 match su,du,x with
 | some _,some (.int k),.int _ m => K ((d,.int k (k.wrap m)) :: e) H
 | some .string,some .string,.str s => K ((d,.str s) :: e) H
 | some (.slice el),some .string,.sl _ es => P.underlying el = some (.int .u8) /\ (∀ x ∈ es,isByte x = true) /\ K ((d,.str (byteStr es)) :: e) H
 | _,_,_ => False
def mkK (P : Program) (t : TypeId) (vs : List AV) (d : Tmp) (K : Kt) (e : Env) (H : Heap) : Prop :=
 match vs with
 | [.int _ n,.int _ c] => match P.underlying t with
  | some (.slice el) => n = c /\ 0 <= n /\ n * P.bytesOf el <= 140737488355328 /\ n <= 9223372036854775807 /\ (P.info? el).isSome = true /\ ∃ z,zeroAV P el = some z /\ z.cells.length = P.cellsOf el /\ 0 < P.cellsOf el /\
    K ((d,.msl H.length 0 n.toNat (P.cellsOf el)) :: e) (H ++ [some (List.replicate n.toNat z.cells).flatten])
  | _ => False
 | _ => False
section
variable {P : Program} {n : Nat} {h : Hint} {ops : Array Oper} {K : Kt} {p : Tmp × AV} {e : Env} {H : Heap} {d : Tmp} {ty : TypeId} {ps : String} {af : Array Edge} {Q : Exit -> Kt}
@[go_sem] theorem aop_binOp (op : BinOp) (t t' : TypeId) (x y : Operand) : aop P n h ops ⟨some d,.binOp op t x y t',ty,ps,af,none⟩ K (p :: e) H =
  (d < n /\ binN P op t (nilSide y) (evo P none (p :: e) x).borrow (evo P none (p :: e) y).borrow d K (p :: e) H):=by
 rw [aop_none _ rfl]
 simp only [taking,opTy,Op.operands,evs_plain,List.map_cons,List.map_nil,ares,put,dstOk,binN]
 cases nilSide y <;> rfl
@[go_sem] theorem binN_f {op : BinOp} {t : TypeId} {a b : AV} : binN P op t false a b d K e H = binK P op t a b d K e H:=Eq.trans rfl rfl
@[go_sem] theorem binN_t {op : BinOp} {t : TypeId} {a b : AV} : binN P op t true a b d K e H = nilK P op t a d K e H:=Eq.trans rfl rfl
@[go_sem] theorem nilSide_tmp (t : Tmp) : nilSide (.tmp t) = false:=rfl
@[go_sem] theorem nilSide_int (k : IntKind) (m : Int) : nilSide (.const (.int k m)) = false:=rfl
@[go_sem] theorem nilSide_str (s : ByteArray) : nilSide (.const (.string s)) = false:=rfl
@[go_sem] theorem nilSide_nil : nilSide (.const (.slice none 0 0)) = true:=rfl
section
variable {t : TypeId}
theorem isSl_of (hp : isSl P t = true) : ∃ e,P.underlying t = some (.slice e):=by
 unfold isSl at hp
 split at hp
 ·exact ⟨_,‹_›⟩
 ·cases hp
@[go_sem] theorem nilK_eql_nil {o : Option Nat} (hp : isSl P t = true) : nilK P .eql t (.sl o []) d K e H = (K ((d,.bool true) :: e) H /\ K ((d,.bool false) :: e) H):=by
 obtain ⟨el,hu⟩:=isSl_of hp; simp [nilK,nilcmp,hu]
@[go_sem] theorem nilK_eql_cons {o : Option Nat} {x : AV} {xs : List AV} (hp : isSl P t = true) : nilK P .eql t (.sl o (x :: xs)) d K e H = K ((d,.bool false) :: e) H:=by
 obtain ⟨el,hu⟩:=isSl_of hp; simp [nilK,nilcmp,hu]
end
theorem aeql_int (t : TypeId) (k k' : IntKind) (x y : Int) : aeql P t (.int k x) (.int k' y) = none:=by
 unfold aeql; split <;> simp_all
theorem aeql_str (t : TypeId) (x y : ByteArray) : aeql P t (.str x) (.str y) = none:=by
 unfold aeql; split <;> simp_all
theorem binK_int {op : BinOp} {t : TypeId} {k k' : IntKind} {x y : Int} : binK P op t (.int k x) (.int k' y) d K e H = abin op (.int k x) (.int k' y) fun v => K ((d,v) :: e) H:=by
 unfold binK abinop
 rw [aeql_int]
 cases op <;> rfl
theorem binK_str {op : BinOp} {t : TypeId} {x y : ByteArray} : binK P op t (.str x) (.str y) d K e H = abin op (.str x) (.str y) fun v => K ((d,v) :: e) H:=by
 unfold binK abinop
 rw [aeql_str]
 cases op <;> rfl
section
variable {t : TypeId} {k : IntKind} {x y : Int}
@[go_sem] theorem binK_add : binK P .add t (.int k x) (.int k y) d K e H = K ((d,.int k (k.wrap (x + y))) :: e) H:=by rw [binK_int]; simp [abin]
@[go_sem] theorem binK_sub : binK P .sub t (.int k x) (.int k y) d K e H = K ((d,.int k (k.wrap (x - y))) :: e) H:=by rw [binK_int]; simp [abin]
@[go_sem] theorem binK_mul : binK P .mul t (.int k x) (.int k y) d K e H = K ((d,.int k (k.wrap (x * y))) :: e) H:=by rw [binK_int]; simp [abin]
@[go_sem] theorem binK_quo : binK P .quo t (.int k x) (.int k y) d K e H = (y ≠ 0 /\ K ((d,.int k (k.wrap (x.tdiv y))) :: e) H):=by rw [binK_int]; simp [abin]
@[go_sem] theorem binK_rem : binK P .rem t (.int k x) (.int k y) d K e H = (y ≠ 0 /\ K ((d,.int k (x.tmod y)) :: e) H):=by rw [binK_int]; simp [abin]
@[go_sem] theorem binK_eql : binK P .eql t (.int k x) (.int k y) d K e H = K ((d,.bool (x == y)) :: e) H:=by rw [binK_int]; simp [abin]
@[go_sem] theorem binK_neq : binK P .neq t (.int k x) (.int k y) d K e H = K ((d,.bool (x != y)) :: e) H:=by rw [binK_int]; simp [abin]
@[go_sem] theorem binK_lss : binK P .lss t (.int k x) (.int k y) d K e H = K ((d,.bool (decide (x < y))) :: e) H:=by rw [binK_int]; simp [abin]
@[go_sem] theorem binK_leq : binK P .leq t (.int k x) (.int k y) d K e H = K ((d,.bool (decide (x <= y))) :: e) H:=by rw [binK_int]; simp [abin]
@[go_sem] theorem binK_gtr : binK P .gtr t (.int k x) (.int k y) d K e H = K ((d,.bool (decide (y < x))) :: e) H:=by rw [binK_int]; simp [abin]
@[go_sem] theorem binK_geq : binK P .geq t (.int k x) (.int k y) d K e H = K ((d,.bool (decide (y <= x))) :: e) H:=by rw [binK_int]; simp [abin]
end
@[go_sem] theorem binK_seql {t : TypeId} {x y : ByteArray} : binK P .eql t (.str x) (.str y) d K e H = K ((d,.bool (x.toList == y.toList)) :: e) H:=by rw [binK_str]; simp [abin]
@[go_sem] theorem binK_sneq {t : TypeId} {x y : ByteArray} : binK P .neq t (.str x) (.str y) d K e H = K ((d,.bool !(x.toList == y.toList)) :: e) H:=by rw [binK_str]; simp [abin]
def isBool (P : Program) (t : TypeId) : Bool:=match P.underlying t with | some .bool => true | _ => false
@[go_sem] theorem binK_beql {t : TypeId} {x y : Bool} (hp : isBool P t = true) : binK P .eql t (.bool x) (.bool y) d K e H = K ((d,.bool (x == y)) :: e) H:=by
 unfold isBool at hp
 split at hp
 ·rename_i hu; simp [binK,abinop,aeql,hu]
 ·cases hp
@[go_sem] theorem binK_bneq {t : TypeId} {x y : Bool} (hp : isBool P t = true) : binK P .neq t (.bool x) (.bool y) d K e H = K ((d,.bool !(x == y)) :: e) H:=by
 unfold isBool at hp
 split at hp
 ·rename_i hu; simp [binK,abinop,aeql,hu]
 ·cases hp
@[go_sem] theorem aop_indexAddr (t : TypeId) (x i : Operand) : aop P n h ops ⟨some d,.indexAddr t x i,ty,ps,af,none⟩ K (p :: e) H =
  (d < n /\ bnd (vIndexAddr P (P.underlying t) (evo P none (p :: e) x).borrow (evo P none (p :: e) i).borrow) d K (p :: e) H):=by
 rw [aop_none _ rfl]
 simp only [taking,opTy,Op.operands,evs_plain,List.map_cons,List.map_nil,put,dstOk]
 congr 1
 generalize (evo P none (p :: e) x).borrow = a
 generalize (evo P none (p :: e) i).borrow = b
 unfold ares
 dsimp only
 cases b with
 | int k i =>
  dsimp only [vIndexAddr]
  cases hu : P.underlying t with
  | none => rfl
  | some dd => cases dd with
   | slice el => cases a with
    | sl own es =>
     dsimp only
     by_cases h0 : 0 <= i
     ·simp only [h0,true_and,if_true]
      cases hi : es[i.toNat]? with
      | none => simp [bnd]
      | some v =>
       by_cases hc : v.cells.length = P.cellsOf el /\ 0 < P.cellsOf el
       ·obtain ⟨h1,h2⟩:=hc
        simp only [Option.bind_some,h1,h2,and_self,if_true,bnd]
        simp [h1,h2]
       ·simp only [Option.bind_some,if_neg hc,bnd,eq_iff_iff,iff_false]
        rintro ⟨v',hv,h1,h2,_⟩
        cases hv
        exact hc ⟨h1,h2⟩
     ·simp [h0,bnd]
    | msl ob off len sz =>
     dsimp only
     by_cases hc : 0 <= i /\ i < len /\ sz = P.cellsOf el /\ 0 < sz
     ·rw [if_pos hc]; simp only [hc.1,hc.2.1,hc.2.2.1,hc.2.2.2,true_and,bnd]
      have:=hc.2.2.2
      rw [hc.2.2.1] at this
      simp [this]
     ·rw [if_neg hc]; simp only [bnd,eq_iff_iff,iff_false]
      rintro ⟨h1,h2,h3,h4,_⟩
      exact hc ⟨h1,h2,h3,h4⟩
    | _ => rfl
   | array m el => cases a with
    | ptr ob off =>
     dsimp only
     by_cases hc : 0 <= i /\ i < m /\ 0 < P.cellsOf el
     ·rw [if_pos hc]; simp only [hc.1,hc.2.1,hc.2.2,true_and,bnd]
     ·rw [if_neg hc]; simp only [bnd,eq_iff_iff,iff_false]
      rintro ⟨h1,h2,h3,_⟩
      exact hc ⟨h1,h2,h3⟩
    | cptr cs off =>
     dsimp only
     by_cases hc : 0 <= i /\ i < m /\ 0 < P.cellsOf el
     ·rw [if_pos hc]; simp only [hc.1,hc.2.1,hc.2.2,true_and,bnd]
     ·rw [if_neg hc]; simp only [bnd,eq_iff_iff,iff_false]
      rintro ⟨h1,h2,h3,_⟩
      exact hc ⟨h1,h2,h3⟩
    | _ => rfl
   | _ => cases a <;> rfl
 | _ => rfl
@[go_sem] theorem aop_index (t : TypeId) (x i : Operand) : aop P n h ops ⟨some d,.index t x i,ty,ps,af,none⟩ K (p :: e) H =
  (d < n /\ bnd (vIndex P (P.underlying t) (evo P none (p :: e) x).borrow (evo P none (p :: e) i).borrow) d K (p :: e) H):=by
 rw [aop_none _ rfl]
 simp only [taking,opTy,Op.operands,evs_plain,List.map_cons,List.map_nil,put,dstOk]
 congr 1
 generalize (evo P none (p :: e) x).borrow = a
 generalize (evo P none (p :: e) i).borrow = b
 unfold ares
 dsimp only
 cases b with
 | int k i =>
  dsimp only [vIndex]
  cases hu : P.underlying t with
  | none => rfl
  | some dd => cases dd with
   | string => cases a with
    | str s =>
     dsimp only
     by_cases hc : 0 <= i /\ i < s.size
     ·rw [if_pos hc]; simp only [hc.1,hc.2,true_and,bnd]
     ·rw [if_neg hc]; simp only [bnd,eq_iff_iff,iff_false]
      rintro ⟨h1,h2,_⟩
      exact hc ⟨h1,h2⟩
    | _ => rfl
   | array m el => cases a with
    | agg cs =>
     dsimp only
     by_cases hc : 0 <= i /\ i < m /\ 0 < P.cellsOf el
     ·rw [if_pos hc]; simp only [hc.1,hc.2.1,hc.2.2,true_and]
      cases ldv P el cs (i.toNat * P.cellsOf el) <;> simp [bnd]
     ·rw [if_neg hc]; simp only [bnd,eq_iff_iff,iff_false]
      rintro ⟨h1,h2,h3,_⟩
      exact hc ⟨h1,h2,h3⟩
    | _ => rfl
   | _ => cases a <;> rfl
 | _ => rfl
theorem list_eq_nil_append (xs : Array Operand) : ((#[] : Array Operand) ++ xs).toList = xs.toList:=by simp
@[go_sem] theorem aop_append (x y : Operand) (t : TypeId) : aop P n h ops ⟨some d,.call ⟨.builtin .append,#[x,y],#[t,t]⟩,ty,ps,af,none⟩ K (p :: e) H =
  (d < n /\ appK P (h.mt.contains d) (h.tk.contains d) (h.pc.contains d) t (tvals P [x,y] (p :: e)).1 d K (tvals P [x,y] (p :: e)).2 H):=by
 rw [aop_none _ rfl]
 simp only [taking,opTy,Op.operands,Call.operands,list_eq_nil_append,evs_take,put,dstOk]
 congr 1
 generalize hg : tvals P [x,y] (p :: e) = r
 unfold ares appK
 dsimp only
 generalize r.1 = vs
 cases vs with
 | nil => rfl
 | cons v vs => cases vs with
  | nil => rfl
  | cons v2 vs => cases vs with
   | nil =>
    dsimp only
    rw [if_pos rfl]
    cases P.underlying t with
    | none => rfl
    | some dd => cases dd <;> rfl
   | cons v3 vs => rfl
@[go_sem] theorem apsK_some (el : TypeId) (mt ln : Bool) (xs : List AV) (a : AV) : apsK P el mt ln (some xs) a d K e H = apnK P el mt ln H a xs d K e:=Eq.trans rfl rfl
@[go_sem] theorem asrc_sl (el : TypeId) (rd : Bool) (o : Option Nat) (xs : List AV) : asrc P el rd H (.sl o xs) = some xs:=rfl
theorem asrc_msl {el : TypeId} {ob off len sz : Nat} {cs : List AV} (ho : H[ob]? = some (some cs)) (h1 : off + len * sz <= cs.length) (h2 : sz = P.cellsOf el) (h3 : aggTy P el = true \/ sz = 1) : asrc P el true H (.msl ob off len sz) = some (chunk (aggTy P el) sz len ((cs.drop off).map borrow1)):=by
 simp only [asrc,ho]
 rw [if_pos ⟨h1,h2,h3⟩]
@[go_sem] theorem apnK_sl (el : TypeId) (ln : Bool) (o : Option Nat) (es xs : List AV) : apnK P el false ln H (.sl o es) xs d K e = ((∀ x ∈ xs,x.cells.length = P.cellsOf el) /\ o = some (P.cellsOf el) /\ (es.length + xs.length) * P.bytesOf el <= 140737488355328 /\ es.length + xs.length <= 9223372036854775807 /\ K ((d,.sl (bif ln then none else some (P.cellsOf el)) (es ++ xs)) :: e) H):=Eq.trans rfl rfl
def rowK (o : Option (Option (List AV))) (F : List AV -> Prop) : Prop:=match o with
 | some (some cs) => F cs
 | _ => False
@[go_sem] theorem rowK_some (cs : List AV) (F : List AV -> Prop) : rowK (some (some cs)) F = F cs:=Eq.trans rfl rfl
@[go_sem] theorem apnK_msl (el : TypeId) (ln : Bool) (ob off len sz : Nat) (xs : List AV) : apnK P el true ln H (.msl ob off len sz) xs d K e = ((∀ x ∈ xs,x.cells.length = P.cellsOf el) /\ off = 0 /\ sz = P.cellsOf el /\ (len + xs.length) * P.bytesOf el <= 140737488355328 /\ len + xs.length <= 9223372036854775807 /\
  rowK H[ob]? fun cs => cs.length = len * sz /\ cs.map borrow1 = cs /\ K ((d,.msl H.length 0 (len + xs.length) (P.cellsOf el)) :: e) (H.set ob none ++ [some (cs ++ (cat xs).map borrow1)])):=by
 unfold apnK aappend rowK
 rfl
@[go_sem] theorem apnK_mslc (el : TypeId) (ln : Bool) (ob off len sz c : Nat) (xs : List AV) : apnK P el true ln H (.mslc ob off len sz c) xs d K e = ((∀ x ∈ xs,x.cells.length = P.cellsOf el) /\ off = 0 /\ sz = P.cellsOf el /\ (len + xs.length) * P.bytesOf el <= 140737488355328 /\ len + xs.length <= 9223372036854775807 /\
  rowK H[ob]? fun cs => cs.length = len * sz /\ cs.map borrow1 = cs /\ K ((d,.msl H.length 0 (len + xs.length) (P.cellsOf el)) :: e) (H.set ob none ++ [some (cs ++ (cat xs).map borrow1)])):=by
 unfold apnK aappend rowK
 rfl
@[go_sem] theorem apnK_nil (el : TypeId) (ln : Bool) (xs : List AV) : apnK P el true ln H (.sl (some 0) []) xs d K e = ((∀ x ∈ xs,x.cells.length = P.cellsOf el) /\ 0 < xs.length /\ xs.length * P.bytesOf el <= 140737488355328 /\ xs.length <= 9223372036854775807 /\ K ((d,.msl H.length 0 xs.length (P.cellsOf el)) :: e) (H ++ [some ((cat xs).map borrow1)])):=Eq.trans rfl rfl
@[go_sem] theorem aop_call (f : Operand) (xs : Array Operand) (ts : Array TypeId) (dd : Option Tmp) : aop P n h ops ⟨dd,.call ⟨.value f,xs,ts⟩,ty,ps,af,none⟩ K (p :: e) H =
  (dstOk n dd /\ callK P (dd.any h.pc.contains) (dd.any h.mt.contains) (tvals P (f :: xs.toList) (p :: e)).1 dd K (tvals P (f :: xs.toList) (p :: e)).2 H):=by
 rw [aop_none _ rfl]
 have e1 : (#[f] ++ xs : Array Operand).toList = f :: xs.toList:=by simp
 simp only [taking,opTy,Op.operands,Call.operands,e1,evs_take]
 congr 1
@[go_sem] theorem aop_makeFunc (fn : Fn) (xs ys : Array Operand) : aop P n h ops ⟨some d,.makeFunc fn xs ys,ty,ps,af,none⟩ K (p :: e) H =
  (d < n /\ K ((d,.fn fn (xs.toList.map fun x => (evo P none (p :: e) x).borrow) (ys.toList.map fun x => (evo P none (p :: e) x).borrow)) :: p :: e) H):=by
 rw [aop_none _ rfl]
 simp only [taking,opTy,Op.operands,Array.toList_append,evs_plain,List.map_append,ares,put,dstOk]
 congr 3
 rw [show xs.size = (xs.toList.map fun x => (evo P none (p :: e) x).borrow).length by simp,List.take_left,List.drop_left]
theorem ex_bnd {z : List AV} {f : List AV -> Option (List AV)} : (∃ z' cs,some (AV.agg z) = some (AV.agg z') /\ f z' = some cs /\ K ((d,.agg cs) :: e) H) = bnd ((f z).map .agg) d K e H:=by
 cases hf : f z <;> simp [bnd,hf]
@[go_sem] theorem aop_build (t : TypeId) (qs : Array (Nat × Operand)) : aop P n h ops ⟨some d,.build t qs,ty,ps,af,none⟩ K (p :: e) H =
  (d < n /\ bnd (vBuild P t (qs.toList.map (·.1)) (tvals P (qs.toList.map (·.2)) (p :: e)).1) d K (tvals P (qs.toList.map (·.2)) (p :: e)).2 H):=by
 rw [aop_none _ rfl]
 simp only [taking,opTy,Op.operands,evs_take,put,dstOk]
 congr 1
 generalize hg : tvals P (qs.toList.map (·.2)) (p :: e) = r
 unfold ares vBuild
 dsimp only
 cases P.underlying t with
 | none => rfl
 | some dd => cases dd with
  | struct fs =>
   dsimp only
   by_cases hf : fieldsOk P fs = true
   ·simp only [hf,true_and,if_true]
    cases zeroAV P t with
    | none => simp [bnd]
    | some z => cases z with
     | agg z =>
      exact ex_bnd
     | _ => simp [bnd]
   ·simp [hf,bnd]
  | array m el =>
   dsimp only
   by_cases hf : (P.info? el).isSome = true
   ·simp only [hf,true_and,if_true]
    cases zeroAV P t with
    | none => simp [bnd]
    | some z => cases z with
     | agg z =>
      exact ex_bnd
     | _ => simp [bnd]
   ·simp [hf,bnd]
  | _ => rfl
@[go_sem] theorem aop_buildSlice (t len : Nat) (qs : Array (Nat × Operand)) : aop P n h ops ⟨some d,.buildSlice t len qs,ty,ps,af,none⟩ K (p :: e) H =
  (d < n /\ lstK P (h.mt.contains d) t len (qs.toList.map (·.1)) (qs.toList.map fun q => (evo P none (p :: e) q.2).borrow) d K (p :: e) H):=by
 rw [aop_none _ rfl]
 simp only [taking,opTy,Op.operands,evs_plain,put,dstOk]
 congr 1
 unfold ares lstK
 dsimp only
 rw [show ((qs.toList.map (·.2)).toArray.toList.map fun x => (evo P none (p :: e) x).borrow) = qs.toList.map fun q => (evo P none (p :: e) q.2).borrow by simp]
 cases P.underlying t with
 | none => rfl
 | some dd => cases dd <;> rfl
@[go_sem] theorem aop_slice (t : TypeId) (x : Operand) (lo hi mx : Option Operand) : aop P n h ops ⟨some d,.slice t x lo hi mx,ty,ps,af,none⟩ K (p :: e) H =
  (d < n /\ sliceK P (h.mt.contains d) t lo.isSome hi.isSome mx.isSome (tvals P (x :: (lo.toList ++ hi.toList ++ mx.toList)) (p :: e)).1 d K (tvals P (x :: (lo.toList ++ hi.toList ++ mx.toList)) (p :: e)).2 H):=by
 rw [aop_none _ rfl]
 have e1 : (#[x] ++ lo.toArray ++ hi.toArray ++ mx.toArray : Array Operand).toList = x :: (lo.toList ++ hi.toList ++ mx.toList):=by
  cases lo <;> cases hi <;> cases mx <;> simp
 simp only [taking,opTy,Op.operands,e1,evs_take,put,dstOk]
 congr 1
@[go_sem] theorem aop_min (x y : Operand) (ts : Array TypeId) : aop P n h ops ⟨some d,.call ⟨.builtin .min,#[x,y],ts⟩,ty,ps,af,none⟩ K (p :: e) H =
  (d < n /\ mmK true [(evo P none (p :: e) x).borrow,(evo P none (p :: e) y).borrow] d K (p :: e) H):=by
 rw [aop_none _ rfl]
 simp only [taking,opTy,Op.operands,Call.operands,list_eq_nil_append,evs_plain,List.map_cons,List.map_nil,put,dstOk]
 congr 1
@[go_sem] theorem aop_max (x y : Operand) (ts : Array TypeId) : aop P n h ops ⟨some d,.call ⟨.builtin .max,#[x,y],ts⟩,ty,ps,af,none⟩ K (p :: e) H =
  (d < n /\ mmK false [(evo P none (p :: e) x).borrow,(evo P none (p :: e) y).borrow] d K (p :: e) H):=by
 rw [aop_none _ rfl]
 simp only [taking,opTy,Op.operands,Call.operands,list_eq_nil_append,evs_plain,List.map_cons,List.map_nil,put,dstOk]
 congr 1
@[go_sem] theorem mmK_min (k : IntKind) (a b : Int) : mmK true [.int k a,.int k b] d K e H = K ((d,.int k (if b < a then b else a)) :: e) H:=by simp [mmK]
@[go_sem] theorem mmK_max (k : IntKind) (a b : Int) : mmK false [.int k a,.int k b] d K e H = K ((d,.int k (if b > a then b else a)) :: e) H:=by simp [mmK]
@[go_sem] theorem aop_convert (s t : TypeId) (x : Operand) : aop P n h ops ⟨some d,.convert s t x,ty,ps,af,none⟩ K (p :: e) H =
  (d < n /\ convK P (P.underlying s) (P.underlying t) (evo P none (p :: e) x).borrow d K (p :: e) H):=by
 rw [aop_none _ rfl]
 simp only [taking,opTy,Op.operands,evs_plain,List.map_cons,List.map_nil,put,dstOk]
 congr 1
@[go_sem] theorem aop_makeSlice (t : TypeId) (x y : Operand) : aop P n h ops ⟨some d,.makeSlice t x y,ty,ps,af,none⟩ K (p :: e) H =
  (d < n /\ mkK P t [(evo P none (p :: e) x).borrow,(evo P none (p :: e) y).borrow] d K (p :: e) H):=by
 rw [aop_none _ rfl]
 simp only [taking,opTy,Op.operands,evs_plain,List.map_cons,List.map_nil,put,dstOk]
 congr 1
 unfold ares mkK
 dsimp only
 cases (evo P none (p :: e) x).borrow <;> cases (evo P none (p :: e) y).borrow <;> rfl
def alcK (P : Program) (mt : Bool) (el : TypeId) (d : Tmp) (K : Kt) (e : Env) (H : Heap) : Prop:=match mt with
 | true => nilZ P el = true /\ K ((d,.ptr H.length 0) :: e) (H ++ [some [.sl (some 0) []]])
 | false => ∃ z,zeroAV P el = some z /\ K ((d,.ptr H.length 0) :: e) (H ++ [some z.cells])
@[go_sem] theorem alcK_f (el : TypeId) : alcK P false el d K e H = ∃ z,zeroAV P el = some z /\ K ((d,.ptr H.length 0) :: e) (H ++ [some z.cells]):=Eq.trans rfl rfl
@[go_sem] theorem alcK_t (el : TypeId) : alcK P true el d K e H = (nilZ P el = true /\ K ((d,.ptr H.length 0) :: e) (H ++ [some [.sl (some 0) []]])):=Eq.trans rfl rfl
@[go_sem] theorem aop_alloc (el : TypeId) : aop P n h ops ⟨some d,.alloc el,ty,ps,af,none⟩ K (p :: e) H =
  (d < n /\ alcK P (h.mt.contains d) el d K (p :: e) H):=by
 rw [aop_none _ rfl]
 have e1 : (#[] : Array Operand).toList = []:=rfl
 simp only [taking,opTy,Op.operands,e1,evs_plain,List.map_nil,put,dstOk]
 rfl
def clrK (P : Program) (t : TypeId) (x : AV) (K : Kt) (e : Env) (H : Heap) : Prop :=
 match x with
 | .msl ob off len sz => match P.underlying t with
  | some (.slice el) => match H[ob]? with
   | some (some cs) => ∃ z,zeroAV P el = some z /\ sz = z.cells.length /\ 0 < len /\ off + len * sz <= cs.length /\ K e (H.set ob (some (splice cs off (zerosN z len))))
   | _ => False
  | _ => False
 | _ => False
@[go_sem] theorem aop_clear (x : Operand) (t : TypeId) : aop P n h ops ⟨none,.call ⟨.builtin .clear,#[x],#[t]⟩,ty,ps,af,none⟩ K (p :: e) H =
  clrK P t (evo P none (p :: e) x).borrow K (p :: e) H:=by
 rw [aop_none _ rfl]
 simp only [taking,opTy,Op.operands,Call.operands,list_eq_nil_append,evs_plain,List.map_cons,List.map_nil,put,dstOk]
 rw [true_and]
 unfold ares clrK
 dsimp only
 generalize (evo P none (p :: e) x).borrow = v
 cases v <;> rfl
def capK (P : Program) (t : TypeId) (x : AV) (d : Tmp) (K : Kt) (e : Env) (H : Heap) : Prop :=
 match x with
 | .mslc _ _ _ _ c => match P.underlying t with
  | some (.slice _) => K ((d,.int .i64 c) :: e) H
  | _ => False
 | _ => False
@[go_sem] theorem aop_cap (x : Operand) (t : TypeId) : aop P n h ops ⟨some d,.call ⟨.builtin .cap,#[x],#[t]⟩,ty,ps,af,none⟩ K (p :: e) H =
  (d < n /\ capK P t (evo P none (p :: e) x).borrow d K (p :: e) H):=by
 rw [aop_none _ rfl]
 simp only [taking,opTy,Op.operands,Call.operands,list_eq_nil_append,evs_plain,List.map_cons,List.map_nil,put,dstOk]
 congr 1
 unfold ares capK
 dsimp only
 generalize (evo P none (p :: e) x).borrow = v
 cases v <;> rfl
def cpyK (P : Program) (t : TypeId) (a b : AV) (d : Tmp) (K : Kt) (e : Env) (H : Heap) : Prop:=acopy P t a b H fun v H' => K ((d,v) :: e) H'
@[go_sem] theorem aop_copy (x y : Operand) (t t' : TypeId) : aop P n h ops ⟨some d,.call ⟨.builtin .copy,#[x,y],#[t,t']⟩,ty,ps,af,none⟩ K (p :: e) H =
  (d < n /\ cpyK P t (evo P none (p :: e) x).borrow (evo P none (p :: e) y).borrow d K (p :: e) H):=by
 rw [aop_none _ rfl]
 simp only [taking,opTy,Op.operands,Call.operands,list_eq_nil_append,evs_plain,List.map_cons,List.map_nil,put,dstOk]
 congr 1
def apzK (P : Program) (t t' : TypeId) (mt : Bool) (vs : List AV) (d : Tmp) (K : Kt) (e : Env) (H : Heap) : Prop :=
 match vs with
 | [a,b] => apz P t t' mt a b H fun v H' => K ((d,v) :: e) H'
 | _ => False
@[go_sem] theorem aop_appendz (x y : Operand) (t t' : TypeId) (hn : (t == t') = false) : aop P n h ops ⟨some d,.call ⟨.builtin .append,#[x,y],#[t,t']⟩,ty,ps,af,none⟩ K (p :: e) H =
  (d < n /\ apzK P t t' (h.mt.contains d) (tvals P [x,y] (p :: e)).1 d K (tvals P [x,y] (p :: e)).2 H):=by
 rw [aop_none _ rfl]
 simp only [taking,opTy,Op.operands,Call.operands,list_eq_nil_append,evs_take,put,dstOk]
 congr 1
 generalize hg : tvals P [x,y] (p :: e) = r
 unfold ares apzK
 dsimp only
 generalize r.1 = vs
 cases vs with
 | nil => rfl
 | cons v vs => cases vs with
  | nil => rfl
  | cons v2 vs => cases vs with
   | nil =>
    dsimp only
    rw [if_neg (by simpa using hn)]
    rfl
   | cons v3 vs => rfl
theorem xK {f : FuncId} {vs : List AV} {dd : Option Tmp} {v : AV} (hc : XCall P f vs H v) (hk : K (put dd v e) H) : RCallK P f vs dd K e H:=⟨v,.inr hc,hk⟩
theorem cpyK_row {t el : TypeId} {a b : AV} {ob off len sz m : Nat} {gr : Bool} {cs X : List AV} (hu : P.underlying t = some (.slice el)) (hrow : crow a = some (ob,off,len,sz,gr)) (hm : slen b = some m) (ho : H[ob]? = some (some cs)) (h1 : sz = P.cellsOf el)
  (h2 : (P.info? el).isSome = true) (h3 : cs.map borrow1 = cs) (h4 : off <= cs.length) (h5 : gr = true \/ off + Nat.min m len * sz <= cs.length) (hs : csrc P el H (Nat.min m len) b = some X)
  (hk : K ((d,.int .i64 (Nat.min m len : Nat)) :: e) (H.set ob (some (cs.take off ++ X.map borrow1 ++ cs.drop (off + Nat.min m len * sz))))) : cpyK P t a b d K e H:=by
 unfold cpyK acopy
 simp only [hu,hrow,hm,ho,hs]
 exact ⟨⟨h1,h2,h3,h4,h5⟩,hk⟩
end
end Go.AI
namespace Go.AI
attribute [go_sem] Option.getD_some Option.getD_none true_and and_true false_and and_false
 decide_true decide_false List.any_cons List.any_nil Bool.or_false Bool.or_true Bool.true_or Bool.false_or Bool.and_true Bool.true_and Bool.and_false Bool.false_and Bool.not_true Bool.not_false
 List.contains_cons List.contains_nil cond_true cond_false List.nil_append List.length_nil List.length_cons List.map_cons List.map_nil Bool.or_self Bool.and_self List.getElem?_toArray List.getElem?_cons_succ List.getElem?_cons_zero
 Option.bind_some Option.bind_none Option.map_some Option.map_none Option.some.injEq List.set_cons_zero List.set_cons_succ List.cons_append List.append_assoc Option.any_some Option.any_none
 List.append_nil Int.toNat_natCast List.take_succ_cons List.take_zero List.drop_succ_cons List.drop_zero List.flatMap_cons List.flatMap_nil beq_iff_eq bne_iff_ne ne_eq not_true_eq_false not_false_eq_true
 List.getElem?_nil Option.isSome_some Option.isSome_none Option.toList_some Option.toList_none if_true if_false Bool.false_eq_true Nat.zero_add Nat.add_zero
 Nat.mul_zero Nat.mul_one Nat.one_mul Nat.zero_mul argsFrom
def ldk (P : Program) (t : TypeId) : Option (Option Nat) :=
 match P.underlying t with
 | some (.struct _) => some (some (P.cellsOf t))
 | some (.array _ _) => some (some (P.cellsOf t))
 | some _ => some none
 | none => none
def ldx (k : Option (Option Nat)) (cs : List AV) (off : Nat) : Option AV :=
 match k with
 | some (some n) => if off + n <= cs.length then some (.agg ((cs.drop off).take n)) else none
 | some none => cs[off]?
 | none => none
def fplace (P : Program) (s f : Nat) : Option (TypeId × Nat):=(fieldAt P s f).map fun fd => (fd.type,fd.offset)
def fpAddr (P : Program) (fp : Option (TypeId × Nat)) (x : AV) : Option AV :=
 match fp with
 | some (t,o) => if 0 < P.cellsOf t then vOff x o else none
 | none => none
def fpPart (P : Program) (fp : Option (TypeId × Nat)) (x : AV) : Option AV :=
 match fp,x with
 | some (t,o),.agg cs => ldx (ldk P t) cs o
 | _,_ => none
inductive BK where
 | none
 | struct (ps : List (Nat × Nat))
 | array (c : Nat)
def bkind (P : Program) (t : TypeId) : BK :=
 match P.underlying t with
 | some (.struct fs) => if fieldsOk P fs = true then .struct (fieldPlaces P fs).toList else .none
 | some (.array _ e) => if (P.info? e).isSome = true then .array (P.cellsOf e) else .none
 | _ => .none
def vb (k : BK) (z : Option AV) (is : List Nat) (vs : List AV) : Option AV :=
 match k,z with
 | .struct ps,some (.agg z) => (fillAV (fun i => ps[i]?) z is vs).map .agg
 | .array c,some (.agg z) => (fillAV (fun i => some (i * c,c)) z is vs).map .agg
 | _,_ => Option.none
section
variable {P : Program}
@[go_sem] theorem ldv_eq (t : TypeId) (cs : List AV) (off : Nat) : ldv P t cs off = ldx (ldk P t) cs off:=by
 unfold ldv ldx ldk
 cases P.underlying t with
 | none => rfl
 | some d => cases d <;> rfl
@[go_sem] theorem ldx_one (cs : List AV) (off : Nat) : ldx (some none) cs off = cs[off]?:=rfl
@[go_sem] theorem ldx_many (n : Nat) (cs : List AV) (off : Nat) : ldx (some (some n)) cs off = if off + n <= cs.length then some (.agg ((cs.drop off).take n)) else none:=rfl
@[go_sem] theorem vField_eq (s f : Nat) (x : AV) : vField P (fieldAt P s f) x = fpAddr P (fplace P s f) x:=by
 unfold vField fpAddr fplace
 cases fieldAt P s f <;> rfl
@[go_sem] theorem fpAddr_some (t o : Nat) (x : AV) : fpAddr P (some (t,o)) x = if 0 < P.cellsOf t then vOff x o else none:=rfl
@[go_sem] theorem vPart_eq (s f : Nat) (x : AV) : vPart P (fieldAt P s f) x = fpPart P (fplace P s f) x:=by
 unfold vPart fpPart fplace
 cases fieldAt P s f with
 | none => rfl
 | some fd => cases x <;> first | rfl | exact ldv_eq _ _ _
@[go_sem] theorem fpPart_some (t o : Nat) (cs : List AV) : fpPart P (some (t,o)) (.agg cs) = ldx (ldk P t) cs o:=rfl
@[go_sem] theorem vOff_ptr (a b k : Nat) : vOff (.ptr a b) k = some (.ptr a (b + k)):=rfl
@[go_sem] theorem vOff_cptr (cs : List AV) (b k : Nat) : vOff (.cptr cs b) k = some (.cptr cs (b + k)):=rfl
@[go_sem] theorem vBuild_eq (t : TypeId) (is : List Nat) (vs : List AV) : vBuild P t is vs = vb (bkind P t) (zeroAV P t) is vs:=by
 unfold vBuild bkind
 cases P.underlying t with
 | none => rfl
 | some d => cases d with
  | struct fs =>
   dsimp only
   by_cases hf : fieldsOk P fs = true
   ·rw [if_pos hf,if_pos hf]
    cases zeroAV P t with
    | none => rfl
    | some z => cases z <;> first | rfl | (dsimp only [vb]; simp only [Array.getElem?_toList])
   ·rw [if_neg hf,if_neg hf]; rfl
  | array m e =>
   dsimp only
   by_cases hf : (P.info? e).isSome = true
   ·rw [if_pos hf,if_pos hf]
    cases zeroAV P t with
    | none => rfl
    | some z => cases z <;> rfl
   ·rw [if_neg hf,if_neg hf]; rfl
  | _ => rfl
@[go_sem] theorem vb_struct (ps : List (Nat × Nat)) (z : List AV) (is : List Nat) (vs : List AV) : vb (.struct ps) (some (.agg z)) is vs = (fillAV (fun i => ps[i]?) z is vs).map .agg:=rfl
@[go_sem] theorem vb_array (c : Nat) (z : List AV) (is : List Nat) (vs : List AV) : vb (.array c) (some (.agg z)) is vs = (fillAV (fun i => some (i * c,c)) z is vs).map .agg:=rfl
@[go_sem] theorem fillAV_nil (place : Nat -> Option (Nat × Nat)) (cells : List AV) : fillAV place cells [] [] = some cells:=rfl
@[go_sem] theorem fillAV_cons (place : Nat -> Option (Nat × Nat)) (cells : List AV) (i : Nat) (is : List Nat) (v : AV) (vs : List AV) : fillAV place cells (i :: is) (v :: vs) = match place i with
  | some (off,size) => if v.isVal = true /\ v.cells.length = size /\ off + size <= cells.length then fillAV place (splice cells off v.cells) is vs else none
  | none => none:=rfl
@[go_sem] theorem splice_succ (a : AV) (cs : List AV) (o : Nat) (xs : List AV) : splice (a :: cs) (o + 1) xs = a :: splice cs o xs:=by
 unfold splice
 rw [Nat.add_right_comm,List.take_succ_cons,List.drop_succ_cons]
 rfl
theorem splice_full {cs xs : List AV} (h : cs.length = xs.length) : splice cs 0 xs = xs:=by
 unfold splice
 rw [Nat.zero_add,<- h,List.drop_length]
 simp
def spliceN (cs xs : List AV) : List AV:=splice cs 0 xs
@[go_sem] theorem splice_zero {cs xs : List AV} : splice cs 0 xs = if cs.length = xs.length then xs else spliceN cs xs:=by
 by_cases h : cs.length = xs.length
 ·rw [if_pos h,splice_full h]
 ·rw [if_neg h]; rfl
@[go_sem] theorem vLoad_ptr {P : Program} {H : Heap} (tk : Bool) (t : TypeId) (ob off : Nat) : vLoad P tk t (.ptr ob off) H = match H[ob]? with
  | some (some cs) => match ldv P t cs off with
   | some v => match tk with
    | true => if v.owned = true /\ v.scalar = true then some (v,H.set ob (some (splice cs off (v.cells.map borrow1)))) else none
    | false => some (v.borrow,H)
   | none => none
  | _ => none:=rfl
@[go_sem] theorem vLoad_cptr {P : Program} {H : Heap} (tk : Bool) (t : TypeId) (cs : List AV) (off : Nat) : vLoad P tk t (.cptr cs off) H = match ldv P t cs off with
  | some v => some (v.borrow,H)
  | none => none:=rfl
@[go_sem] theorem vStore_ptr {P : Program} {H : Heap} (t : TypeId) (ob off : Nat) (v : AV) : vStore P t (.ptr ob off) v H = match H[ob]? with
  | some (some cs) => if v.isVal = true /\ v.cells.length = P.cellsOf t /\ 0 < P.cellsOf t /\ off + P.cellsOf t <= cs.length then some (H.set ob (some (splice cs off v.cells))) else none
  | _ => none:=rfl
attribute [go_sem] stK vNil vPick vExtract vLen vUn vIndexAddr vIndex bounds3 convK mkK vRead appK lstK sliceK aslice apslice callK
end
end Go.AI
namespace Go.AI
section
variable {P : Program} {F : Nat -> Prop} {G : Gh} {w : World}
theorem ACall.gc {f : FuncId} {vs : List AV} {H : Heap} {R : AV -> Heap -> Prop} (hn : ∀ v H1,R v H1 -> H.length <= H1.length)
  (h : ACall P f vs H fun v H' => ∃ H1 junk,H' = H1 ++ junk /\ v.bnd H1.length = true /\ closedH H1 /\ R v H1) : ACall P f vs H R :=
 ⟨h.1,fun F G w us hc => Calls.mono (h.2 F G w us hc) fun e w' he => by
  obtain ⟨u,rfl,v,H',G',⟨H1,junk,rfl,h1,h2,h3⟩,hcr,hext⟩:=he
  refine ⟨u,rfl,v,H1,G'.cut H1.length,h3,hcr.cut h1 h2,hext.size,⟨fun o b ho => ?_,hext.keeps.shape,hext.keeps.sp,hext.keeps.safe⟩,hext.kind,hext.cells,hext.io⟩
  have hlt : o < H.length:=by rw [<- hc.h.len]; exact (List.getElem?_eq_some_iff.1 ho).1
  have:=hn v H1 h3
  show (G'.obs.take H1.length)[o]? = some b
  rw [List.getElem?_take_of_lt (by omega)]
  exact hext.keeps.obs o b ho⟩
theorem CRel.lend {vs : List AV} {H : Heap} {us : List Value} (h : CRel F G vs H us w) : CRel F G (vs.map AV.borrow) H us w:=by
 refine ⟨⟨by simpa using h.l.len,fun i a u h1 h2 => ?_,fun i a u h1 h2 => ?_⟩,h.h,fun b => ?_⟩
 ·rw [List.getElem?_map] at h1
  cases hi : vs[i]? with
  | none => rw [hi] at h1; cases h1
  | some x => rw [hi] at h1; cases h1; exact (h.l.rel i x u hi h2).borrow
 ·rw [List.getElem?_map] at h1
  cases hi : vs[i]? with
  | none => rw [hi] at h1; cases h1
  | some x => rw [hi] at h1; cases h1; exact tok_nil_all (toks_borrow _ _) F G w
 ·have h0 : tcnt b (vs.map AV.borrow) us = 0:=by
   have : ∀ (l : List AV) (us : List Value),tcnt b (l.map AV.borrow) us = 0:=by
    intro l
    induction l with
    | nil => intro us; exact tcnt_nil b us
    | cons x xs ih =>
     intro us
     cases us with
     | nil => simp [tcnt]
     | cons u us => rw [List.map_cons,tcnt_cons,toks_borrow,ih]; rfl
   exact this vs us
  have:=h.cnt b
  omega
theorem ACall.lend {f : FuncId} {vs : List AV} {H : Heap} {R : AV -> Heap -> Prop} (h : ACall P f (vs.map AV.borrow) H R) : ACall P f vs H R :=
 ⟨h.1,fun F G w us hc => h.2 F G w us hc.lend⟩
theorem QCall.lend {f : FuncId} {vs : List AV} {Q : AV -> Prop} (h : QCall P f (vs.map AV.borrow) Q) : QCall P f vs Q:=fun H => (h H).lend
theorem PCall.lend {f : FuncId} {vs : List AV} {v : AV} (h : PCall P f (vs.map AV.borrow) v) : PCall P f vs v:=fun H => (h H).lend
end
end Go.AI
namespace Go.AI
inductive Rd (P : Program) : TypeId -> AV -> Prop where
 | bool {t : TypeId} (b : Bool) (h : P.underlying t = some .bool) : Rd P t (.bool b)
 | int {t : TypeId} {k : IntKind} {n : Int} (h : P.underlying t = some (.int k)) (hw : k.min <= n /\ n <= k.max) : Rd P t (.int k n)
 | str {t : TypeId} {s : ByteArray} (h : P.underlying t = some .string) (hs : s.size <= reachBytes) : Rd P t (.str s)
 | slice {t e : TypeId} {es : List AV} (h : P.underlying t = some (.slice e)) (hl : es.length <= maxLen) (hb : es.length * P.bytesOf e <= reachBytes) (he : ∀ x ∈ es,Rd P e x) : Rd P t (.sl none es)
 | struct {t : TypeId} {fs : Array Field} {parts : List AV} (h : P.underlying t = some (.struct fs)) (hl : parts.length = fs.size)
   (hp : ∀ (i : Nat) (f : Field) (x : AV),fs[i]? = some f -> parts[i]? = some x -> Rd P f.type x) : Rd P t (.agg (cat parts))
 | array {t e : TypeId} {n : Nat} {parts : List AV} (h : P.underlying t = some (.array n e)) (hl : parts.length = n) (hp : ∀ x ∈ parts,Rd P e x) : Rd P t (.agg (cat parts))
def fieldsFit (P : Program) : Nat -> List Field -> Nat -> Bool
 | off,[],total => off == total
 | off,f :: fs,total => f.offset == off && fieldsFit P (off + P.cellsOf f.type) fs total
def tysOk (P : Program) (S : List TypeId) : Bool:=S.all fun t => match P.underlying t with
 | some .bool | some (.int _) | some .string => P.cellsOf t == 1
 | some (.slice e) => P.cellsOf t == 1 && S.contains e && decide (0 < P.cellsOf e)
 | some (.struct fs) => fieldsFit P 0 fs.toList (P.cellsOf t) && fs.toList.all fun f => S.contains f.type
 | some (.array n e) => S.contains e && P.cellsOf t == n * P.cellsOf e
 | _ => false
mutual
def AV.bulk : AV -> Nat
 | .str s => s.size + 1
 | .sl _ es => 1 + bulkL es
 | .agg cs => bulkL cs
 | .tup cs => bulkL cs
 | _ => 1
def bulkL : List AV -> Nat
 | [] => 0
 | a :: l => a.bulk + bulkL l
end
structure BulkOk {H : Type} (μ : DataW H -> Nat) : Prop where
 one : ∀ d,1 <= μ d
 str : ∀ s : List UInt8,s.length + 1 <= μ (.lit (.string s))
 sl : ∀ es sp,1 + (es.map μ).sum <= μ (.slice es sp)
 agg : ∀ ps,(ps.map μ).sum <= μ (.agg ps)
theorem bulkL_append (l l' : List AV) : bulkL (l ++ l') = bulkL l + bulkL l':=by
 induction l with
 | nil => simp [bulkL]
 | cons a l ih => simp [bulkL,ih]; omega
theorem bulkL_cells (a : AV) : bulkL a.cells = a.bulk:=by
 cases a <;> simp [AV.cells,bulkL,AV.bulk]
theorem bulkL_cat (es : List AV) : bulkL (cat es) = bulkL es:=by
 induction es with
 | nil => rfl
 | cons e es ih =>
  have : cat (e :: es) = e.cells ++ cat es:=by simp [cat]
  rw [this,bulkL_append,bulkL_cells,ih]; rfl
theorem bulk_sum {D : Type} {μ : D -> Nat} : ∀ {es : List AV} {ds : List D},es.length = ds.length -> (∀ (i : Nat) (x : AV) (d : D),es[i]? = some x -> ds[i]? = some d -> x.bulk <= μ d) -> bulkL es <= (ds.map μ).sum
 | [],_,_,_ => by simp [bulkL]
 | e :: es,[],h,_ => by simp at h
 | e :: es,d :: ds,hl,h => by
  have h0:=h 0 e d rfl rfl
  have h1:=bulk_sum (es:=es) (ds:=ds) (by simpa using hl) fun i x y hx hy => h (i + 1) x y (by simpa using hx) (by simpa using hy)
  simp only [bulkL,List.map_cons,List.sum_cons]
  omega
structure FitL (G : Gh) (w : World) (as : List AV) (cs : List Value) : Prop where
 len : as.length = cs.length
 sc : ∀ c ∈ as,c.scalar = true /\ owned1 c = false
 rel : ∀ (i : Nat) (c : AV) (v : Value),as[i]? = some c -> cs[i]? = some v -> VRel G w c v
section
variable {P : Program} {G : Gh} {w : World}
theorem FitL.nil : FitL G w [] []:=⟨rfl,fun c hc => by simp at hc,fun i c v h => by simp at h⟩
theorem FitL.append {as bs : List AV} {cs ds : List Value} (h : FitL G w as cs) (h' : FitL G w bs ds) : FitL G w (as ++ bs) (cs ++ ds):=by
 refine ⟨by simp [h.len,h'.len],fun c hc => ?_,fun i c v h1 h2 => ?_⟩
 ·rcases List.mem_append.1 hc with hc | hc
  ·exact h.sc c hc
  ·exact h'.sc c hc
 ·have:=h.len
  by_cases hi : i < as.length
  ·rw [List.getElem?_append_left hi] at h1
   rw [List.getElem?_append_left (by omega)] at h2
   exact h.rel i c v h1 h2
  ·rw [List.getElem?_append_right (by omega)] at h1
   rw [List.getElem?_append_right (by omega)] at h2
   exact h'.rel (i - as.length) c v h1 (by rw [h.len]; exact h2)
theorem FitL.one {c : AV} {v : Value} (hs : c.scalar = true) (ho : owned1 c = false) (h : VRel G w c v) : FitL G w [c] [v]:=by
 refine ⟨rfl,fun d hd => by simp at hd; subst hd; exact ⟨hs,ho⟩,fun i d u h1 h2 => ?_⟩
 cases i with
 | zero => simp at h1 h2; subst h1; subst h2; exact h
 | succ i => simp at h1
theorem exists_list {α : Type} {p : Nat -> α -> Prop} : ∀ (n : Nat),(∀ i,i < n -> ∃ x,p i x) -> ∃ l : List α,l.length = n /\ ∀ (i : Nat) (x : α),l[i]? = some x -> p i x
 | 0,_ => ⟨[],rfl,fun i x h => by simp at h⟩
 | n + 1,h => by
  obtain ⟨l,h1,h2⟩:=exists_list n fun i hi => h i (by omega)
  obtain ⟨x,hx⟩:=h n (by omega)
  refine ⟨l ++ [x],by simp [h1],fun i y hy => ?_⟩
  by_cases hi : i < l.length
  ·rw [List.getElem?_append_left hi] at hy; exact h2 i y hy
  ·rw [List.getElem?_append_right (by omega)] at hy
   have h0 : i - l.length = 0:=by
    have:=(List.getElem?_eq_some_iff.1 hy).1
    simp at this; omega
   rw [h0] at hy
   simp at hy
   have : i = n:=by omega
   subst this; subst hy; exact hx
theorem cat_get {es : List AV} {n i : Nat} {c : AV} (hn : ∀ e ∈ es,e.cells.length = n) (h : (cat es)[i]? = some c) : ∃ (k j : Nat) (x : AV),i = k * n + j /\ j < n /\ es[k]? = some x /\ x.cells[j]? = some c:=by
 induction es generalizing i with
 | nil => simp [cat] at h
 | cons e es ih =>
  simp only [cat,List.flatMap_cons] at h
  have he:=hn e (by simp)
  by_cases hi : i < n
  ·rw [List.getElem?_append_left (by omega)] at h
   exact ⟨0,i,e,by omega,hi,rfl,h⟩
  ·rw [List.getElem?_append_right (by omega),he] at h
   obtain ⟨k,j,x,h1,h2,h3,h4⟩:=ih (fun e he => hn e (by simp [he])) h
   exact ⟨k + 1,j,x,by rw [Nat.add_mul]; omega,h2,by simpa using h3,h4⟩
section
variable {H : Type} {enc : TypeId × Value -> H} {base : Nat} {held : Bool}
theorem weightsAll_mem {e : TypeId} : ∀ {ds : List (DataW H)} {d : DataW H},d ∈ ds -> ∀ m ∈ d.weights P e,m ∈ DataW.weightsAll P e ds
 | x :: ds,d,hd,m,hm => by
  simp only [DataW.weightsAll,List.mem_append]
  rcases List.mem_cons.1 hd with rfl | hd
  ·exact .inl hm
  ·exact .inr (weightsAll_mem hd m hm)
theorem spot_none {a : Addr} {v : Value} (h : w.cell? a = some v) : a.spot = none:=by
 unfold World.cell? at h
 split at h
 ·split at h
  ·cases h
  ·rename_i hs; simpa using hs
 ·cases h
theorem fit_fields {S : List TypeId} {rec : TypeId -> List Value -> Option (DataW H × List MemPlace)} {cs : List Value}
  (hrec : ∀ t cs d ps,t ∈ S -> rec t cs = some (d,ps) -> (∀ m ∈ d.weights P t,m <= reachBytes) -> ∃ a,Rd P t a /\ FitL G w a.cells cs /\ ∀ μ : DataW H -> Nat,BulkOk μ -> a.bulk <= μ d) :
  ∀ (fs : List Field) (off : Nat) (xs : List (DataW H × List MemPlace)),fieldsFit P off fs cs.length = true -> (∀ f ∈ fs,f.type ∈ S) -> off <= cs.length ->
   fs.mapM (fun f => rec f.type ((cs.drop f.offset).take (P.cellsOf f.type))) = some xs -> (∀ m ∈ DataW.weightsEach P (fs.map (·.type)) (xs.map (·.1)),m <= reachBytes) ->
   ∃ parts,parts.length = fs.length /\ (∀ (i : Nat) (f : Field) (x : AV),fs[i]? = some f -> parts[i]? = some x -> Rd P f.type x) /\ FitL G w (cat parts) (cs.drop off) /\ ∀ μ : DataW H -> Nat,BulkOk μ -> bulkL parts <= ((xs.map (·.1)).map μ).sum
 | [],off,xs,hf,_,hle,hm,_ => by
  simp only [fieldsFit,beq_iff_eq] at hf
  subst hf
  exact ⟨[],rfl,fun i f x h => by simp at h,by simpa [cat] using FitL.nil,fun μ _ => by simp [bulkL]⟩
 | f :: fs,off,xs,hf,hS,hle,hm,hw => by
  simp only [fieldsFit,Bool.and_eq_true,beq_iff_eq] at hf
  obtain ⟨hoff,hf⟩:=hf
  subst hoff
  simp only [List.mapM_cons,Option.bind_eq_bind] at hm
  cases h1 : rec f.type ((cs.drop f.offset).take (P.cellsOf f.type)) with
  | none => rw [h1] at hm; simp at hm
  | some x =>
   rw [h1] at hm
   simp only [Option.bind_some] at hm
   cases h2 : fs.mapM (fun f => rec f.type ((cs.drop f.offset).take (P.cellsOf f.type))) with
   | none => rw [h2] at hm; simp at hm
   | some ys =>
    rw [h2] at hm
    simp only [Option.bind_some] at hm
    cases hm
    simp only [List.map_cons,DataW.weightsEach,List.mem_append] at hw
    have hle' : ∀ (fs : List Field) (o : Nat),fieldsFit P o fs cs.length = true -> o <= cs.length:=by
     intro fs
     induction fs with
     | nil => intro o h; simp only [fieldsFit,beq_iff_eq] at h; omega
     | cons g gs ih => intro o h; simp only [fieldsFit,Bool.and_eq_true,beq_iff_eq] at h; have:=ih _ h.2; omega
    have hle2:=hle' fs _ hf
    obtain ⟨a,ha,hfa,hba⟩:=hrec _ _ x.1 x.2 (hS f (by simp)) h1 fun m hm => hw m (.inl hm)
    obtain ⟨parts,p1,p2,p3,p4⟩:=fit_fields hrec fs (f.offset + P.cellsOf f.type) ys hf (fun g hg => hS g (by simp [hg])) hle2 h2 fun m hm => hw m (.inr hm)
    refine ⟨a :: parts,by simp [p1],fun i g y hg hy => ?_, ?_,fun μ hμ => ?_⟩
    ·cases i with
     | zero => simp at hg hy; subst hg; subst hy; exact ha
     | succ i => exact p2 i g y (by simpa using hg) (by simpa using hy)
    ·have e : cs.drop f.offset = (cs.drop f.offset).take (P.cellsOf f.type) ++ cs.drop (f.offset + P.cellsOf f.type):=by
      rw [<- List.drop_drop,List.take_append_drop]
     rw [e]
     simp only [cat,List.flatMap_cons]
     exact hfa.append p3
    ·have h1:=hba μ hμ
     have h2:=p4 μ hμ
     simp only [bulkL,List.map_cons,List.sum_cons]
     omega
theorem fit_array {n : Nat} {parts : List AV} {cs : List Value} (hp : ∀ (i : Nat) (x : AV),parts[i]? = some x -> FitL G w x.cells ((cs.drop (i * n)).take n)) (hc : cs.length = parts.length * n) : FitL G w (cat parts) cs:=by
 induction parts generalizing cs with
 | nil => simp at hc; subst hc; simpa [cat] using FitL.nil
 | cons x xs ih =>
  have h0:=hp 0 x rfl
  simp only [Nat.zero_mul,List.drop_zero] at h0
  have h1:=ih (cs:=cs.drop n) (fun i y hy => by
   have:=hp (i + 1) y (by simpa using hy)
   rw [List.drop_drop]
   rw [Nat.add_mul,Nat.one_mul,Nat.add_comm] at this
   exact this) (by simp at hc ⊢; rw [Nat.add_mul] at hc; omega)
  have:=h0.append h1
  rw [List.take_append_drop] at this
  simpa [cat] using this
theorem rd_of_trod {S : List TypeId} (hS : tysOk P S = true) (hG : ∀ b,G.kind b = .imm) : ∀ (fuel : Nat) (t : TypeId) (cs : List Value) (d : DataW H) (ps : List MemPlace),t ∈ S ->
  DataW.trod enc P w base (fun _ => true) held fuel t cs = some (d,ps) -> (∀ m ∈ d.weights P t,m <= reachBytes) -> ∃ a,Rd P t a /\ FitL G w a.cells cs /\ ∀ μ : DataW H -> Nat,BulkOk μ -> a.bulk <= μ d
 | 0,t,cs,d,ps,_,h,_ => by simp [DataW.trod] at h
 | fuel + 1,t,cs,d,ps,ht,h,hw => by
  have ih:=rd_of_trod hS hG fuel
  have hst:=List.all_eq_true.1 hS t ht
  unfold DataW.trod at h
  cases hu : P.underlying t with
  | none => rw [hu] at hst; cases hst
  | some dd =>
   rw [hu] at hst h
   cases dd <;> try (cases hst; done)
   case bool =>
    dsimp only at h
    split at h
    case h_1 => rename_i b hd; exact ⟨.bool b,.bool b hu,.one rfl rfl (.bool b),fun μ hμ => hμ.one _⟩
    all_goals first | (simp at *; done) | (rename_i heq _; cases heq)
   case int k =>
    dsimp only at h
    split at h
    case h_2 =>
     rename_i k1 k2 n hd
     cases hd
     split at h
     ·rename_i hk
      obtain ⟨rfl,hk⟩:=hk
      simp only [Lit.wf,Bool.and_eq_true,decide_eq_true_eq] at hk
      exact ⟨.int k2 n,.int hu hk,.one rfl rfl (.int _ _),fun μ hμ => hμ.one _⟩
     ·cases h
    all_goals first | (simp at *; done) | (rename_i heq _; cases heq)
   case string =>
    dsimp only at h
    split at h
    case h_4 =>
     rename_i s hd
     split at h
     ·cases h
      simp only [DataW.weights,List.mem_singleton,forall_eq] at hw
      exact ⟨.str s,.str hu (by simpa using hw),.one rfl rfl (.str s),fun μ hμ => by have:=hμ.str s.data.toList; simpa [AV.bulk] using this⟩
     ·cases h
    all_goals first | (simp at *; done) | (rename_i heq _; cases heq)
   case slice e =>
    simp only [Bool.and_eq_true,beq_iff_eq,List.contains_iff_mem,decide_eq_true_eq] at hst
    obtain ⟨⟨_,he⟩,hpos⟩:=hst
    dsimp only at h
    split at h
    case h_7 => exact ⟨.sl none [],.slice hu (by simp) (by simp) (fun x hx => by simp at hx),.one rfl rfl (.slnil _),fun μ hμ => by have:=hμ.one d; simpa [AV.bulk,bulkL] using this⟩
    case h_8 =>
     rename_i e' a len cap hd
     cases hd
     split at h
     case isFalse => cases h
     rename_i hcond
     cases hm : (List.range len).mapM fun i => (w.cells? base (a.add (i * P.cellsOf e)) (P.cellsOf e)).bind (DataW.trod enc P w base (fun _ => true) held fuel e) with
     | none => rw [hm] at h; simp at h
     | some elems =>
      rw [hm] at h
      simp only [Option.bind_some,if_true] at h
      cases hr : (List.range (cap - len)).mapM fun j => (w.cells? base (a.add ((len + j) * P.cellsOf e)) (P.cellsOf e)).bind (DataW.trod enc P w base (fun _ => true) held fuel e) with
      | none => rw [hr] at h; simp at h
      | some rest =>
       rw [hr] at h
       simp only [Option.map_some,Option.some.injEq,Prod.mk.injEq] at h
       obtain ⟨rfl,_⟩:=h
       simp only [DataW.weights,hu,List.mem_cons,List.mem_append,List.length_map] at hw
       have hel:=mapM_some_length hm
       simp only [List.length_range] at hel
       have hb : (elems.length + rest.length) * P.bytesOf e <= reachBytes:=hw _ (.inl rfl)
       have hb2 : len * P.bytesOf e <= reachBytes:=Nat.le_trans (Nat.mul_le_mul_right _ (by omega)) hb
       have hat : ∀ i,i < len -> ∃ x,Rd P e x /\ (∃ ci,w.cells? base (a.add (i * P.cellsOf e)) (P.cellsOf e) = some ci /\ FitL G w x.cells ci) /\ ∀ y,elems[i]? = some y -> ∀ μ : DataW H -> Nat,BulkOk μ -> x.bulk <= μ y.1:=by
        intro i hi
        have hg:=mapM_some_get hm i i (by simp [hi])
        have hlt : i < elems.length:=by omega
        rw [List.getElem?_eq_getElem hlt] at hg
        cases hc : w.cells? base (a.add (i * P.cellsOf e)) (P.cellsOf e) with
        | none => rw [hc] at hg; simp at hg
        | some ci =>
         rw [hc] at hg
         simp only [Option.bind_some] at hg
         obtain ⟨x,hx,hf,hbx⟩:=ih e ci elems[i].1 elems[i].2 he hg fun m hm => hw m (.inr (.inl (weightsAll_mem (List.mem_map.2 ⟨elems[i],List.getElem_mem hlt,rfl⟩) m hm)))
         exact ⟨x,hx,⟨ci,rfl,hf⟩,fun y hy μ hμ => by rw [List.getElem?_eq_getElem hlt] at hy; cases hy; exact hbx μ hμ⟩
       have hspot : 0 < cap -> a.spot = none:=by
        intro hc0
        by_cases h0 : 0 < len
        ·obtain ⟨x,_,⟨ci,hci,_⟩,_⟩:=hat 0 h0
         obtain ⟨_,h1,h2⟩:=World.cells?_some hci
         have h3:=h2 0 hpos
         rw [Nat.zero_mul,show (a.add 0).add 0 = a from rfl] at h3
         have hlt : 0 < ci.length:=by omega
         rw [List.getElem?_eq_getElem hlt] at h3
         exact spot_none h3
        ·have hg:=mapM_some_get hr 0 0 (by rw [List.getElem?_range (by omega)])
         have hrl:=mapM_some_length hr
         simp only [List.length_range] at hrl
         have hlt : 0 < rest.length:=by omega
         rw [List.getElem?_eq_getElem hlt] at hg
         have hl0 : len = 0:=by omega
         subst hl0
         cases hc : w.cells? base (a.add ((0 + 0) * P.cellsOf e)) (P.cellsOf e) with
         | none => rw [hc] at hg; simp at hg
         | some ci =>
          obtain ⟨_,h1,h2⟩:=World.cells?_some hc
          have h3:=h2 0 hpos
          rw [Nat.add_zero,Nat.zero_mul,show (a.add 0).add 0 = a from rfl] at h3
          have hlt : 0 < ci.length:=by omega
          rw [List.getElem?_eq_getElem hlt] at h3
          exact spot_none h3
       obtain ⟨es,hes,hes2⟩:=exists_list len hat
       have hrd : ∀ x ∈ es,Rd P e x:=fun x hx => by
        obtain ⟨i,hi⟩:=List.getElem?_of_mem hx
        exact (hes2 i x hi).1
       refine ⟨.sl none es,.slice hu (by omega) (by rw [hes]; exact hb2) hrd,.one rfl rfl ?_,fun μ hμ => Nat.le_trans (Nat.add_le_add_left (bulk_sum (ds:=elems.map (·.1)) (by simp; omega) fun i x d hx hd => by
        rw [List.getElem?_map] at hd
        cases hy : elems[i]? with
        | none => rw [hy] at hd; cases hd
        | some y => rw [hy] at hd; cases hd; exact (hes2 i x hx).2.2 y hy μ hμ) 1) (hμ.sl _ _)⟩
       by_cases hc0 : 0 < cap
       ·have hsp:=hspot hc0
        have hsz : ∀ x ∈ es,x.cells.length = P.cellsOf e:=fun x hx => by
         obtain ⟨i,hi⟩:=List.getElem?_of_mem hx
         obtain ⟨_,⟨ci,hci,hf⟩,_⟩:=hes2 i x hi
         rw [hf.len]; exact (World.cells?_some hci).2.1
        have haddr : a = ⟨a.block,a.off,none⟩:=by cases a; simp at hsp; subst hsp; rfl
        have key : ∀ (i : Nat) (c : AV),(cat es)[i]? = some c -> c.scalar = true /\ ∃ v,w.cell? ⟨a.block,a.off + i,none⟩ = some v /\ VRel G w c v:=by
         intro i c hi
         obtain ⟨k,j,x,h1,h2,h3,h4⟩:=cat_get hsz hi
         obtain ⟨_,⟨ci,hci,hf⟩,_⟩:=hes2 k x h3
         obtain ⟨_,g1,g2⟩:=World.cells?_some hci
         have g3:=g2 j h2
         have hlt : j < ci.length:=by omega
         rw [List.getElem?_eq_getElem hlt] at g3
         rw [haddr,addr_add,addr_add] at g3
         refine ⟨(hf.sc c (List.mem_of_getElem? h4)).1,ci[j], ?_,hf.rel j c _ h4 (List.getElem?_eq_getElem hlt)⟩
         rw [h1,<- Nat.add_assoc]; exact g3
        rw [haddr]
        have:=VRel.sl (G:=G) (w:=w) none es (P.cellsOf e) a.block a.off cap (fun i => (w.cell? ⟨a.block,a.off + i,none⟩).getD Go.undef) hsz (fun n hn => by cases hn) (by omega) hcond.2.2
         (fun i c hi => by
          obtain ⟨s,v,hv,_⟩:=key i c hi
          exact ⟨s,by simp [Gh.safe,hG],by rw [hv]; rfl⟩)
         (fun i c hi => by
          obtain ⟨_,v,hv,hr⟩:=key i c hi
          rw [hv]; exact hr)
        rw [hes] at this
        exact this
       ·have h0 : cap = 0:=by omega
        have h1 : len = 0:=by omega
        subst h0; subst h1
        have : es = []:=List.eq_nil_of_length_eq_zero hes
        subst this
        exact .slany none a
    all_goals first | (simp at *; done) | (rename_i heq _; cases heq)
   case struct fs =>
    simp only [Bool.and_eq_true,List.all_eq_true,List.contains_iff_mem] at hst
    dsimp only at h
    split at h
    case isFalse => cases h
    rename_i hlen
    cases hm : fs.toList.mapM fun f => DataW.trod enc P w base (fun _ => true) held fuel f.type ((cs.drop f.offset).take (P.cellsOf f.type)) with
    | none => rw [hm] at h; simp at h
    | some xs =>
     rw [hm] at h
     simp only [Option.map_some,Option.some.injEq,Prod.mk.injEq] at h
     obtain ⟨rfl,_⟩:=h
     simp only [DataW.weights,hu] at hw
     obtain ⟨parts,p1,p2,p3,p4⟩:=fit_fields (G:=G) (w:=w) (P:=P) (S:=S) ih fs.toList 0 xs (by rw [hlen]; exact hst.1) hst.2 (Nat.zero_le _) hm hw
     exact ⟨.agg (cat parts),.struct hu (by simpa using p1) (fun i f x hf hx => p2 i f x (by simpa using hf) hx),by simpa [AV.cells] using p3,fun μ hμ => by
      have h1:=p4 μ hμ
      have h2:=hμ.agg (xs.map (·.1))
      simp only [AV.bulk,bulkL_cat]
      omega⟩
   case array n e =>
    simp only [Bool.and_eq_true,beq_iff_eq,List.contains_iff_mem] at hst
    dsimp only at h
    split at h
    case isFalse => cases h
    rename_i hlen
    cases hm : (List.range n).mapM fun i => DataW.trod enc P w base (fun _ => true) held fuel e ((cs.drop (i * P.cellsOf e)).take (P.cellsOf e)) with
    | none => rw [hm] at h; simp at h
    | some xs =>
     rw [hm] at h
     simp only [Option.map_some,Option.some.injEq,Prod.mk.injEq] at h
     obtain ⟨rfl,_⟩:=h
     simp only [DataW.weights,hu] at hw
     have hxl:=mapM_some_length hm
     simp only [List.length_range] at hxl
     obtain ⟨parts,q1,q2⟩:=exists_list (p:=fun i x => Rd P e x /\ FitL G w x.cells ((cs.drop (i * P.cellsOf e)).take (P.cellsOf e)) /\ ∀ y,xs[i]? = some y -> ∀ μ : DataW H -> Nat,BulkOk μ -> x.bulk <= μ y.1) n fun i hi => by
      have hg:=mapM_some_get hm i i (by simp [hi])
      have hlt : i < xs.length:=by omega
      rw [List.getElem?_eq_getElem hlt] at hg
      obtain ⟨x,hx1,hx2,hx3⟩:=ih e _ xs[i].1 xs[i].2 hst.1 hg fun m hm => hw m (weightsAll_mem (List.mem_map.2 ⟨xs[i],List.getElem_mem hlt,rfl⟩) m hm)
      exact ⟨x,hx1,hx2,fun y hy μ hμ => by rw [List.getElem?_eq_getElem hlt] at hy; cases hy; exact hx3 μ hμ⟩
     refine ⟨.agg (cat parts),.array hu q1 (fun x hx => ?_), ?_,fun μ hμ => ?_⟩
     ·obtain ⟨i,hi⟩:=List.getElem?_of_mem hx
      exact (q2 i x hi).1
     ·exact fit_array (fun i x hx => (q2 i x hx).2.1) (by rw [q1,hlen,hst.2])
     ·have h1:=bulk_sum (μ:=μ) (es:=parts) (ds:=xs.map (·.1)) (by simp; omega) fun i x d hx hd => by
       rw [List.getElem?_map] at hd
       cases hy : xs[i]? with
       | none => rw [hy] at hd; cases hd
       | some y => rw [hy] at hd; cases hd; exact (q2 i x hx).2.2 y hy μ hμ
      have h2:=hμ.agg (xs.map (·.1))
      simp only [AV.bulk,bulkL_cat]
      omega
end
end
end Go.AI
namespace Go.AI
open Go.RowKit Go.ChangeShapes
def RdAll (P : Program) : List TypeId -> List AV -> Prop
 | [],[] => True
 | t :: ts,a :: as => Rd P t a /\ RdAll P ts as
 | _,_ => False
section
variable {P : Program} {G : Gh} {w : World} {H : Type} {enc : TypeId × Value -> H} {base : Nat}
theorem owned_of_cells {a : AV} (hv : a.isVal = true) (h : ∀ c ∈ a.cells,owned1 c = false) : a.owned = false:=by
 unfold AV.owned
 rw [List.any_eq_false]
 intro c hc
 have : a.flat = a.cells:=by cases a <;> first | rfl | cases hv
 rw [this] at hc
 simp [h c hc]
theorem arg_rel {t : TypeId} {a : AV} {v : Value} (hr : Rd P t a) (hf : FitL G w a.cells v.cells.toList) (hok : Value.okWide P w .any base t v) : VRel G w a v /\ a.owned = false:=by
 have one : ∀ (a : AV) (v : Value),a.scalar = true -> a.cells = [a] -> (∀ cs,v ≠ .agg cs) -> FitL G w a.cells v.cells.toList -> VRel G w a v:=by
  intro a v h1 h2 h3 h4
  have h5 : v.cells = #[v]:=by cases v <;> first | rfl | exact absurd rfl (h3 _)
  rw [h2,h5] at h4
  exact h4.rel 0 a v rfl rfl
 have noAgg : ∀ (u : TypeDesc),P.underlying t = some u -> (u = .bool \/ (∃ k,u = .int k) \/ u = .string \/ ∃ e,u = .slice e) -> ∀ cs,v ≠ .agg cs:=by
  intro u hu hk cs hv
  subst hv
  rcases hk with rfl | ⟨k,rfl⟩ | rfl | ⟨e,rfl⟩ <;> simp [Value.okWide,hu,Cell.okWide,Cell.ok] at hok
 cases hr with
 | bool b h => exact ⟨one _ _ rfl rfl (noAgg _ h (.inl rfl)) hf,rfl⟩
 | int h hw => exact ⟨one _ _ rfl rfl (noAgg _ h (.inr (.inl ⟨_,rfl⟩))) hf,rfl⟩
 | str h hs => exact ⟨one _ _ rfl rfl (noAgg _ h (.inr (.inr (.inl rfl)))) hf,rfl⟩
 | slice h hl hb he => exact ⟨one _ _ rfl rfl (noAgg _ h (.inr (.inr (.inr ⟨_,rfl⟩)))) hf,rfl⟩
 | struct h hl hp =>
  refine ⟨?_,owned_of_cells rfl fun c hc => (hf.sc c hc).2⟩
  simp only [Value.okWide,h] at hok
  obtain ⟨cs,rfl,_⟩:=hok
  exact .agg _ _ (by simpa [AV.cells,Value.cells] using hf.len) (fun c hc => (hf.sc c hc).1) fun i c x h1 h2 => hf.rel i c x h1 (by simpa [Value.cells] using h2)
 | array h hl hp =>
  refine ⟨?_,owned_of_cells rfl fun c hc => (hf.sc c hc).2⟩
  simp only [Value.okWide,h] at hok
  obtain ⟨cs,rfl,_⟩:=hok
  exact .agg _ _ (by simpa [AV.cells,Value.cells] using hf.len) (fun c hc => (hf.sc c hc).1) fun i c x h1 h2 => hf.rel i c x h1 (by simpa [Value.cells] using h2)
theorem args_rel {S : List TypeId} (hS : tysOk P S = true) (hG : ∀ b,G.kind b = .imm) : ∀ (ts : List TypeId) (vs : List Value) (ds : List (DataW H)) (ps : List MemPlace),(∀ t ∈ ts,t ∈ S) ->
  DataW.TrodAll enc P w 0 (fun _ => true) true ts vs ds ps -> (∀ m ∈ DataW.weightsEach P ts ds,m <= reachBytes) -> (∀ (j : Nat) t v,ts[j]? = some t -> vs[j]? = some v -> Value.okWide P w .any base t v) ->
  ∃ as,RdAll P ts as /\ as.length = vs.length /\ (∀ (i : Nat) (a : AV) (v : Value),as[i]? = some a -> vs[i]? = some v -> VRel G w a v /\ a.owned = false) /\ ∀ μ : DataW H -> Nat,BulkOk μ -> bulkL as <= (ds.map μ).sum
 | [],vs,ds,ps,_,h,_,_ => by
  obtain ⟨rfl,rfl,rfl⟩:=trodAll_nil h
  exact ⟨[],trivial,rfl,fun i a v h => by simp at h,fun μ _ => by simp [bulkL]⟩
 | t :: ts,vs,ds,ps,hin,h,hw,hok => by
  obtain ⟨v,vs',d,ds',p,q,rfl,rfl,rfl,⟨fuel,h1⟩,h2⟩:=trodAll_cons h
  simp only [DataW.weightsEach,List.mem_append] at hw
  obtain ⟨a,ha,hf,hba⟩:=rd_of_trod hS hG fuel t _ d p (hin t (by simp)) h1 fun m hm => hw m (.inl hm)
  obtain ⟨as,g1,g2,g3,g4⟩:=args_rel hS hG ts vs' ds' q (fun t ht => hin t (by simp [ht])) h2 (fun m hm => hw m (.inr hm)) fun j t v h1 h2 => hok (j + 1) t v (by simpa using h1) (by simpa using h2)
  refine ⟨a :: as,⟨ha,g1⟩,by simp [g2],fun i x y hx hy => ?_,fun μ hμ => ?_⟩
  ·cases i with
   | zero =>
    simp at hx hy
    subst hx; subst hy
    exact arg_rel ha hf (hok 0 t v rfl rfl)
   | succ i => exact g3 i x y (by simpa using hx) (by simpa using hy)
  ·have h1:=hba μ hμ
   have h2:=g4 μ hμ
   simp only [bulkL,List.map_cons,List.sum_cons]
   omega
theorem trodAll_below (hl : laidOutB P = true) {W W' : World} (hb : Below W.heap.size W W') : ∀ (ts : List TypeId) (vs : List Value) (ds : List (DataW H)) (ps : List MemPlace),(∀ t ∈ ts,P.readableRec t = true /\ t < P.types.size) ->
  DataW.TrodAll enc P W 0 (fun _ => true) true ts vs ds ps -> (∀ x ∈ ps,x.block < W.heap.size) -> DataW.TrodAll enc P W' 0 (fun b => decide (b < W.heap.size)) true ts vs ds ps
 | [],vs,ds,ps,_,h,_ => by
  obtain ⟨rfl,rfl,rfl⟩:=trodAll_nil h
  rfl
 | t :: ts,vs,ds,ps,hr,h,hlt => by
  obtain ⟨v,vs',d,ds',p,q,rfl,rfl,rfl,h1,h2⟩:=trodAll_cons h
  exact ⟨p,q,Below.trod hl (hr t (by simp)).1 (hr t (by simp)).2 h1 hb fun x hx => hlt x (by simp [hx]),
   trodAll_below hl hb ts vs' ds' q (fun t ht => hr t (by simp [ht])) h2 fun x hx => hlt x (by simp [hx]),rfl⟩
theorem start_rel {as : List AV} {us : List Value} (hg : GOk ⟨[],fun _ => .imm⟩ w) (hlen : as.length = us.length) (hrel : ∀ (i : Nat) (a : AV) (v : Value),as[i]? = some a -> us[i]? = some v -> VRel ⟨[],fun _ => .imm⟩ w a v /\ a.owned = false) :
  CRel (fun b => b < w.heap.size) ⟨[],fun _ => .imm⟩ as [] us w:=by
 refine ⟨⟨hlen,fun i a u h1 h2 => (hrel i a u h1 h2).1,fun i a u h1 h2 => tok_nil_all (toks_owned (hrel i a u h1 h2).2 u) _ _ _⟩,⟨rfl,fun o cs b h => by simp at h,fun o o' cs cs' b h => by simp at h,fun b h => h,hg⟩,fun b => ?_⟩
 have h0 : tcnt b as us = 0:=by
  have : ¬ 0 < tcnt b as us:=fun hp => by
   obtain ⟨i,a,u,h1,h2,p,hp,ht⟩:=tcnt_pos as us hp
   have h3:=toks_owned (hrel i a u h1 h2).2 u
   have : b ∈ toks a u:=List.mem_filterMap.2 ⟨p,hp,ht⟩
   rw [h3] at this
   cases this
  omega
 rw [h0]
 simp [hcnt]
theorem law_contract {C : Checked} {f : FuncId} {fn : Func} {s : ChangeSpec} {apart handsOn : Bool} {tb : TypeId} (S : List TypeId)
  (hl : laidOutB C.prog = true) (hS : tysOk C.prog S = true) (hpar : ∀ t ∈ fn.params.toList,t ∈ S /\ C.prog.readableRec t = true /\ t < C.prog.types.size)
  (hres : fn.resultTypes = #[tb]) (htb : C.prog.underlying tb = some .bool) (hv : s.vars = [])
  (hs : ∀ (H : Type) (ds : List (DataW H)),ds.length = fn.params.size -> s.fn H ds = { results:=[.lit (.bool true)],args:=ds })
  (W : World) (hglob : GOk ⟨[],fun _ => .imm⟩ W) (base : Nat) (args : Array Value) (ds gs : List (DataW H)) (before : List MemPlace)
  (law : ∀ as,RdAll C.prog fn.params.toList as -> (∀ μ : DataW H -> Nat,BulkOk μ -> bulkL as <= (ds.map μ).sum) -> PCall C.prog f as (.bool true))
  (hval : ∀ (j : Nat) t v,fn.params[j]? = some t -> args[j]? = some v -> Value.okWide C.prog W .any base t v)
  (hW : DataW.Whole enc C.prog fn.params.toList s.vars apart W args.toList ds gs before)
  (hwt : (DataW.weightsEach C.prog (fn.params.toList ++ s.plain.varTypes C.prog) (ds ++ gs)).all (· <= reachBytes) = true) :
  Calls C.prog f args W fun e W' => ∃ v,e = .returned v /\ s.post enc C.prog fn apart true handsOn false W args v W':=by
 have hW':=hW
 obtain ⟨p,q,hA,hV,rfl,hfz,hnd⟩:=hW
 rw [hv] at hV
 have hg : gs = [] /\ q = []:=by
  cases gs with
  | nil => simp [DataW.TrodVars] at hV; exact ⟨rfl,hV⟩
  | cons g gs => simp [DataW.TrodVars] at hV
 obtain ⟨rfl,rfl⟩:=hg
 have hwt' : ∀ m ∈ DataW.weightsEach C.prog fn.params.toList ds,m <= reachBytes:=by
  intro m hm
  have e : s.plain.varTypes C.prog = []:=by
   have : s.plain.vars = []:=by rw [<- hv]; rfl
   simp [DataSpec.varTypes,this]
  rw [e,List.append_nil,List.append_nil] at hwt
  have:=List.all_eq_true.1 hwt m hm
  simpa using this
 obtain ⟨as,h1,h2,h3,h4⟩:=args_rel (G:=⟨[],fun _ => .imm⟩) (base:=base) hS (fun _ => rfl) fn.params.toList args.toList ds p (fun t ht => (hpar t ht).1) hA hwt' fun j t v hj hv => hval j t v (by simpa using hj) (by simpa using hv)
 have hc:=start_rel hglob h2 h3
 have hcall:=(law as h1 h4 []).2 _ _ W args.toList hc
 rw [Array.toArray_toList] at hcall
 refine hcall.mono fun e W' he => ?_
 obtain ⟨u,rfl,v,H',G',⟨rfl,rfl⟩,hcr,hext⟩:=he
 obtain ⟨hu,_,_⟩:=hcr.l.uncons
 have hu' : u = .bool true:=by cases hu; rfl
 subst hu'
 have hb : Below W.heap.size W W':=⟨hext.io.1,hext.io.2.1,hext.io.2.2,hext.size,fun k hk => hext.cells k hk⟩
 have hdl : ds.length = fn.params.size:=by
  have : ∀ (ts : List TypeId) (vs : List Value) (ds : List (DataW H)) (ps : List MemPlace),DataW.TrodAll enc C.prog W 0 (fun _ => true) true ts vs ds ps -> ds.length = ts.length:=by
   intro ts
   induction ts with
   | nil => intro vs ds ps h; obtain ⟨_,rfl,_⟩:=trodAll_nil h; rfl
   | cons t ts ih => intro vs ds ps h; obtain ⟨v,vs',d,ds',p,q,_,rfl,_,_,h2⟩:=trodAll_cons h; simp [ih _ _ _ h2]
  simpa using this _ _ _ _ hA
 refine ⟨_,rfl,ds,[],p ++ [],[],p,[],hW', ?_, ?_, ?_,hb.frame _,fun h => by cases h⟩
 ·rw [List.append_nil,hs H ds hdl,hres]
  exact trodAll_mk1 ⟨1,by simp [DataW.trod,Value.cells,htb]⟩
 ·rw [List.append_nil,hs H ds hdl]
  exact trodAll_below hl hb _ _ _ _ (fun t ht => (hpar t ht).2) hA fun x hx => hW'.lt x (by simp [hx])
 ·rw [List.append_nil,hs H ds hdl,hv]
  rfl
end
end Go.AI
namespace Go.AI
section
variable {P : Program} {m : Nat} {h : Hint} {ops : Array Oper} {e : Env} {H : Heap} {Q : Exit -> Kt} {ar : Option Nat}
theorem arun_mono' : ∀ (l : List Oper) (K K' : Env -> Heap -> Prop) (e : Env) (H : Heap),(∀ e H,K e H -> K' e H) -> arun P m h ops l K e H -> arun P m h ops l K' e H
 | [],K,K',e,H,hk,ha => hk e H ha
 | o :: l,K,K',e,H,hk,ha => aop_mono (fun e H => arun_mono' l K K' e H hk) ha
theorem awp_mono : ∀ (c : Code) {ar : Option Nat} (Q Q' : Exit -> Kt) (e : Env) (H : Heap),(∀ ex e H,Q ex e H -> Q' ex e H) -> awp P m h ar c Q e H -> awp P m h ar c Q' e H
 | .skip,ar,Q,Q',e,H,hq,ha => hq _ _ _ ha
 | .exit id,ar,Q,Q',e,H,hq,ha => hq _ _ _ ha
 | .ret,ar,Q,Q',e,H,hq,ha => hq _ _ _ ha
 | .region id ops draw,ar,Q,Q',e,H,hq,ha => arun_mono' _ _ _ _ _ (fun _ _ h => ⟨h.1,hq _ _ _ h.2⟩) ha
 | .seq a b,ar,Q,Q',e,H,hq,ha => awp_mono a _ _ e H (fun ex e H h => by
   cases ex with
   | normal => exact awp_mono b Q Q' e H hq h
   | _ => exact hq _ _ _ h) ha
 | .cond c a b,ar,Q,Q',e,H,hq,ha => by
  simp only [awp] at ha ⊢
  split at ha
  ·rename_i t ht
   cases t with
   | true => exact awp_mono a Q Q' e H hq ha
   | false => exact awp_mono b Q Q' e H hq ha
  ·exact ha.elim
 | .block id c,ar,Q,Q',e,H,hq,ha => awp_mono c _ _ e H (fun ex e H h => by
   cases ex with
   | exit j =>
    dsimp only at h ⊢
    split at h
    ·rename_i hj; rw [if_pos hj]; exact hq _ _ _ h
    ·rename_i hj; rw [if_neg hj]; exact hq _ _ _ h
   | _ => exact hq _ _ _ h) ha
 | .loop c,ar,Q,Q',e,H,hq,ha => by
  obtain ⟨I,μ,h0,hr⟩:=ha
  exact ⟨I,μ,h0,fun e H hi => awp_mono c _ _ e H (fun ex e H h => by
   cases ex with
   | normal => exact h
   | _ => exact hq _ _ _ h) (hr e H hi)⟩
 | .rangeFunc g ps assign body,ar,Q,Q',e,H,hq,ha => by
  obtain ⟨h1,tag,f,first,captured,h2,h3⟩:=ha
  refine ⟨h1,tag,f,first,captured,h2,h3.mono fun v H2 hp => ?_⟩
  obtain ⟨st,av,g1,g2⟩:=hp
  refine ⟨st,av,g1, ?_⟩
  rcases g2 with ⟨a,b⟩ | ⟨a,b⟩ | ⟨k,a,b⟩
  ·exact .inl ⟨a,hq _ _ _ b⟩
  ·exact .inr (.inl ⟨a,hq _ _ _ b⟩)
  ·exact .inr (.inr ⟨k,a,hq _ _ _ b⟩)
 | .scope _,ar,_,_,_,_,_,ha => ha.elim
 | .label _,ar,_,_,_,_,_,ha => ha.elim
 | .goto _,ar,_,_,_,_,_,ha => ha.elim
 | .refuse _,ar,_,_,_,_,_,ha => ha.elim
def relK (J : Nat -> Kt) (r : Nat) (Q : Exit -> Kt) (ex : Exit) : Kt:=fun e H =>
 match ex with
 | .normal => ∃ r',r' < r /\ J r' e H
 | ex => Q ex e H
theorem awp_loop_rel {c : Code} (J : Nat -> Kt) (h0 : ∃ r,J r e H) (round : ∀ r e H,J r e H -> awp P m h ar c (relK J r Q) e H) : awp P m h ar (.loop c) Q e H:=by
 have hl : ∀ (e : Env) (H : Heap),∃ r,(∃ r,J r e H) -> J r e H /\ ∀ k,J k e H -> r <= k:=fun e H => by
  by_cases he : ∃ r,J r e H
  ·obtain ⟨r,h1,h2⟩:=exists_least he
   exact ⟨r,fun _ => ⟨h1,h2⟩⟩
  ·exact ⟨0,fun h => absurd h he⟩
 refine ⟨fun e H => ∃ r,J r e H,fun e H => Classical.choose (hl e H),h0,fun e H hI => ?_⟩
 obtain ⟨h1,h2⟩:=Classical.choose_spec (hl e H) hI
 refine awp_mono c _ _ e H (fun ex e' H' hq => ?_) (round _ e H h1)
 cases ex with
 | normal =>
  obtain ⟨r',hr,hJ⟩:=hq
  refine ⟨⟨r',hJ⟩, ?_⟩
  obtain ⟨_,h4⟩:=Classical.choose_spec (hl e' H') ⟨r',hJ⟩
  exact Nat.lt_of_le_of_lt (h4 r' hJ) hr
 | _ => exact hq
end
end Go.AI
namespace Go.AI
def bitsM (m : Nat) : List Nat:=(List.range (m.log2 + 1)).filter fun i => m.testBit i
def lvM : Nat -> List Nat -> List (Nat × List Tmp)
 | _,[] => []
 | k,m :: l => (k,bitsM m) :: lvM (k + 1) l
def hm (l : List Nat) (tk mt pc : List Tmp) : Hint:=⟨lvM 0 l,tk,mt,[],pc,[],[]⟩
def hx (l : List Nat) (tk mt : List Tmp) (fz : List (Nat × List (Tmp × Option Nat × Bool))) (pc : List Tmp) (gc : List (Nat × Nat)) (dy : List Nat) : Hint:=⟨lvM 0 l,tk,mt,fz,pc,gc,dy⟩
end Go.AI
namespace Go.AI
theorem w64 {n : Int} (h1 : -9223372036854775808 <= n) (h2 : n <= 9223372036854775807) : IntKind.i64.wrap n = n:=IntWalk.i64_in _ ⟨h1,h2⟩
theorem w64s {k : Nat} (h : k < 9223372036854775807) : IntKind.i64.wrap ((k : Int) + 1) = ((k + 1 : Nat) : Int):=by
 rw [w64 (by omega) (by omega)]; rfl
section
variable {P : Program} {m : Nat} {h : Hint} {e : Env} {H : Heap} {Q : Exit -> Kt} {ops : Array Oper} {ar : Option Nat}
def At (e e' : Env) (H H' : Heap) : Prop:=e = e' /\ H = H'
def forK (n : Nat) (E : Nat -> Env) (HH : Nat -> Heap) (k : Nat) (Q : Exit -> Kt) (ex : Exit) : Kt:=fun e H =>
 match ex with
 | .normal => k < n /\ At e (E (k + 1)) H (HH (k + 1))
 | ex => Q ex e H
@[go_sem] theorem forK_normal (n : Nat) (E : Nat -> Env) (HH : Nat -> Heap) (k : Nat) : forK n E HH k Q .normal e H = (k < n /\ At e (E (k + 1)) H (HH (k + 1))):=Eq.trans rfl rfl
@[go_sem] theorem forK_exit (n : Nat) (E : Nat -> Env) (HH : Nat -> Heap) (k j : Nat) : forK n E HH k Q (.exit j) = Q (.exit j):=Eq.trans rfl rfl
theorem awp_for {c : Code} (n : Nat) (E : Nat -> Env) (HH : Nat -> Heap) (he : e = E 0) (hH : H = HH 0) (round : ∀ k,k <= n -> awp P m h ar c (forK n E HH k Q) (E k) (HH k)) : awp P m h ar (.loop c) Q e H:=by
 subst he; subst hH
 refine awp_loop_rel (fun r e H => ∃ k,k + r = n /\ e = E k /\ H = HH k) ⟨n,0,by omega,rfl,rfl⟩ fun r e H hJ => ?_
 obtain ⟨k,hk,rfl,rfl⟩:=hJ
 refine awp_mono c _ _ _ _ (fun ex e H hq => ?_) (round k (by omega))
 cases ex with
 | normal =>
  obtain ⟨h1,rfl,rfl⟩:=hq
  exact ⟨r - 1,by omega,k + 1,by omega,rfl,rfl⟩
 | _ => exact hq
def whK {σ : Type} (E : σ -> Env) (HH : σ -> Heap) (I : σ -> Prop) (μ : σ -> Nat) (s : σ) (Q : Exit -> Kt) (ex : Exit) : Kt:=fun e H =>
 match ex with
 | .normal => ∃ s',I s' /\ μ s' < μ s /\ At e (E s') H (HH s')
 | ex => Q ex e H
section
variable {σ : Type}
@[go_sem] theorem whK_normal (E : σ -> Env) (HH : σ -> Heap) (I : σ -> Prop) (μ : σ -> Nat) (s : σ) : whK E HH I μ s Q .normal e H = ∃ s',I s' /\ μ s' < μ s /\ At e (E s') H (HH s'):=Eq.trans rfl rfl
@[go_sem] theorem whK_ret (E : σ -> Env) (HH : σ -> Heap) (I : σ -> Prop) (μ : σ -> Nat) (s : σ) : whK E HH I μ s Q .ret = Q .ret:=Eq.trans rfl rfl
@[go_sem] theorem whK_exit (E : σ -> Env) (HH : σ -> Heap) (I : σ -> Prop) (μ : σ -> Nat) (s : σ) (j : Nat) : whK E HH I μ s Q (.exit j) = Q (.exit j):=Eq.trans rfl rfl
theorem awp_wh {c : Code} (E : σ -> Env) (HH : σ -> Heap) (I : σ -> Prop) (μ : σ -> Nat) (s : σ) (h0 : I s) (he : e = E s) (hH : H = HH s) (round : ∀ s,I s -> awp P m h ar c (whK E HH I μ s Q) (E s) (HH s)) : awp P m h ar (.loop c) Q e H:=by
 subst he; subst hH
 refine awp_loop_rel (fun r e H => ∃ s,I s /\ μ s = r /\ e = E s /\ H = HH s) ⟨μ s,s,h0,rfl,rfl,rfl⟩ fun r e H hJ => ?_
 obtain ⟨s,hs,rfl,rfl,rfl⟩:=hJ
 refine awp_mono c _ _ _ _ (fun ex e H hq => ?_) (round s hs)
 cases ex with
 | normal =>
  obtain ⟨s',h1,h2,rfl,rfl⟩:=hq
  exact ⟨μ s',h2,s',h1,rfl,rfl,rfl⟩
 | _ => exact hq
end
section
variable {α σ ρ : Type}
def scanK (F : σ -> List α -> ρ) (E : Nat -> σ -> Env) (HH : Nat -> σ -> Heap) (I : Nat -> σ -> Prop) (k : Nat) (s : σ) (x : α) (xs : List α) (Q : Exit -> Kt) (ex : Exit) : Kt:=fun e H =>
 match ex with
 | .normal => ∃ s',F s (x :: xs) = F s' xs /\ I (k + 1) s' /\ At e (E (k + 1) s') H (HH (k + 1) s')
 | ex => Q ex e H
@[go_sem] theorem scanK_normal (F : σ -> List α -> ρ) (E : Nat -> σ -> Env) (HH : Nat -> σ -> Heap) (I : Nat -> σ -> Prop) (k : Nat) (s : σ) (x : α) (xs : List α) : scanK F E HH I k s x xs Q .normal e H = ∃ s',F s (x :: xs) = F s' xs /\ I (k + 1) s' /\ At e (E (k + 1) s') H (HH (k + 1) s'):=Eq.trans rfl rfl
@[go_sem] theorem scanK_ret (F : σ -> List α -> ρ) (E : Nat -> σ -> Env) (HH : Nat -> σ -> Heap) (I : Nat -> σ -> Prop) (k : Nat) (s : σ) (x : α) (xs : List α) : scanK F E HH I k s x xs Q .ret = Q .ret:=Eq.trans rfl rfl
@[go_sem] theorem scanK_exit (F : σ -> List α -> ρ) (E : Nat -> σ -> Env) (HH : Nat -> σ -> Heap) (I : Nat -> σ -> Prop) (k : Nat) (s : σ) (x : α) (xs : List α) (j : Nat) : scanK F E HH I k s x xs Q (.exit j) = Q (.exit j):=Eq.trans rfl rfl
def endlK (Q : Exit -> Kt) (ex : Exit) : Kt:=fun e H =>
 match ex with
 | .normal => False
 | ex => Q ex e H
@[go_sem] theorem endlK_exit (j : Nat) : endlK Q (.exit j) = Q (.exit j):=Eq.trans rfl rfl
theorem awp_lst {c : Code} (l : List α) (F : σ -> List α -> ρ) (I : Nat -> σ -> Prop) (E : Nat -> σ -> Env) (HH : Nat -> σ -> Heap) (s0 : σ) (hl : l.length <= 9223372036854775807) (h0 : I 0 s0) (he : e = E 0 s0) (hH : H = HH 0 s0)
  (round : ∀ k s x xs,l.drop k = x :: xs -> l[k]? = some x -> I k s -> F s0 l = F s (x :: xs) -> 0 <= (k : Int) -> (k : Int) < (l.length : Int) -> IntKind.i64.wrap ((k : Int) + 1) = ((k + 1 : Nat) : Int) -> awp P m h ar c (scanK F E HH I k s x xs Q) (E k s) (HH k s))
  (fin : ∀ s,I l.length s -> F s0 l = F s [] -> awp P m h ar c (endlK Q) (E l.length s) (HH l.length s)) : awp P m h ar (.loop c) Q e H:=by
 subst he; subst hH
 refine awp_loop_rel (fun r e H => ∃ k s,k + r = l.length /\ I k s /\ F s0 l = F s (l.drop k) /\ e = E k s /\ H = HH k s) ⟨l.length,0,s0,by omega,h0,by simp,rfl,rfl⟩ fun r e H hJ => ?_
 obtain ⟨k,s,hk,hI,hF,rfl,rfl⟩:=hJ
 by_cases hlt : k < l.length
 ·have hx:=List.getElem?_eq_getElem hlt
  have hd : l.drop k = l[k] :: l.drop (k + 1):=List.drop_eq_getElem_cons hlt
  rw [hd] at hF
  refine awp_mono c _ _ _ _ (fun ex e H hq => ?_) (round k s _ _ hd hx hI hF (by omega) (by omega) (w64s (by omega)))
  cases ex with
  | normal =>
   obtain ⟨s',h1,h2,rfl,rfl⟩:=hq
   exact ⟨r - 1,by omega,k + 1,s',by omega,h2,hF.trans h1,rfl,rfl⟩
  | _ => exact hq
 ·have hk' : k = l.length:=by omega
  subst hk'
  rw [List.drop_length] at hF
  refine awp_mono c _ _ _ _ (fun ex e H hq => ?_) (fin s hI hF)
  cases ex with
  | normal => exact hq.elim
  | _ => exact hq
end
end
section
variable {P : Program} {t : TypeId} {a b : AV} {r : Bool} {d : Tmp} {K : Kt} {e : Env} {H : Heap}
end
mutual
def AV.fit : AV -> Prop
 | .sl _ es => es.length <= 9223372036854775807 /\ fitL es
 | .agg cs => fitL cs
 | .tup vs => fitL vs
 | _ => True
def fitL : List AV -> Prop
 | [] => True
 | v :: vs => v.fit /\ fitL vs
end
theorem fitL_iff {vs : List AV} : fitL vs ↔ ∀ v ∈ vs,v.fit:=by
 induction vs with
 | nil => simp [fitL]
 | cons x xs ih => simp [fitL,ih]
theorem fit_of_cells {a : AV} (h : ∀ c ∈ a.cells,c.fit) : a.fit:=by
 cases a with
 | agg cs => exact fitL_iff.2 h
 | _ => exact h _ (by simp [AV.cells])
theorem VRel.fit {G : Gh} {w : World} {a : AV} {v : Value} (h : VRel G w a v) : a.fit:=by
 induction h with
 | sl own es sz b q cap u hsz hown hl hm h hu ih =>
  refine ⟨Nat.le_trans hl hm,fitL_iff.2 fun x hx => fit_of_cells fun c hc => ?_⟩
  have : c ∈ cat es:=List.mem_flatMap.2 ⟨x,hx,hc⟩
  obtain ⟨i,hi⟩:=List.getElem?_of_mem this
  exact ih i c hi
 | slnil own => exact ⟨by simp,trivial⟩
 | slany own a => exact ⟨by simp,trivial⟩
 | agg cs vs hl hs h ih =>
  refine fitL_iff.2 fun c hc => ?_
  obtain ⟨i,hi⟩:=List.getElem?_of_mem hc
  have hlt:=(List.getElem?_eq_some_iff.1 hi).1
  exact ih i c _ hi (Array.getElem?_eq_getElem (by omega))
 | tup cs vs hl hs h ih =>
  refine fitL_iff.2 fun c hc => ?_
  obtain ⟨i,hi⟩:=List.getElem?_of_mem hc
  have hlt:=(List.getElem?_eq_some_iff.1 hi).1
  exact ih i c _ hi (Array.getElem?_eq_getElem (by omega))
 | _ => exact trivial
theorem CRel.fit {F : Nat -> Prop} {G : Gh} {w : World} {vs : List AV} {H : Heap} {us : List Value} (h : CRel F G vs H us w) : fitL vs:=by
 refine fitL_iff.2 fun a ha => ?_
 obtain ⟨i,hi⟩:=List.getElem?_of_mem ha
 have hlt:=(List.getElem?_eq_some_iff.1 hi).1
 have:=h.l.len
 exact (h.l.rel i a _ hi (List.getElem?_eq_getElem (by omega))).fit
theorem ACall.fit {P : Program} {f : FuncId} {vs : List AV} {H : Heap} {R : AV -> Heap -> Prop} (hcal : callable P f = true) (h : fitL vs -> ACall P f vs H R) : ACall P f vs H R :=
 ⟨hcal,fun F G w us hc => (h hc.fit).2 F G w us hc⟩
theorem PCall.fit {P : Program} {f : FuncId} {vs : List AV} {v : AV} (hcal : callable P f = true) (h : fitL vs -> PCall P f vs v) : PCall P f vs v:=fun H =>
 ⟨hcal,fun F G w us hc => (h hc.fit H).2 F G w us hc⟩
theorem QCall.fit {P : Program} {f : FuncId} {vs : List AV} {Q : AV -> Prop} (hcal : callable P f = true) (h : fitL vs -> QCall P f vs Q) : QCall P f vs Q:=fun H =>
 ⟨hcal,fun F G w us hc => (h hc.fit H).2 F G w us hc⟩
section
variable {P : Program} {t e : TypeId} {a : AV}
theorem Rd.int_of {k : IntKind} (hu : P.underlying t = some (.int k)) (h : Rd P t a) : ∃ n,a = .int k n /\ (k.min <= n /\ n <= k.max):=by
 cases h with
 | int h hw => rw [hu] at h; cases h; exact ⟨_,rfl,hw⟩
 | bool b h => rw [hu] at h; cases h
 | str h => rw [hu] at h; cases h
 | slice h => rw [hu] at h; cases h
 | struct h => rw [hu] at h; cases h
 | array h => rw [hu] at h; cases h
theorem Rd.bool_of (hu : P.underlying t = some .bool) (h : Rd P t a) : ∃ b,a = .bool b /\ True:=by
 cases h with
 | int h hw => rw [hu] at h; cases h
 | bool b h => exact ⟨_,rfl,trivial⟩
 | str h => rw [hu] at h; cases h
 | slice h => rw [hu] at h; cases h
 | struct h => rw [hu] at h; cases h
 | array h => rw [hu] at h; cases h
theorem Rd.str_of (hu : P.underlying t = some .string) (h : Rd P t a) : ∃ s,a = .str s /\ s.size <= reachBytes:=by
 cases h with
 | int h hw => rw [hu] at h; cases h
 | bool b h => rw [hu] at h; cases h
 | str h hs => exact ⟨_,rfl,hs⟩
 | slice h => rw [hu] at h; cases h
 | struct h => rw [hu] at h; cases h
 | array h => rw [hu] at h; cases h
theorem Rd.list {α : Type} {f : α -> AV} {ok : α -> Prop} (hu : P.underlying t = some (.slice e)) (hd : ∀ x,Rd P e x -> ∃ y,x = f y /\ ok y) (h : Rd P t a) :
  ∃ l : List α,a = .sl none (l.map f) /\ l.length * P.bytesOf e <= reachBytes /\ ∀ x ∈ l,ok x:=by
 cases h with
 | slice h hl hb he =>
  rw [hu] at h; cases h
  rename_i es
  have : ∃ l : List α,es = l.map f /\ ∀ x ∈ l,ok x:=by
   clear hl hb
   induction es with
   | nil => exact ⟨[],rfl,fun x hx => by simp at hx⟩
   | cons x xs ih =>
    obtain ⟨y,rfl,hy⟩:=hd x (he x (by simp))
    obtain ⟨l,rfl,hl⟩:=ih fun x hx => he x (by simp [hx])
    exact ⟨y :: l,rfl,fun z hz => by
     rcases List.mem_cons.1 hz with rfl | hz
     ·exact hy
     ·exact hl z hz⟩
  obtain ⟨l,rfl,hok⟩:=this
  exact ⟨l,rfl,by simpa using hb,hok⟩
 | int h hw => rw [hu] at h; cases h
 | bool b h => rw [hu] at h; cases h
 | str h => rw [hu] at h; cases h
 | struct h => rw [hu] at h; cases h
 | array h => rw [hu] at h; cases h
theorem Rd.list_raw (hu : P.underlying t = some (.slice e)) (h : Rd P t a) : ∃ es : List AV,a = .sl none es /\ es.length * P.bytesOf e <= reachBytes /\ ∀ x ∈ es,Rd P e x:=by
 cases h with
 | slice h hl hb he =>
  rw [hu] at h; cases h
  exact ⟨_,rfl,hb,he⟩
 | int h hw => rw [hu] at h; cases h
 | bool b h => rw [hu] at h; cases h
 | str h => rw [hu] at h; cases h
 | struct h => rw [hu] at h; cases h
 | array h => rw [hu] at h; cases h
theorem list_of {α : Type} {f : α -> AV} {ok : α -> Prop} {es : List AV} (h : ∀ x ∈ es,∃ y,x = f y /\ ok y) : ∃ l : List α,es = l.map f /\ ∀ x ∈ l,ok x:=by
 induction es with
 | nil => exact ⟨[],rfl,fun x hx => by simp at hx⟩
 | cons x xs ih =>
  obtain ⟨y,rfl,hy⟩:=h x (by simp)
  obtain ⟨l,rfl,hl⟩:=ih fun x hx => h x (by simp [hx])
  exact ⟨y :: l,rfl,fun z hz => by
   rcases List.mem_cons.1 hz with rfl | hz
   ·exact hy
   ·exact hl z hz⟩
theorem sl_size {o : Option Nat} {es cs : List AV} (h : AV.sl o es ∈ cs) : SizeOf.sizeOf es < SizeOf.sizeOf (AV.agg cs):=by
 have h1:=List.sizeOf_lt_of_mem h
 have h2 : SizeOf.sizeOf (AV.agg cs) = 1 + SizeOf.sizeOf cs:=by simp
 have h3 : SizeOf.sizeOf (AV.sl o es) = 1 + SizeOf.sizeOf o + SizeOf.sizeOf es:=by simp
 omega
theorem bulk_mem {a : AV} {l : List AV} (h : a ∈ l) : a.bulk <= bulkL l:=by
 induction l with
 | nil => cases h
 | cons x l ih =>
  simp only [bulkL]
  rcases List.mem_cons.1 h with rfl | h
  ·omega
  ·have:=ih h; omega
theorem bulkL_part (l : List AV) (a n : Nat) : bulkL ((l.drop a).take n) <= bulkL l:=by
 have h1:=bulkL_append ((l.drop a).take n) ((l.drop a).drop n)
 have h2:=bulkL_append (l.take a) (l.drop a)
 rw [List.take_append_drop] at h1 h2
 omega
theorem bulk_cnt {α : Type} {f : α -> AV} (hf : ∀ x,1 <= (f x).bulk) (l : List α) : l.length <= bulkL (l.map f):=by
 induction l with
 | nil => simp
 | cons x l ih =>
  have:=hf x
  simp only [List.length_cons,List.map_cons,bulkL]
  omega
theorem bulk_str {s : ByteArray} {l : List AV} {B : Nat} (h : AV.str s ∈ l) (hb : bulkL l <= B) : s.size <= B:=by
 have:=bulk_mem h
 simp only [AV.bulk] at this
 omega
theorem bulk_sl {o : Option Nat} {es l : List AV} {B : Nat} (h : AV.sl o es ∈ l) (hb : bulkL l <= B) : bulkL es <= B:=by
 have:=bulk_mem h
 simp only [AV.bulk] at this
 omega
def styps (P : Program) (t : TypeId) : Option (List TypeId) :=
 match P.underlying t with
 | some (.struct fs) => some (fs.toList.map (·.type))
 | some (.array n e) => some (List.replicate n e)
 | _ => none
theorem rdAll_get {ts : List TypeId} {ps : List AV} (hl : ps.length = ts.length) (h : ∀ (i : Nat) (t : TypeId) (x : AV),ts[i]? = some t -> ps[i]? = some x -> Rd P t x) : RdAll P ts ps:=by
 induction ts generalizing ps with
 | nil => cases ps with
  | nil => trivial
  | cons => simp at hl
 | cons t ts ih => cases ps with
  | nil => simp at hl
  | cons p ps => exact ⟨h 0 t p rfl rfl,ih (by simpa using hl) fun i t x h1 h2 => h (i + 1) t x (by simpa using h1) (by simpa using h2)⟩
theorem Rd.unpack {ts : List TypeId} (hs : styps P t = some ts) (h : Rd P t a) : ∃ ps,a = .agg (cat ps) /\ RdAll P ts ps:=by
 unfold styps at hs
 cases h with
 | struct h hl hp =>
  rw [h] at hs; cases hs
  refine ⟨_,rfl,rdAll_get (by simpa using hl) fun i t x h1 h2 => ?_⟩
  rw [List.getElem?_map] at h1
  rename_i fs _
  cases hf : fs.toList[i]? with
  | none => rw [hf] at h1; cases h1
  | some f => rw [hf] at h1; cases h1; exact hp i f x (by simpa using hf) h2
 | array h hl hp =>
  rw [h] at hs; cases hs
  refine ⟨_,rfl,rdAll_get (by simpa using hl) fun i t x h1 h2 => ?_⟩
  have:=List.eq_of_mem_replicate (List.mem_of_getElem? h1)
  subst this
  exact hp x (List.mem_of_getElem? h2)
 | int h hw => rw [h] at hs; cases hs
 | bool b h => rw [h] at hs; cases hs
 | str h => rw [h] at hs; cases hs
 | slice h => rw [h] at hs; cases hs
end
end Go.AI
namespace Go.AI
theorem hplain (h : Hint) (a : h.gc = []) (b : h.fz = []) (c : h.dy = []) : (∀ k,h.ct k = none) /\ (∀ k,h.at k = []) /\ (∀ k,h.dn k = false):=by
 refine ⟨fun k => ?_,fun k => ?_,fun k => ?_⟩
 ·simp [Hint.ct,a]
 ·simp [Hint.at,b]
 ·simp [Hint.dn,Hint.da,Hint.mv,c]
structure FK (P : Program) (f : FuncId) (fn : Func) (h : Hint) : Prop where
 m : P.follows .mixedOrders = true
 d : fn.body.any (drawsOk h) = true
 g : P.funcs[f]? = some fn
 c : callable P f = true
end Go.AI
namespace Go.AI
theorem pure_borrow1 (c : AV) : (borrow1 c).pure = c.pure:=by cases c <;> rfl
theorem pureL_borrow1 (cs : List AV) : pureL (cs.map borrow1) = pureL cs:=by
 induction cs with
 | nil => rfl
 | cons c cs ih => simp [pureL,pure_borrow1,ih]
theorem pure_borrow0 (a : AV) : (borrow0 a).pure = a.pure:=by
 cases a <;> first | rfl | exact pureL_borrow1 _
theorem pure_borrow (a : AV) : a.borrow.pure = a.pure:=by
 cases a with
 | tup vs =>
  show pureL (vs.map borrow0) = pureL vs
  induction vs with
  | nil => rfl
  | cons c cs ih => simp [pureL,pure_borrow0,ih]
 | agg cs => exact pureL_borrow1 _
 | _ => rfl
theorem PCall.ofB {P : Program} {f : FuncId} {fn : Func} {c : Code} {vs : List AV} {v : AV} (h : Hint) (hm : P.follows .mixedOrders = true) (hd : fn.body.any (drawsOk h) = true) (hf : P.funcs[f]? = some fn) (hb : fn.body = some c) (hcal : callable P f = true)
  (hn : vs.length <= fn.ntmps) (hp : pureL vs = true) (hv : v.pure = true) (ha : awp P fn.ntmps h none c (QRet P fn.ntmps fn.results fun v' _ => v'.borrow = v) (argsFrom 0 vs) []) : PCall P f vs v:=fun H =>
 ⟨hcal,fun F G w us hc => Calls.mono (calls_of_awp (.inr rfl) hm hd hf hb hn ha (hc.hide (pureL_mem hp))) fun e w' he => by
  obtain ⟨u,rfl,v',H2,G',rfl,hcr,hext⟩:=he
  obtain ⟨h1,h2⟩:=hc.unhide (by rw [pure_borrow] at hv; exact hv) hcr hext
  exact ⟨u,rfl,_,H,_,⟨rfl,rfl⟩,by simpa using h1.lend,h2⟩⟩
@[go_sem] theorem borrow0_agg (cs : List AV) : borrow0 (.agg cs) = .agg (cs.map borrow1):=rfl
@[go_sem] theorem borrow0_int (k : IntKind) (n : Int) : borrow0 (.int k n) = .int k n:=rfl
@[go_sem] theorem borrow0_bool (b : Bool) : borrow0 (.bool b) = .bool b:=rfl
@[go_sem] theorem borrow0_sl (o : Option Nat) (es : List AV) : borrow0 (.sl o es) = .sl none es:=rfl
@[go_sem] theorem spliceN_cons (c x : AV) (cs xs : List AV) : spliceN (c :: cs) (x :: xs) = x :: spliceN cs xs:=by
 simp [spliceN,splice]
@[go_sem] theorem spliceN_nil (cs : List AV) : spliceN cs [] = cs:=by simp [spliceN,splice]
@[go_sem] theorem scalar_sl (o : Option Nat) (es : List AV) : (AV.sl o es).scalar = true:=rfl
def closedL (n : Nat) : Heap -> Bool
 | [] => true
 | some cs :: r => bndL n cs && closedL n r
 | none :: r => closedL n r
theorem closedL_eq (n : Nat) (H : Heap) : closedL n H = H.all fun o => match o with
 | some cs => bndL n cs
 | none => true:=by
 induction H with
 | nil => rfl
 | cons o r ih => cases o <;> simp [closedL,ih]
@[go_sem] theorem closedB_L (H : Heap) : closedB H = closedL H.length H:=(closedL_eq _ _).symm
@[go_sem] theorem closedL_nil (n : Nat) : closedL n [] = true:=rfl
@[go_sem] theorem closedL_some (n : Nat) (cs : List AV) (r : Heap) : closedL n (some cs :: r) = (bndL n cs && closedL n r):=rfl
@[go_sem] theorem bndL_nil' (k : Nat) : bndL k [] = true:=rfl
@[go_sem] theorem bndL_cons' (k : Nat) (v : AV) (vs : List AV) : bndL k (v :: vs) = (v.bnd k && bndL k vs):=rfl
@[go_sem] theorem bnd_ptr (k a b : Nat) : (AV.ptr a b).bnd k = decide (a < k):=rfl
@[go_sem] theorem bnd_int (k : Nat) (i : IntKind) (n : Int) : (AV.int i n).bnd k = true:=rfl
@[go_sem] theorem bnd_sl (k : Nat) (o : Option Nat) (es : List AV) : (AV.sl o es).bnd k = bndL k es:=rfl
def frzS (r : Option (AV × Heap)) (t : Tmp) (zs : List (Tmp × Option Nat × Bool)) (Q : Exit -> Kt) (e : Env) (H : Heap) : Prop :=
 match r with
 | some (v,H') => frzK zs Q ((t,v) :: e) H'
 | none => frzK zs Q e H
@[go_sem] theorem frzK_S (t : Tmp) (ag : Bool) (zs : List (Tmp × Option Nat × Bool)) (Q : Exit -> Kt) (e : Env) (H : Heap) : frzK ((t,none,ag) :: zs) Q e H = frzS (frzSlot ag (look e t) H) t zs Q e H:=by
 rw [frzK_cons]
 unfold frz1 frzS
 dsimp only
 cases frzSlot ag (look e t) H with
 | none => rfl
 | some p => rfl
@[go_sem] theorem frzS_some (v : AV) (H' : Heap) (t : Tmp) (zs : List (Tmp × Option Nat × Bool)) (Q : Exit -> Kt) (e : Env) (H : Heap) : frzS (some (v,H')) t zs Q e H = frzK zs Q ((t,v) :: e) H':=Eq.trans rfl rfl
@[go_sem] theorem cat_nil' : cat [] = []:=rfl
section
variable {α : Type} {f : α -> List AV} {n : Nat}
theorem drop_at {l : List α} {k : Nat} {x : α} (hx : l[k]? = some x) : l.drop k = x :: l.drop (k + 1):=by
 obtain ⟨h,rfl⟩:=List.getElem?_eq_some_iff.1 hx
 exact List.drop_eq_getElem_cons h
theorem chunk_ones (cs : List AV) : chunk false 1 cs.length cs = cs:=by
 induction cs with
 | nil => rfl
 | cons x xs ih => simp [chunk,ih]
end
end Go.AI
namespace Go.AI
attribute [go_sem] Nat.reduceEqDiff Nat.reduceLT Nat.reduceAdd Nat.reduceSub Nat.reduceMul Nat.reduceBEq Nat.reduceLeDiff Nat.reduceDvd reduceCtorEq Int.reduceToNat Int.reduceLT Int.reduceLE
attribute [go_sem] Nat.le_refl Int.le_refl false_implies implies_true frzSlot List.take_length List.mem_cons List.not_mem_nil or_false forall_eq_or_imp forall_eq List.range_succ List.range_zero exists_eq_left' Option.some.injEq
attribute [go_sem ↓] reduceIte
attribute [go_sem] Bool.not_true Bool.not_false
section
variable {P : Program} {f : FuncId} {fn : Func} {h : Hint} {c : Code} {vs : List AV} {v : AV} {Q : AV -> Prop} {R : AV -> Heap -> Prop} {H : Heap}
theorem pC (k : FK P f fn h) (hb : fn.body = some c) (ha : awp P fn.ntmps h none c (QRet P fn.ntmps fn.results fun v' _ => v' = v) (argsFrom 0 vs) []) (hn : vs.length.ble fn.ntmps = true:=by rfl) (hp : pureL vs = true:=by simp [pureL,AV.pure,go_sem]) (hv : v.pure = true:=by rfl) : PCall P f vs v :=
 PCall.of h k.m k.d k.g hb k.c (Nat.le_of_ble_eq_true hn) hp hv ha
theorem pB (k : FK P f fn h) (hb : fn.body = some c) (ha : awp P fn.ntmps h none c (QRet P fn.ntmps fn.results fun v' _ => v'.borrow = v) (argsFrom 0 vs) []) (hn : vs.length.ble fn.ntmps = true:=by rfl) (hp : pureL vs = true:=by simp [pureL,AV.pure,go_sem]) (hv : v.pure = true:=by simp [pureL,AV.pure,go_sem]) : PCall P f vs v :=
 PCall.ofB h k.m k.d k.g hb k.c (Nat.le_of_ble_eq_true hn) hp hv ha
theorem qC (k : FK P f fn h) (hb : fn.body = some c) (ha : awp P fn.ntmps h none c (QRet P fn.ntmps fn.results fun v' _ => v'.pure = true /\ Q v') (argsFrom 0 vs) []) (hn : vs.length.ble fn.ntmps = true:=by rfl) (hp : pureL vs = true:=by simp [pureL,AV.pure,go_sem]) : QCall P f vs Q :=
 QCall.of h k.m k.d k.g hb k.c (Nat.le_of_ble_eq_true hn) hp ha
theorem aC (k : FK P f fn h) (hb : fn.body = some c) (ha : awp P fn.ntmps h none c (QRet P fn.ntmps fn.results R) (argsFrom 0 vs) H) (hg : h.gc = []:=by rfl) (hn : vs.length.ble fn.ntmps = true:=by rfl) : ACall P f vs H R :=
 ACall.of h hg k.m k.d k.g hb k.c (Nat.le_of_ble_eq_true hn) ha
theorem aN (k : FK P f fn h) (hb : fn.body = some c) (ha : awp P fn.ntmps h none c (QRet P fn.ntmps fn.results R) (argsFrom 0 vs) []) (hn : vs.length.ble fn.ntmps = true:=by rfl) : ACall P f vs [] R :=
 ⟨k.c,fun F G w us hc => calls_of_awp (.inr (List.length_eq_zero_iff.1 hc.h.len)) k.m k.d k.g hb (Nat.le_of_ble_eq_true hn) ha hc⟩
end
section
variable {P : Program} {f : FuncId} {vs : List AV} {d : Option Tmp} {K A B : Kt} {e : Env} {H : Heap} {v : AV} {t b : Bool}
theorem pK (hc : PCall P f vs v) (hk : K (put d v e) H) : PCallK P f vs d K e H:=⟨v,hc,hk⟩
theorem cS (ht : t = true -> A e H) (hf : t = false -> B e H) : condK (.bool t) A B e H:=condK_split _ _ _ ht hf
theorem gS (ht : t = b -> A e H) (hf : t = (!b) -> B e H) : gsel (.bool t) b A B e H:=gsel_split _ _ _ _ ht hf
end
theorem blen (s : ByteArray) : s.data.toList.length = s.size:=by
 have : s.size = s.data.size:=rfl
 rw [this,Array.length_toList]
theorem drop_len {α : Type} {l : List α} {k : Nat} {x : α} {xs : List α} (h : l.drop k = x :: xs) : l.length = k + xs.length + 1:=by
 have:=congrArg List.length h
 simp at this; omega
@[go_sem] theorem At_self (e : Env) (H : Heap) : At e e H H = True:=by simp [At]
section
variable {P : Program} {m : Nat} {h : Hint} {e : Env} {H : Heap} {Q : Exit -> Kt} {ops : Array Oper} {ar : Option Nat} {α σ ρ : Type}
def allK (F : List α -> ρ) (E : Nat -> Env) (HH : Heap) (k : Nat) (x : α) (xs : List α) (Q : Exit -> Kt) (ex : Exit) : Kt:=fun e H =>
 match ex with
 | .normal => F (x :: xs) = F xs /\ At e (E (k + 1)) H HH
 | ex => Q ex e H
@[go_sem] theorem allK_normal (F : List α -> ρ) (E : Nat -> Env) (HH : Heap) (k : Nat) (x : α) (xs : List α) : allK F E HH k x xs Q .normal e H = (F (x :: xs) = F xs /\ At e (E (k + 1)) H HH):=Eq.trans rfl rfl
@[go_sem] theorem allK_ret (F : List α -> ρ) (E : Nat -> Env) (HH : Heap) (k : Nat) (x : α) (xs : List α) : allK F E HH k x xs Q .ret = Q .ret:=Eq.trans rfl rfl
@[go_sem] theorem allK_exit (F : List α -> ρ) (E : Nat -> Env) (HH : Heap) (k : Nat) (x : α) (xs : List α) (j : Nat) : allK F E HH k x xs Q (.exit j) = Q (.exit j):=Eq.trans rfl rfl
theorem awp_all {c : Code} (l : List α) (F : List α -> ρ) (E : Nat -> Env) (hl : l.length <= 9223372036854775807) (he : e = E 0)
  (round : ∀ k x xs,l.drop k = x :: xs -> l[k]? = some x -> F l = F (x :: xs) -> 0 <= (k : Int) -> (k : Int) < (l.length : Int) -> IntKind.i64.wrap ((k : Int) + 1) = ((k + 1 : Nat) : Int) -> awp P m h ar c (allK F E H k x xs Q) (E k) H)
  (fin : F l = F [] -> ¬ (l.length : Int) < (l.length : Int) -> awp P m h ar c (endlK Q) (E l.length) H) : awp P m h ar (.loop c) Q e H:=by
 refine awp_lst l (fun (_ : Unit) l => F l) (fun _ _ => True) (fun k _ => E k) (fun _ _ => H) () hl trivial he rfl (fun k _ x xs h1 h2 _ h4 h5 h6 h7 => ?_) fun _ _ h1 => fin h1 (Int.lt_irrefl _)
 refine awp_mono c _ _ _ _ (fun ex e H hq => ?_) (round k x xs h1 h2 h4 h5 h6 h7)
 cases ex with
 | normal => exact ⟨(),hq.1,trivial,hq.2⟩
 | _ => exact hq
theorem awp_alls {c : Code} (s : ByteArray) (F : List UInt8 -> ρ) (E : Nat -> Env) (hl : s.size <= 9223372036854775807) (he : e = E 0)
  (round : ∀ k x xs,s.data.toList.drop k = x :: xs -> (s.data[k]?).getD 0 = x -> F s.data.toList = F (x :: xs) -> 0 <= (k : Int) -> (k : Int) < (s.size : Int) -> IntKind.i64.wrap ((k : Int) + 1) = ((k + 1 : Nat) : Int) -> s.size = k + xs.length + 1 -> awp P m h ar c (allK F E H k x xs Q) (E k) H)
  (fin : F s.data.toList = F [] -> ¬ (s.size : Int) < (s.size : Int) -> awp P m h ar c (endlK Q) (E s.size) H) : awp P m h ar (.loop c) Q e H:=by
 refine awp_all s.data.toList F E (by rw [blen]; exact hl) he (fun k x xs h1 h2 h4 h5 h6 h7 => round k x xs h1 ?_ h4 h5 (by rw [blen] at h6; exact h6) h7 (by have:=drop_len h1; rw [blen] at this; exact this)) ?_
 ·rw [Array.getElem?_toList] at h2; rw [h2]; rfl
 ·rw [blen]; exact fin
end
section
variable {P : Program} {n : Nat} {h : Hint} {H : Heap} {Q : Exit -> Kt} {ops : Array Oper} {ar : Option Nat} {K : Env -> Heap -> Prop}
end
theorem toList_beq (a b : ByteArray) : (a.toList == b.toList) = decide (a = b):=by
 rw [Bool.eq_iff_iff,beq_iff_eq,decide_eq_true_eq,ByteArray.toList_eq,ByteArray.toList_eq]
 exact ⟨fun h => ByteArray.ext (Array.toList_inj.1 h),fun h => by rw [h]⟩
end Go.AI
namespace Go.AI
theorem bnd_of_cells {k : Nat} {v : AV} (h : ∀ c ∈ v.cells,c.bnd k = true) : v.bnd k = true:=by
 cases v <;> first | exact h _ (List.mem_singleton.2 rfl) | skip
 simp only [AV.bnd]
 exact bndL_iff.2 h
theorem VRel.bnd {G : Gh} {w : World} {a : AV} {v : Value} (h : VRel G w a v) : a.bnd G.obs.length = true:=by
 induction h with
 | ptr o off b h hc => simpa [AV.bnd] using (List.getElem?_eq_some_iff.1 h).1
 | cptr cs off b q u h hu ih =>
  simp only [AV.bnd]
  refine bndL_iff.2 fun c hc => ?_
  obtain ⟨i,hi⟩:=List.getElem?_of_mem hc
  exact ih i c hi
 | sl own es sz b q cap u hsz hown hl hm h hu ih =>
  simp only [AV.bnd]
  refine bndL_iff.2 fun e he => bnd_of_cells fun c hc => ?_
  obtain ⟨i,hi⟩:=List.getElem?_of_mem (List.mem_flatMap.2 ⟨e,he,hc⟩ : c ∈ cat es)
  exact ih i c hi
 | msl o off len sz b cap h hl hm hc => simpa [AV.bnd] using (List.getElem?_eq_some_iff.1 h).1
 | mslc o off len sz cap b h hl hm hc => simpa [AV.bnd] using (List.getElem?_eq_some_iff.1 h).1
 | fn f first captured fi ca h1 h2 h3 h4 ih1 ih2 =>
  simp only [AV.bnd,Bool.and_eq_true]
  refine ⟨bndL_iff.2 fun c hc => ?_,bndL_iff.2 fun c hc => ?_⟩
  ·obtain ⟨i,hi⟩:=List.getElem?_of_mem hc
   have hl:=(List.getElem?_eq_some_iff.1 hi).1
   exact ih1 i c _ hi (Array.getElem?_eq_getElem (by omega))
  ·obtain ⟨i,hi⟩:=List.getElem?_of_mem hc
   have hl:=(List.getElem?_eq_some_iff.1 hi).1
   exact ih2 i c _ hi (Array.getElem?_eq_getElem (by omega))
 | mapr o b h hb hk => simpa [AV.bnd] using (List.getElem?_eq_some_iff.1 h).1
 | it o b h hb hk => simpa [AV.bnd] using (List.getElem?_eq_some_iff.1 h).1
 | yld o b L h hb hk => simpa [AV.bnd] using (List.getElem?_eq_some_iff.1 h).1
 | ifc t a v hs h ih => simpa [AV.bnd] using ih
 | agg cs vs hl hs h ih =>
  simp only [AV.bnd]
  refine bndL_iff.2 fun c hc => ?_
  obtain ⟨i,hi⟩:=List.getElem?_of_mem hc
  have hlt:=(List.getElem?_eq_some_iff.1 hi).1
  exact ih i c _ hi (Array.getElem?_eq_getElem (by omega))
 | tup cs vs hl hs h ih =>
  simp only [AV.bnd]
  refine bndL_iff.2 fun c hc => ?_
  obtain ⟨i,hi⟩:=List.getElem?_of_mem hc
  have hlt:=(List.getElem?_eq_some_iff.1 hi).1
  exact ih i c _ hi (Array.getElem?_eq_getElem (by omega))
 | _ => rfl
section
variable {P : Program} {F : Nat -> Prop} {G : Gh} {w : World} {H : Heap}
theorem ORel.bnd {cs : List AV} {b : Nat} (h : ORel F G w cs b) : bndL G.obs.length cs = true:=by
 have hi:=h.is
 split at hi
 ·obtain ⟨C,E,g1,g2,g3⟩:=hi
  refine bndL_iff.2 fun c hc => ?_
  obtain ⟨i,hci⟩:=List.getElem?_of_mem hc
  have hlt:=(List.getElem?_eq_some_iff.1 hci).1
  exact (g3 i c _ hci (Array.getElem?_eq_getElem (by omega))).2.1.bnd
 ·obtain ⟨es,ms,cl,g1,g2,g3,g4,g5⟩:=hi
  subst g2
  simp only [mapc,bndL,AV.bnd,Bool.and_true]
  refine bndL_iff.2 fun c hc => ?_
  obtain ⟨p,hp,hc⟩:=List.mem_flatMap.1 hc
  obtain ⟨i,hpi⟩:=List.getElem?_of_mem hp
  have hlt:=(List.getElem?_eq_some_iff.1 hpi).1
  obtain ⟨_,_,a3,a4⟩:=g4 i p _ hpi (Array.getElem?_eq_getElem (by omega))
  rcases List.mem_cons.1 hc with rfl | hc
  ·exact a3.bnd
  ·rcases List.mem_singleton.1 hc with rfl
   exact a4.bnd
 ·rcases hi with ⟨s,pos,h1,rfl⟩ | ⟨h1,rfl⟩ | ⟨o,mb,si,se,h1,rfl,h3⟩
  ·simp [iterS,bndL,AV.bnd]
  ·simp [bndL,AV.bnd]
  ·have:=h3.bnd
   simp only [iterM,bndL,this,Bool.true_and,Bool.and_true]
   simp only [AV.bnd,Bool.true_and]
   exact bndL_map fun _ => rfl
 ·obtain ⟨s,pe,t,D,st,vals,g1,g2,g3,g4,g5⟩:=hi
  subst g3
  simp only [loopc,bndL,AV.bnd,Bool.and_true,Bool.true_and]
  refine bndL_iff.2 fun c hc => ?_
  obtain ⟨i,hci⟩:=List.getElem?_of_mem hc
  have hlt:=(List.getElem?_eq_some_iff.1 hci).1
  exact (g5 i c _ hci (Array.getElem?_eq_getElem (by omega))).2.bnd
 ·exact hi.elim
theorem HRel.closed (h : HRel F G H w) : closedH H:=fun o cs ho => by
 have hlt:=(List.getElem?_eq_some_iff.1 ho).1
 have hl:=h.len
 have:=(h.obj o cs _ ho (List.getElem?_eq_getElem (by omega))).bnd
 rwa [hl] at this
theorem ACall.drop {f : FuncId} {vs : List AV} {v : AV} (hv : v.bnd H.length = true) (h : ACall P f vs H fun v' H' => v' = v /\ ∃ ext,H' = H ++ ext) : ACall P f vs H fun v' H' => v' = v /\ H' = H :=
 ⟨h.1,fun F G w us hc => Calls.mono (h.2 F G w us hc) fun e w' he => by
  obtain ⟨u,rfl,v',H2,G',⟨rfl,ext,rfl⟩,hcr,hext⟩:=he
  refine ⟨u,rfl,_,H,_,⟨rfl,rfl⟩,hcr.cut hv hc.h.closed,⟨hext.size,⟨fun o b ho => ?_,hext.keeps.shape,hext.keeps.sp,hext.keeps.safe⟩,hext.kind,hext.cells,hext.io⟩⟩
  have hlt:=(List.getElem?_eq_some_iff.1 ho).1
  show (G'.obs.take H.length)[o]? = some b
  rw [List.getElem?_take_of_lt (by have:=hc.h.len; omega)]
  exact hext.keeps.obs o b ho⟩
end
@[go_sem] theorem exists_app (H x : Heap) : (∃ ext,H ++ x = H ++ ext) = True:=eq_true ⟨x,rfl⟩
@[go_sem] theorem exists_app0 (H : Heap) : (∃ ext,H = H ++ ext) = True:=eq_true ⟨[],by simp⟩
@[go_sem] theorem bnd_fn (f : Fn) (a b : List AV) (n : Nat) : (AV.fn f a b).bnd n = (bndL n a && bndL n b):=rfl
end Go.AI
namespace Go.AI
section
variable {P : Program} {n : Nat} {h : Hint} {ops : Array Oper} {K : Kt} {p : Tmp × AV} {e : Env} {H : Heap} {d : Tmp} {ty : TypeId} {ps : String} {af : Array Edge} {Q : Exit -> Kt}
def rngK (P : Program) (t : TypeId) (x : AV) (d : Tmp) (K : Kt) (e : Env) (H : Heap) : Prop:=arange P t H x fun v H' => K ((d,v) :: e) H'
def nxtK (str : Bool) (x : AV) (d : Tmp) (K : Kt) (e : Env) (H : Heap) : Prop :=
 match x with
 | .it o => anext str H o fun v H' => K ((d,v) :: e) H'
 | _ => False
def lkpK (P : Program) (t : TypeId) (ok : Bool) (m k : AV) (d : Tmp) (K : Kt) (e : Env) (H : Heap) : Prop :=
 match P.underlying t with
 | some (.map kt et) => match mapOf H m with
  | some es => keysIn P kt (k :: es.map (·.1)) /\ distK es /\ ∃ z,zeroAV P et = some z /\ K ((d,lkres ok z (afind k es 0)) :: e) H
  | none => False
 | _ => False
def updK (P : Program) (t : TypeId) (m k v : AV) (K : Kt) (e : Env) (H : Heap) : Prop :=
 match m with
 | .mapr o => match P.underlying t with
  | some (.map kt _) => match mapOf H (.mapr o) with
   | some es => keysIn P kt (k :: es.map (·.1)) /\ distK es /\ v.isVal = true /\ K e (H.set o (some (mapc (mapUpd es k v))))
   | none => False
  | _ => False
 | _ => False
@[go_sem] theorem aop_makeMap (t : TypeId) : aop P n h ops ⟨some d,.makeMap t none,ty,ps,af,none⟩ K (p :: e) H = (d < n /\ K ((d,.mapr H.length) :: p :: e) (H ++ [some (mapc [])])):=by
 rw [aop_none _ rfl]
 simp only [taking,opTy,Op.operands,evs_plain,List.map_nil,put,dstOk]
 rfl
@[go_sem] theorem aop_range (t : TypeId) (x : Operand) : aop P n h ops ⟨some d,.range t x,ty,ps,af,none⟩ K (p :: e) H = (d < n /\ rngK P t (evo P none (p :: e) x).borrow d K (p :: e) H):=by
 rw [aop_none _ rfl]
 simp only [taking,opTy,Op.operands,evs_plain,List.map_cons,List.map_nil,put,dstOk]
 rfl
@[go_sem] theorem aop_next (x : Operand) (b : Bool) : aop P n h ops ⟨some d,.next x b,ty,ps,af,none⟩ K (p :: e) H = (d < n /\ nxtK b (evo P none (p :: e) x).borrow d K (p :: e) H):=by
 rw [aop_none _ rfl]
 simp only [taking,opTy,Op.operands,evs_plain,List.map_cons,List.map_nil,put,dstOk]
 congr 1
 unfold nxtK
 generalize (evo P none (p :: e) x).borrow = v
 cases v <;> rfl
@[go_sem] theorem aop_lookup (t : TypeId) (x k : Operand) (ok : Bool) : aop P n h ops ⟨some d,.lookup t x k ok,ty,ps,af,none⟩ K (p :: e) H =
  (d < n /\ lkpK P t ok (evo P none (p :: e) x).borrow (evo P none (p :: e) k).borrow d K (p :: e) H):=by
 rw [aop_none _ rfl]
 simp only [taking,opTy,Op.operands,evs_plain,List.map_cons,List.map_nil,put,dstOk]
 rfl
@[go_sem] theorem aop_mapUpdate (t : TypeId) (x k v : Operand) : aop P n h ops ⟨none,.mapUpdate t x k v,ty,ps,af,none⟩ K (p :: e) H =
  updK P t (evo P none (p :: e) x).borrow (evo P none (p :: e) k).borrow (evo P none (p :: e) v).borrow K (p :: e) H:=by
 rw [aop_none _ rfl]
 simp only [taking,opTy,Op.operands,evs_plain,List.map_cons,List.map_nil,put,dstOk]
 rw [true_and]
 generalize (evo P none (p :: e) x).borrow = xv
 cases xv <;> rfl
end
theorem mapOf_at {H : Heap} {o : Nat} {es : List (AV × AV)} (h : H[o]? = some (some (mapc es))) : mapOf H (.mapr o) = some es:=by
 simp only [mapOf,h,unmapc_mapc]
theorem keysIn_int {P : Program} {kt : TypeId} {k : IntKind} (h : P.underlying kt = some (.int k)) {ks : List AV} (hk : ∀ a ∈ ks,∃ n,a = .int k n) : keysIn P kt ks :=
 ⟨_,KLaw.plain h,fun a ha => by obtain ⟨n,rfl⟩:=hk a ha; exact ⟨_,rfl,rfl⟩⟩
def setE {α : Type} (f : α -> AV) (l : List α) : List (AV × AV):=l.map fun x => (f x,.bool true)
theorem afind_set {α : Type} (f : α -> AV) (k : AV) : ∀ (l : List α) (i : Nat),(afind k (setE f l) i).map (·.2) = if l.any (fun x => keyEq (f x) k) = true then some (.bool true) else none
 | [],i => rfl
 | x :: l,i => by
  unfold setE
  rw [List.map_cons,afind,List.any_cons]
  by_cases h : keyEq (f x) k = true
  ·rw [if_pos h,h]; rfl
  ·rw [if_neg h]
   have h2 : keyEq (f x) k = false:=by simpa using h
   rw [h2,Bool.false_or]
   exact afind_set f k l (i + 1)
theorem lk_set {α : Type} (f : α -> AV) (k : AV) (l : List α) : lkres false (.bool false) (afind k (setE f l) 0) = .bool (l.any fun x => keyEq (f x) k):=by
 have h:=afind_set f k l 0
 cases ha : afind k (setE f l) 0 with
 | none =>
  rw [ha] at h
  split at h
  ·cases h
  ·rename_i hn
   have : (l.any fun x => keyEq (f x) k) = false:=by simpa using hn
   rw [this]; rfl
 | some q =>
  rw [ha] at h
  split at h
  ·rename_i hy
   obtain ⟨j,v⟩:=q
   have hv : v = .bool true:=by simpa using h
   subst hv
   rw [hy]; rfl
  ·cases h
theorem upd_set {α : Type} (f : α -> AV) (x : α) (l : List α) (h : (l.any fun y => keyEq (f y) (f x)) = false) : mapUpd (setE f l) (f x) (.bool true) = setE f (l ++ [x]):=by
 have h2:=afind_set f (f x) l 0
 rw [h] at h2
 have h3 : afind (f x) (setE f l) 0 = none:=by
  cases ha : afind (f x) (setE f l) 0 with
  | none => rfl
  | some q => rw [ha] at h2; cases h2
 unfold mapUpd
 rw [h3]
 simp [setE]
theorem set_keys {α : Type} (f : α -> AV) (l : List α) : (setE f l).map (·.1) = l.map f:=by simp [setE,List.map_map]
def distL {α : Type} (f : α -> AV) : List α -> Prop
 | [] => True
 | x :: l => (∀ y ∈ l,keyEq (f x) (f y) = false) /\ distL f l
theorem dist_set {α : Type} (f : α -> AV) : ∀ {l : List α},distL f l -> distK (setE f l)
 | [],_ => List.Pairwise.nil
 | x :: l,h => List.Pairwise.cons (fun q hq => by obtain ⟨y,hy,rfl⟩:=List.mem_map.1 hq; exact h.1 y hy) (dist_set f h.2)
theorem distL_snoc {α : Type} (f : α -> AV) (x : α) : ∀ {l : List α},distL f l -> (l.any fun y => keyEq (f y) (f x)) = false -> distL f (l ++ [x])
 | [],_,_ => ⟨fun y hy => by simp at hy,trivial⟩
 | y :: l,h,ha => by
  rw [List.any_cons,Bool.or_eq_false_iff] at ha
  refine ⟨fun z hz => ?_,distL_snoc f x h.2 ha.2⟩
  rcases List.mem_append.1 hz with hz | hz
  ·exact h.1 z hz
  ·rcases List.mem_singleton.1 hz with rfl
   exact ha.1
end Go.AI
