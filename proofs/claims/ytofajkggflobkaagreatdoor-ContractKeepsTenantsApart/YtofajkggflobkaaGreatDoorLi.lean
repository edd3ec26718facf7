/- From the code's walk at the abstract side to the contract of a call. -/
import Derived.Test.YtofajkggflobkaaGreatDoorLg
import Derived.ProofKit
import Derived.SizedLaws
set_option linter.unusedSimpArgs false
set_option linter.unusedVariables false
set_option linter.defProp false
open Go.AI renaming VRel->Ea,CRel->Eb,Hint->Ec,LoopRec->Ed
open Array renaming getElem?_eq_getElem->Aj,getElem?_toList->Ae,toList_append->C8
open Bool renaming and_eq_true->AQ,and_true->Bj,false_eq_true->Bw,false_or->BM,not_false->Ax,not_true->Av,true_and->By
open Eq renaming trans->AG
open List renaming all_eq_true->An,any_cons->Au,append_nil->Ai,contains_iff_mem->Dh,drop_drop->A8,drop_eq_getElem_cons->BL,drop_length->Cp,drop_succ_cons->DC,drop_zero->BO,flatMap_cons->BJ,getElem?_append_left->AT,getElem?_append_right->AM,getElem?_cons_zero->A7,getElem?_eq_getElem->AL,getElem?_eq_some_iff->AC,getElem?_map->Ab,getElem?_of_mem->Af,getElem?_take_of_lt->Bu,getElem?_toArray->Bf,getElem_mem->CP,length_cons->AD,length_nil->AH,length_range->DD,mapM_cons->C4,map_cons->AS,map_nil->Ah,mem_append->As,mem_cons->AX,mem_flatMap->Bh,mem_map->AP,mem_of_getElem?->AB,mem_singleton->Ac,range->Am,range_zero->EE,replicate->A4,replicate_succ->Ck,sum_cons->B1,take_append_drop->A9,take_succ_cons->CO
open Nat renaming add_mul->A2,add_zero->BB,le_of_ble_eq_true->CQ,le_of_eq->Df,le_trans->AK,one_mul->DW,zero_add->AY,zero_le->BY,zero_mul->CM
open Option renaming any_some->DB,bind_some->Bb,map_some->BU
open Or renaming inl->CG
open Go.Result renaming andThen_ok->AZ
open Go.Sem renaming run_bind->AJ,run_pure->Ad
namespace Go.AI
mutual
def AV.pure:AV->Bool
 | .ptr _ _=>false
 | .msl _ _ _ _=>false
 | .mslc _ _ _ _ _=>false
 | .mapr _=>false
 | .it _=>false
 | .yld _ _=>false
 | .ifc _ a=>a.pure
 | .cptr cs _=>A' cs
 | .sl _ es=>A' es
 | .fn _ a b=>A' a&&A' b
 | .agg cs=>A' cs
 | .tup vs=>A' vs
 | _=>true
def A':List AV->Bool
 | []=>true
 | v::vs=>v.pure&&A' vs
end
def ID{vs:List AV}(h:A' vs=true): ∀ v∈vs,v.pure=true:=by
 induction vs with
 | nil=>intro v hv;cases hv
 | cons x xs ih =>
  simp only [A',AQ] at h
  intro v hv
  rcases AX.1 hv with rfl|hv
  ·exact h.1
  ·exact ih h.2 v hv
def lQ{v:AV}(h:v.pure=true): ∀ c∈v.cells,c.pure=true:=by
 cases v<;>first|(intro c hc;simp only [AV.cells,Ac] at hc;subst hc;exact h)|skip
 simp only [AV.pure] at h
 exact ID h
def z8{es:List AV}(h:A' es=true): ∀ c∈HU es,c.pure=true:=by
 intro c hc
 obtain ⟨e,he,hc⟩:=Bh.1 hc
 exact lQ (ID h e he) c hc
def VRel.pure{G G':Gh}{w:World}(hk:G'.kind=G.kind){a:AV}{v:Value}(h:Ea G w a v)(hp:a.pure=true):Ea G' w a v:=by
 have hsafe : ∀ b o,G.safe b o->G'.safe b o:=λb o hs=>by unfold Gh.safe at *;rw [hk];exact hs
 induction h with
 | undef v=>exact .undef v
 | int k n=>exact .int k n
 | bool b=>exact .bool b
 | str s=>exact .str s
 | nilp=>exact .nilp
 | ptr o off b h hc=>cases hp
 | mapr o b h hb hk=>cases hp
 | it o b h hb hk=>cases hp
 | nilm=>exact .nilm
 | yld o b L h hb hk=>cases hp
 | ifc t a v hs h ih=>exact .ifc t a v hs (ih (by simpa [AV.pure] using hp))
 | nili=>exact .nili
 | cptr cs off b q u h hu ih =>
  simp only [AV.pure] at hp
  exact .cptr cs off b q u (λi c hi=>⟨(h i c hi).1,hsafe _ _ (h i c hi).2.1,(h i c hi).2.2⟩) λi c hi=>ih i c hi (ID hp c (AB hi))
 | slnil own=>exact .slnil own
 | slany own a=>exact .slany own a
 | sl own es sz b q cap u hsz hown hl hm h hu ih =>
  simp only [AV.pure] at hp
  exact .sl own es sz b q cap u hsz hown hl hm (λi c hi=>⟨(h i c hi).1,hsafe _ _ (h i c hi).2.1,(h i c hi).2.2⟩) λi c hi=>ih i c hi (z8 hp c (AB hi))
 | msl=>cases hp
 | mslc=>cases hp
 | fn f first captured fi ca h1 h2 h3 h4 ih1 ih2 =>
  simp only [AV.pure,AQ] at hp
  exact .fn f first captured fi ca h1 h2 (λi c v hc hv=>ih1 i c v hc hv (ID hp.1 c (AB hc))) (λi c v hc hv=>ih2 i c v hc hv (ID hp.2 c (AB hc)))
 | nilf=>exact .nilf
 | agg cs vs hl hs h ih =>
  simp only [AV.pure] at hp
  exact .agg cs vs hl hs λi c v hc hv=>ih i c v hc hv (ID hp c (AB hc))
 | tup cs vs hl hs h ih =>
  simp only [AV.pure] at hp
  exact .tup cs vs hl hs λi c v hc hv=>ih i c v hc hv (ID hp c (AB hc))
def dU(P:Program)(n:Nat):List ResultVar->Fs->FP->(List AV->Fs->FP->Prop)->Prop
 | [],e,H,K=>K [] e H
 | .tmp t::rs,e,H,K=>t<n/\dU P n rs (NB P none true (.tmp t) e).2 H λvs=>K ((NB P none true (.tmp t) e).1::vs)
 | .cell t ty::rs,e,H,K=>t<n/\match Fq e t with
  | .ptr ob off=>match H[ob]? with
   | some (some cs)=>match Lj P ty cs off with
    | some v=>if v.owned=true then dU P n rs e (H.set ob (some (splice cs off (v.cells.map borrow1)))) λvs=>K (v::vs) else dU P n rs e H λvs=>K (v.borrow::vs)
    | none=>False
   | _=>False
  | _=>False
def QP(K:AV->FP->Prop)(vs:List AV)(H:FP):Prop :=
 match vs with
 | [v]=>K v H
 | vs=>(∀ v∈vs,v.isVal=true)/\K (.tup vs) H
def TC(P:Program)(n:Nat)(rs:Array ResultVar)(K:AV->FP->Prop)(ex:Exit)(e:Fs)(H:FP):Prop :=
 match ex with
 | .normal | .ret=>dU P n rs.toList e H λvs _ H'=>QP K vs H'
 | _=>False
section
variable {P:Program} {F:Nat->Prop} {G:Gh} {w:World} {H:FP} {n:Nat}
def kE(k:Nat):LRel F G (A4 k .undef) (A4 k Go.undef) w:=by
 refine ⟨sm,λi a u h1 _=>?_,λi a u h1 _=>?_⟩<;>rw [List.getElem?_replicate] at h1<;>split at h1<;>cases h1
 ·exact .undef u
 ·exact Ff (Hc u) F G w
def cq(b k:Nat):HC b (A4 k .undef) (A4 k Go.undef)=0:=by
 induction k with
 | zero=>rfl
 | succ k ih=>rw [Ck,Ck,FY,ih,Hc];rfl
def CRel.args{vs:List AV}{us:List Value}(h:Eb F G vs H us w)(k:Nat):Eb F G (vs++A4 k .undef) H (us++A4 k Go.undef) w:=by
 refine ⟨h.l.append (kE k),h.h,λb=>?_⟩
 rw [GW _ _ _ _ _ h.l.len,cq]
 exact h.cnt b
def Zo{v:AV}{u:Value}{vs:List AV}{us:List Value}(hv:v.isVal=true)(h:Ea G w v u):LE (.tup (v::vs)) (.tuple (u::us).toArray)=LE v u++LE (.tup vs) (.tuple us.toArray):=by
 rw [PS hv h]
 simp only [LE,AV.flat,IA,BJ]
 rw [List.zip_append]
 have:=(Jk hv h).2.2
 simpa using this
def ck : ∀ (vs:List AV) (us:List Value),LRel F G vs us w->(∀ v∈vs,v.isVal=true) ->
  Ea G w (.tup vs) (.tuple us.toArray)/\(∀ p∈LE (.tup vs) (.tuple us.toArray),GD F G w p) /\ ∀ b,(Gs (.tup vs) (.tuple us.toArray)).count b=HC b vs us:=by
 intro vs us hl hv
 refine ⟨.tup vs _ (by simpa using hl.len) hv (λi c u h1 h2=>hl.rel i c u h1 (by simpa using h2)), ?_⟩
 induction vs generalizing us with
 | nil =>
  match us,hl.len with
  | [],_=>exact ⟨λp hp=>by simp [LE,AV.flat] at hp,λb=>by simp [Gs,LE,AV.flat,HC]⟩
 | cons v vs ih =>
  match us,hl.len with
  | u::us,_ =>
   obtain ⟨h1,h2,h3⟩:=hl.uncons
   obtain ⟨g1,g2⟩:=ih us h3 λx hx=>hv x (by simp [hx])
   have e:=Zo (vs:=vs) (us:=us) (hv v sm) h1
   refine ⟨λp hp=>?_,λb=>?_⟩
   ·rw [e] at hp
    rcases As.1 hp with h|h
    ·exact h2 p h
    ·exact g1 p h
   ·have:=g2 b
    unfold Gs at this ⊢
    rw [e,List.filterMap_append,List.count_append,this,FY]
    rfl
def CRel.comm{A B:List AV}{ua ub:List Value}(h:Eb F G (A++B) H (ua++ub) w)(hl:A.length=ua.length):Eb F G (B++A) H (ub++ua) w:=by
 obtain ⟨h1,h2⟩:=h.l.split hl
 refine ⟨h2.append h1,h.h,λb=>?_⟩
 have:=h.cnt b
 rw [GW b A ua B ub hl] at this
 rw [GW b B ub A ua h2.len]
 omega
def CRel.turn {A B:List AV} {v:AV} {ua ub:List Value} {u:Value} {R:AV->FP->Prop} {u':Value} {w':World} (h:Eb F G (A++v::B) H (ua++u::ub) w) (hl:A.length=ua.length)
  (hk : ∀ F',(∀ b,F b->F' b)->Eb F' G [v] H [u] w->Fe F' G w R u' w') : ∃ v' H' G',R v' H'/\Eb F G' (A++v'::B) H' (ua++u'::ub) w'/\Ext F G w G' w':=by
 have h1:Eb F G ((v::B)++A) H ((u::ub)++ua) w:=h.comm hl
 have h2:Eb F G ([v]++(B++A)) H ([u]++(ub++ua)) w:=by simpa using h1
 have hB:=(h2.l.split (A:=[v]) rfl).2
 have hc:=h2.split (A:=[v]) rfl
 obtain ⟨v',H',G',hr,hc',he⟩:=hk _ (λb hb=>CG hb) hc
 have hcb : ∀ b,HC b (B++A) (ub++ua)<=1:=λb=>by
  have:=h2.cnt b
  rw [GW b [v] [u] _ _ rfl] at this
  omega
 have hj:=TJ (F:=F) hB hcb (λb hb=>CG hb) (λb hb=>Or.inr hb) he hc'
 refine ⟨v',H',G',hr, ?_,he.mono λb hb=>CG hb⟩
 have hlB:B.length=ub.length:=by
  have:=hB.len
  simp at this
  omega
 have h3:Eb F G' ((v'::B)++A) H' ((u'::ub)++ua) w':=by simpa using hj
 exact h3.comm (by simp [hlB])
def IL(tm:Array Value):ResultVar->Sem Value
 | .tmp t=>pure (tm.getD t Go.undef)
 | .cell a t=>do loadVar t (<- asAddr (tm.getD a Go.undef))
def AAy{t:TypeId}{u:Value}{R:AV->FP->Prop}{w:World}(hu : ∃ a,u = .pointer (some a))(h:Fx P ((do let r<-Instr.loadAt t u;pure (Next.value r):Sem Next).run P w) (Fe F G w R)):
  ∃ u' w',(do loadVar t (<- asAddr u):Sem Value).run P w = .ok u' w'/\Fe F G w R u' w':=by
 obtain ⟨a,rfl⟩:=hu
 have e1:(Instr.loadAt t (.pointer (some a)):Sem Value).run P w=(loadVar t a).run P w:=by
  simp [Instr.loadAt,Instr.sureAddr]
 have e2:(do loadVar t (<- asAddr (.pointer (some a))):Sem Value).run P w=(loadVar t a).run P w:=by
  simp [asAddr]
 rw [e2]
 rw [AJ,e1] at h
 cases hr:(loadVar t a).run P w with
 | ok u' w' =>
  rw [hr] at h
  simp only [AZ,Ad] at h
  exact ⟨u',w',rfl,h⟩
 | _=>rw [hr] at h;exact h.elim
def SR{a:Act}(hn:a.tmps.size=n): ∀ (rs:List ResultVar) (env:Fs) (H:FP) (G:Gh) (w:World) (pre:List AV) (upre:List Value) (K:List AV->Fs->FP->Prop),
  Eb F G (pre++Gk n env) H (upre++a.tmps.toList) w->pre.length=upre.length->(∀ t,n<=t->Fq env t = .undef)->dU P n rs env H K ->
  ∃ us,(rs.mapM (IL a.tmps)).run P w = .ok us w /\ ∃ vs env' H' G',K vs env' H'/\vs.length=us.length/\Eb F G' (pre++vs++Gk n env') H' (upre++us++a.tmps.toList) w/\Ext F G w G' w
 | [],env,H,G,w,pre,upre,K,h,hp,ho,hr=>⟨[],sm,[],env,H,G,hr,rfl,by simpa using h,.refl F G w⟩
 | .tmp t::rs,env,H,G,w,pre,upre,K,h,hp,ho,hr=>by
  obtain ⟨htn,hr⟩:=hr
  obtain ⟨h1,ho1⟩:=WH (P:=P) none true (.tmp t) h hp hn ho
  obtain ⟨us,hrun,vs,env',H',G',hK,hlen,hc,he⟩:=SR hn rs (NB P none true (.tmp t) env).2 H G w (pre++[(NB P none true (.tmp t) env).1]) (upre++[a.eval (.tmp t)]) _ (by simpa using h1) (by simp [hp]) ho1 hr
  refine ⟨a.eval (.tmp t)::us, ?_,_,env',H',G',hK,by simp [hlen],by simpa using hc,he⟩
  have e0:IL a.tmps (.tmp t)=pure (a.eval (.tmp t)):=rfl
  simp only [C4,AJ,e0,Ad,AZ,hrun]
 | .cell t ty::rs,env,H,G,w,pre,upre,K,h,hp,ho,hr=>by
  obtain ⟨htn,hr⟩:=hr
  split at hr
  ·rename_i ob off hlk
   split at hr
   ·rename_i cs hob
    split at hr
    ·rename_i v hv
     obtain ⟨h1,ho1⟩:=WH (P:=P) none false (.tmp t) h hp hn ho
     have e1:NB P none false (.tmp t) env=(.ptr ob off,env):=by simp [NB,G7,hlk,AV.borrow,borrow0]
     rw [e1] at h1
     have key : ∀ R:AV->FP->Prop,(R v.borrow H\/R v (H.set ob (some (splice cs off (v.cells.map borrow1))))) -> ∃ u',(IL a.tmps (.cell t ty)).run P w = .ok u' w /\
       ∃ v' H' G',R v' H'/\Eb F G' (pre++v'::Gk n env) H' (upre++u'::a.tmps.toList) w/\Ext F G w G' w:=by
      intro R hR
      have hx:Ea G w (.ptr ob off) (a.eval (.tmp t)):=(((h1.l.split hp).2).uncons).1
      have hu : ∃ ad,a.eval (.tmp t) = .pointer (some ad):=by
       generalize a.eval (.tmp t)=u at hx
       cases hx;exact ⟨_,rfl⟩
      have hone:Eb (λ_=>False) G [AV.ptr ob off] H [a.eval (.tmp t)] w:=by
       have h2:Eb F G ((AV.ptr ob off::Gk n env)++pre) H ((a.eval (.tmp t)::a.tmps.toList)++upre) w:=h1.comm hp
       have h3:Eb F G ([AV.ptr ob off]++(Gk n env++pre)) H ([a.eval (.tmp t)]++(a.tmps.toList++upre)) w:=by simpa using h2
       have h4:=h3.split (A:=[AV.ptr ob off]) rfl
       exact ⟨h4.l.weaken λ_ h=>h.elim,h4.h.weaken λ_ h=>h.elim,h4.cnt⟩
      have hrun : ∃ u',(IL a.tmps (.cell t ty)).run P w = .ok u' w:=by
       have e0:IL a.tmps (.cell t ty)=(do loadVar ty (<- asAddr (a.eval (.tmp t)))):=rfl
       rw [e0]
       clear hone h1
       generalize a.eval (.tmp t)=u at hx
       cases hx with
       | ptr _ _ b hb hbc =>
        obtain ⟨u',h1,_⟩:=aB (P:=P) hv (O3 hbc.choose_spec.choose_spec (h.h.obj ob cs b hob hb))
        rw [AY] at h1
        exact ⟨u',by simpa [asAddr] using h1⟩
      obtain ⟨u',hrun⟩:=hrun
      refine ⟨u',hrun, ?_⟩
      refine h1.turn hp λF' hF hc1=>?_
      obtain ⟨u2,w2,hrun2,hk⟩:=AAy (P:=P) hu (OY (P:=P) hc1 hob hv hR)
      have e5:IL a.tmps (.cell t ty)=(do loadVar ty (<- asAddr (a.eval (.tmp t)))):=rfl
      rw [<- e5,hrun] at hrun2
      cases hrun2
      exact hk
     have fin : ∀ (v':AV) (H1:FP),(dU P n rs env H1 λvs=>K (v'::vs))->(∀ R:AV->FP->Prop,R v' H1->R v.borrow H\/R v (H.set ob (some (splice cs off (v.cells.map borrow1))))) ->
       ∃ us,((ResultVar.cell t ty::rs).mapM (IL a.tmps)).run P w = .ok us w /\ ∃ vs env' H' G',K vs env' H'/\vs.length=us.length/\Eb F G' (pre++vs++Gk n env') H' (upre++us++a.tmps.toList) w/\Ext F G w G' w:=by
      intro v' H1 hrev hR
      obtain ⟨u',hrun,v2,H2,G2,⟨rfl,rfl⟩,hc2,he2⟩:=key (λa b=>a=v'/\b=H1) (hR (λa b=>a=v'/\b=H1) ⟨rfl,rfl⟩)
      obtain ⟨us,hrun',vs,env',H',G',hK,hlen,hc,he⟩:=SR hn rs env H2 G2 w (pre++[v2]) (upre++[u']) _ (by simpa using hc2) (by simp [hp]) ho hrev
      refine ⟨u'::us, ?_,_,env',H',G',hK,by simp [hlen],by simpa using hc,he2.trans he⟩
      simp only [C4,AJ,hrun,Ad,AZ,hrun']
     by_cases hw:v.owned=true
     ·rw [iP hw] at hr
      exact fin _ _ hr λR h => .inr h
     ·rw [iN hw] at hr
      exact fin _ _ hr λR h => .inl h
    ·exact hr.elim
   ·exact hr.elim
  ·exact hr.elim
def dN{fn:Func}{tm:Array Value}{w w':World}{us:List Value}(h:(fn.results.toList.mapM (IL tm)).run P w = .ok us w'):
  (results fn tm).run P w = .ok (match (generalizing:=false) us with
   | [u]=>u
   | us => .tuple us.toArray) w':=by
 unfold results
 rw [Array.mapM_eq_mapM_toList]
 rw [AJ,Sem.run_map]
 have e : ∀ (g g':ResultVar->Sem Value) (l:List ResultVar),(∀ r,g r=g' r)->l.mapM g=l.mapM g':=λg g' l hg=>by rw [show g=g' from funext hg]
 rw [e _ (IL tm) fn.results.toList (λr=>by cases r<;>rfl),h]
 simp only [AZ,Ad]
 match us with
 | []=>simp
 | [t]=>simp
 | t::t'::ts=>simp
def pl{env:Fs}{a:Act}{fn:Func}{K:AV->FP->Prop}{ex:Exit}(hs:SRel F G n env H a w)(hq:TC P n fn.results K ex env H):
  (ex = .normal\/ex = .ret) /\ ∃ v u H' G',K v H'/\Eb F G' [v] H' [u] w/\Ext F G w G' w/\(results fn a.tmps).run P w = .ok u w:=by
 have main:(dU P n fn.results.toList env H λvs _ H'=>QP K vs H') -> ∃ v u H' G',K v H'/\Eb F G' [v] H' [u] w/\Ext F G w G' w/\(results fn a.tmps).run P w = .ok u w:=by
  intro hq
  obtain ⟨us,hrun,vs,env',H',G',hK,hlen,hc,he⟩:=SR (pre:=[]) (upre:=[]) hs.size fn.results.toList env H G w _ hs.c rfl hs.out hq
  have hres:=dN hrun
  have hc1:Eb F G' vs H' us w:=by
   have h1:=hc.split (A:=[]++vs) (B:=Gk n env') (by simpa using hlen)
   have h2:Eb (λb=>F b\/0<HC b (Gk n env') a.tmps.toList) G' vs H' us w:=by simpa using h1
   exact ⟨h2.l.weaken λ_ h => .inl h,h2.h.weaken λ_ h => .inl h,h2.cnt⟩
  match vs,us,hlen with
  | [v],[u],_=>exact ⟨v,u,H',G',hK,hc1,he,hres⟩
  | [],[],_ =>
   obtain ⟨h1,h2,h3⟩:=ck _ _ hc1.l hK.1
   exact ⟨_,_,H',G',hK.2,hc1.one h1 h2 λb=>Df (h3 b),he,hres⟩
  | v::v2::vs,u::u2::us,_ =>
   obtain ⟨h1,h2,h3⟩:=ck _ _ hc1.l hK.1
   exact ⟨_,_,H',G',hK.2,hc1.one h1 h2 λb=>Df (h3 b),he,hres⟩
 cases ex with
 | normal=>exact ⟨.inl rfl,main hq⟩
 | ret=>exact ⟨.inr rfl,main hq⟩
 | _=>exact hq.elim
def CRel.shut{vs:List AV}{us:List Value}(h:Eb F G vs H us w){b:Nat}(hd:aT w b)(hF : ¬ F b):Eb F G vs H us (w.putObj b (.deferred none))/\Ext F G w G (w.putObj b (.deferred none)):=by
 have he:Ext F G w G (w.putObj b (.deferred none)):=Ke hF hd (λ_ _ _ e=>by cases e)
 have hne : ∀ b',b'≠b->(w.putObj b (.deferred none)).heap[b']? =w.heap[b']?:=λb' hn=>World.putObj_heap_other hn
 have hcells : ∀ {b':Nat} {C:Array Value} {E:TypeId},w.heap[b']? =some (.cells C E (0,0))->b'≠b:=λh3 e=>by
  subst e;unfold aT at hd;rw [hd] at h3;cases h3
 refine ⟨⟨⟨h.l.len,λi a u h1 h2=>(h.l.rel i a u h1 h2).keep he.keeps,λi a u h1 h2 p hp=>(h.l.tok i a u h1 h2 p hp).keep λb' hb'=>?_⟩,h.h.ext he rfl λb' hb'=>⟨rfl, ?_⟩,λb'=>?_⟩,he⟩
 ·obtain ⟨t1,_,C,E,t3⟩:=(h.l.tok i a u h1 h2 p hp).of_tok hb'
  exact ⟨t1,rfl,hne b' (hcells t3)⟩
 ·refine hne b' ?_
  rcases hb' with ⟨o,cs,h1,h2⟩|hb'
  ·intro e;subst e;exact (h.h.obj o cs _ h1 h2).not_isD hd
  ·obtain ⟨_,_,C,E,t3⟩:=h.h.tok_of_pos hb'
   exact hcells t3
 ·rw [M4 (G:=G) (w:=w) (G':=G) rfl λo cs b2 h1 h2=>hne b2 λe=>by subst e;exact (h.h.obj o cs _ h1 h2).not_isD hd]
  exact h.cnt b'
def RW{fn:Func}{tm:Array Value}{R:Ending->World->Prop}{vs:List AV}{us:List Value}{G0:Gh}{w0:World}: ∀ (bs:List Nat) {w:World},Eb F G vs H us w->bs.Nodup->(∀ b∈bs,¬ F b/\aT w b)->Ext F G0 w0 G w ->
  (∀ w',Eb F G vs H us w'->Ext F G0 w0 G w' -> ∃ v,(results fn tm).run P w' = .ok v w'/\R (.returned v) w') ->
  LeavesInM Fence.wide 0 P fn tm R (bs.map λb=>{ target:=.collected b,args:=#[] }) .returning w
 | [],w,hc,_,_,he,hk=>hk w hc he
 | b::bs,w,hc,hn,hb,he,hk=>by
  obtain ⟨h1,h2⟩:=List.nodup_cons.1 hn
  obtain ⟨hF,hd⟩:=hb b sm
  obtain ⟨hc',he'⟩:=hc.shut hd hF
  refine ⟨sm,.inl ⟨b,_,rfl,run_takeDeferred (P:=P) hd,RW bs hc' h2 (λb' hb'=>⟨(hb b' (by simp [hb'])).1, ?_⟩) (he.trans he') hk⟩⟩
  have h3:=(hb b' (by simp [hb'])).2
  unfold aT at h3 ⊢
  rw [World.putObj_heap_other (λ(e:b'=b)=>h1 (by rw [<- e];exact hb'))];exact h3
def KA {f:FuncId} {fn:Func} {c:Code} {h:Ec} {vs:List AV} {us:List Value} {K:AV->FP->Prop} (hg:h.gc=[]\/G.obs=[]) (hm:P.follows .mixedOrders=true) (hd:fn.body.any (GZ h)=true) (hf:P.funcs[f]? =some fn) (hb:fn.body=some c)
  (hn:vs.length<=fn.ntmps) (ha:I7 P fn.ntmps h none c (TC P fn.ntmps fn.results K) (GQ 0 vs) H) (hc:Eb F G vs H us w) :
  Calls P f us.toArray w λe w' => ∃ u,e = .returned u /\ ∃ v H' G',K v H'/\Eb F G' [v] H' [u] w'/\Ext F G w G' w':=by
 have hlen:=hc.l.len
 have hs:SRel F G fn.ntmps (GQ 0 vs) H { tmps:=us.toArray++Array.replicate (fn.ntmps - us.toArray.size) Go.undef,defers:=[] } w:=by
  refine ⟨by simp;omega,.nil F w,λt ht=>?_, ?_⟩
  ·rw [Ku,iP (BY _),List.getElem?_eq_none (by simp;exact AK hn ht)];rfl
  ·rw [WJ vs hn]
   have:=hc.args (fn.ntmps - vs.length)
   simp only [C8,Array.toList_replicate,List.size_toArray]
   rw [<- hlen]
   exact this
 refine callsIn_wide.1 (callsIn_of_wp_marks (F:=Fence.wide) (n:=0) hf hb trivial (show c.wpIn (cX none) 0 P _ _ w from I6 hm c none none F G w hg trivial (by rw [hb] at hd;exact hd) _ _ G _ H _ w hs (.refl F G w) ha λex a' w' hl=>?_))
 obtain ⟨env',H',G',hq,hs',he⟩:=hl
 have hex:ex = .normal\/ex = .ret:=(pl hs' hq).1
 obtain ⟨bs,hb1,hb2,hb3⟩:=hs'.defers
 have hfin:LeavesInM Fence.wide 0 P fn a'.tmps (λe w' => ∃ u,e = .returned u /\ ∃ v H' G',K v H'/\Eb F G' [v] H' [u] w'/\Ext F G w G' w') a'.defers .returning w':=by
  rw [hb1]
  refine RW bs hs'.c hb2 hb3 he λw2 hc2 he2=>?_
  obtain ⟨_,v,u,H2,G2,hK,hcr,he3,hrun⟩:=pl (a:={ tmps:=a'.tmps,defers:=[] }) ⟨hs'.size,.nil F w2,hs'.out,hc2⟩ hq
  exact ⟨u,hrun,u,rfl,v,H2,G2,hK,hcr,he2.trans he3⟩
 rcases hex with rfl|rfl
 ·exact hfin
 ·exact hfin
def kW {f:FuncId} {fn:Func} {c:Code} {vs:List AV} {R:AV->FP->Prop} (h:Ec) (hg:h.gc=[]) (hm:P.follows .mixedOrders=true) (hd:fn.body.any (GZ h)=true) (hf:P.funcs[f]? =some fn) (hb:fn.body=some c) (hcal:HW P f=true)
  (hn:vs.length<=fn.ntmps) (ha:I7 P fn.ntmps h none c (TC P fn.ntmps fn.results R) (GQ 0 vs) H):FV P f vs H R :=
 ⟨hcal,λF G w us hc=>KA (.inl hg) hm hd hf hb hn ha hc⟩
def aU(F:Nat->Prop)(G:Gh)(H:FP)(w:World)(b:Nat):Prop :=
 F b\/(∃ (o:Nat) (cs:List AV),H[o]? =some (some cs)/\G.obs[o]? =some b)\/0<IJ G H w b
def CRel.hide{vs:List AV}{us:List Value}(hc:Eb F G vs H us w)(hp : ∀ v∈vs,v.pure=true):Eb (aU F G H w) ⟨[],G.kind⟩ vs [] us w:=by
 refine ⟨⟨hc.l.len,λi a u h1 h2=>VRel.pure (G:=G) (G':=⟨[],G.kind⟩) rfl (hc.l.rel i a u h1 h2) (hp a (AB h1)),λi a u h1 h2 p hm=>?_⟩,
  ⟨rfl,λo cs b h1 _=>by simp at h1,λo o' cs cs' b h1 _ _ _=>by simp at h1,λb hb=>?_,hc.h.glob.same rfl⟩,λb=>?_⟩
 ·have ht:=hc.l.tok i a u h1 h2 p hm
  refine (Option.eq_none_or_eq_some (tok p)).elim F7 λ⟨b,hb⟩=>?_
  have hx:=ht.of_tok hb
  have key:GD (aU F G H w) G w p:=ht.keep λb' hb'=>by
   rw [hb] at hb';cases hb'
   refine ⟨?_,rfl,rfl⟩
   rintro (h|⟨o,cs,h3,h4⟩|h)
   ·exact hx.1 h
   ·obtain ⟨_,⟨q,hq⟩,_⟩:=hx
    exact (hc.h.obj o cs b h3 h4).no_buf hq
   ·have h5:=MG h1 h2 hm hb
    have:=hc.cnt b
    omega
  exact key
 ·rcases hb with h|⟨o,cs,h3,h4⟩|h
  ·exact hc.h.fore b h
  ·exact hc.h.block_lt h3 h4
  ·obtain ⟨_,_,C,E,hh⟩:=hc.h.tok_of_pos h
   exact (Array.getElem?_eq_some_iff.1 hh).1
 ·have:=hc.cnt b
  show HC b vs us+IJ _ [] w b<=1
  simp only [IJ,AH,EE,Ah,List.sum_nil]
  omega
def CRel.unhide {vs:List AV} {us:List Value} (hc:Eb F G vs H us w) {G':Gh} {H2:FP} {v:AV} {u:Value} {w':World} (hv:v.pure=true)
  (hr:Eb (aU F G H w) G' [v] H2 [u] w') (he:Ext (aU F G H w) ⟨[],G.kind⟩ w G' w') :
  Eb F ⟨G.obs,G'.kind⟩ [v] H [u] w'/\Ext F G w ⟨G.obs,G'.kind⟩ w':=by
 have hk:Keeps G w ⟨G.obs,G'.kind⟩ w':=⟨λ_ _ h=>h,he.keeps.shape,λb hb hs=>he.keeps.sp b hb hs,λb o x hs hcell=>he.keeps.safe b o x hs hcell⟩
 have hext:Ext F G w ⟨G.obs,G'.kind⟩ w':=⟨he.size,hk,λb hb=>he.kind b (.inl hb),λb hb=>he.cells b (.inl hb),he.io⟩
 obtain ⟨h1,h2,_⟩:=hr.l.uncons
 refine ⟨⟨.cons (VRel.pure (G:=G') (G':=⟨G.obs,G'.kind⟩) rfl h1 hv) (λp hp=>?_) (.nil F _ _), ?_,λb=>?_⟩,hext⟩
 ·have:=(h2 p hp).weaken (F:=F) λb hb => .inl hb
  exact this
 ·exact hc.h.ext hext rfl λb hb=>⟨he.kind b (.inr hb),he.cells b (.inr hb)⟩
 ·have e:IJ ⟨G.obs,G'.kind⟩ H w' b=IJ G H w b:=M4 rfl (λo cs b' g1 g2=>he.cells b' (.inr (.inl ⟨o,cs,g1,g2⟩))) b
  rw [e,FY,GS]
  by_cases h0:0<IJ G H w b
  ·have h3 : ¬ 0<HC b [v] [u]:=λhp=>(hr.l.tok_of_pos hp).1 (.inr (.inr h0))
   rw [FY,GS] at h3
   have:=hc.cnt b
   omega
  ·have:=hr.cnt b
   rw [FY,GS] at this
   omega
def ADe {f:FuncId} {fn:Func} {c:Code} {vs:List AV} {Q:AV->Prop} (h:Ec) (hm:P.follows .mixedOrders=true) (hd:fn.body.any (GZ h)=true) (hf:P.funcs[f]? =some fn) (hb:fn.body=some c) (hcal:HW P f=true)
  (hn:vs.length<=fn.ntmps) (hp:A' vs=true) (ha:I7 P fn.ntmps h none c (TC P fn.ntmps fn.results λv' _=>v'.pure=true/\Q v') (GQ 0 vs) []):KL P f vs Q:=λH =>
 ⟨hcal,λF G w us hc=>Calls.mono (KA (.inr rfl) hm hd hf hb hn ha (hc.hide (ID hp))) λe w' he=>by
  obtain ⟨u,rfl,v',H2,G',⟨hv,hq⟩,hcr,hext⟩:=he
  obtain ⟨h1,h2⟩:=hc.unhide hv hcr hext
  exact ⟨u,rfl,v',H,_,⟨hq,rfl⟩,h1,h2⟩⟩
def ADi {f:FuncId} {fn:Func} {c:Code} {vs:List AV} {v:AV} (h:Ec) (hm:P.follows .mixedOrders=true) (hd:fn.body.any (GZ h)=true) (hf:P.funcs[f]? =some fn) (hb:fn.body=some c) (hcal:HW P f=true)
  (hn:vs.length<=fn.ntmps) (hp:A' vs=true) (hv:v.pure=true) (ha:I7 P fn.ntmps h none c (TC P fn.ntmps fn.results λv' _=>v'=v) (GQ 0 vs) []):FQ P f vs v:=λH =>
 ⟨hcal,λF G w us hc=>Calls.mono (KA (.inr rfl) hm hd hf hb hn ha (hc.hide (ID hp))) λe w' he=>by
  obtain ⟨u,rfl,v',H2,G',rfl,hcr,hext⟩:=he
  obtain ⟨h1,h2⟩:=hc.unhide hv hcr hext
  exact ⟨u,rfl,_,H,_,⟨rfl,rfl⟩,h1,h2⟩⟩
end
end Go.AI
namespace Go.AI
abbrev Kt:=Fs->FP->Prop
def XF(x:Operand)(v:AV)(e:Fs):Fs :=
 match v.owned,x with
 | true,.tmp t=>(t,v.borrow)::e
 | _,_=>e
def bnd(r:Option AV)(d:Tmp)(K:Kt)(e:Fs)(H:FP):Prop :=
 match r with
 | some v=>K ((d,v)::e) H
 | none=>False
def AF9(r:Option (AV×FP))(d:Option Tmp)(K:Kt)(e:Fs):Prop :=
 match r with
 | some (v,H)=>K (put d v e) H
 | none=>False
def V8(c:AV)(b:Bool)(A B:Kt)(e:Fs)(H:FP):Prop :=
 match c with
 | .bool c=>if c=b then A e H else B e H
 | .tup _=>B e H
 | _=>False
def ABt(t:Option Tmp)(b:Bool)(A B:Kt)(e:Fs)(H:FP):Prop :=
 match t with
 | some t=>V8 (Fq e t) b A B e H
 | none=>False
def zZ(n:Nat)(d:Option Tmp)(K:Kt)(e:Fs)(H:FP):Prop:=Gi n d/\K (put d (.tup []) e) H
def iJ(c:AV)(A B:Kt)(e:Fs)(H:FP):Prop :=
 match c with
 | .bool t=>if t=true then A e H else B e H
 | _=>False
def zb(B:Kt)(Q:Exit->Kt)(ex:Exit):Kt:=λe H =>
 match ex with
 | .normal=>B e H
 | ex=>Q ex e H
def bA(id:Nat)(Q:Exit->Kt)(ex:Exit):Kt:=λe H =>
 match ex with
 | .exit j=>if j=id then Q .normal e H else Q (.exit j) e H
 | ex=>Q ex e H
def Xj(zs:List (Tmp×Option Nat×Bool))(Q:Exit->Kt):Kt:=λe H=>Q .normal (Kb zs e H).1 (Kb zs e H).2
def gcK(g:Option Nat)(Q:Exit->Kt)(ex:Exit):Kt:=λe H =>
 match ex with
 | .normal=>Q .normal e (T5 g e H)
 | ex=>Q ex e H
def nO(live:List Tmp)(zs:List (Tmp×Option Nat×Bool))(Q:Exit->Kt):Kt:=λe H=>Xj zs Q (Hh live e) H
def pX(P:Program)(t:TypeId)(a:AV)(H:FP):Option (AV×FP) :=
 match a with
 | .ptr ob off=>match H[ob]? with
  | some (some cs)=>match Lj P t cs off with
   | some v=>if v.owned=true then some (v,H.set ob (some (splice cs off (v.cells.map borrow1)))) else some (v.borrow,H)
   | none=>none
  | _=>none
 | _=>none
def rdK(r:Option (AV×FP))(K:AV->FP->Prop):Prop :=
 match r with
 | some (v,H)=>K v H
 | none=>False
def Wx(P:Program)(f:FuncId)(vs:List AV)(d:Option Tmp)(K:Kt)(e:Fs)(H:FP):Prop:=∃ v,FQ P f vs v/\K (put d v e) H
def Fr(P:Program)(f:FuncId)(vs:List AV)(d:Option Tmp)(K:Kt)(e:Fs)(H:FP):Prop:=FV P f vs H λv H'=>K (put d v e) H'
section
variable {P:Program} {n:Nat} {h:Ec} {ops:Array Oper} {K:Kt} {p:Tmp×AV} {e:Fs} {H:FP} {d:Tmp} {ty:TypeId} {ps:String} {af:Array Edge} {Q:Exit->Kt} {ar:Option Nat}
def sa(t k:Tmp)(v:AV):Fq ((k,v)::e) t=if k=t then v else Fq e t:=rfl
def AAw(t:Tmp):Fq [] t = .undef:=rfl
def xB:Hh [] e=[]:=rfl
def nY(t:Tmp)(l:List Tmp):Hh (t::l) e=(t,Fq e t)::Hh l e:=rfl
def zy(v:AV):put (some d) v e=(d,v)::e:=rfl
def nP:Gi n (some d)=(d<n):=rfl
def AFa(o:Option TypeId)(t:Tmp):G7 P o e (.tmp t)=Fq e t:=rfl
def AFc(o:Option TypeId)(k:IntKind)(m:Int):G7 P o e (.const (.int k m)) = .int k m:=rfl
def ACG(o:Option TypeId)(b:Bool):G7 P o e (.const (.bool b)) = .bool b:=rfl
def AFb(o:Option TypeId)(s:ByteArray):G7 P o e (.const (.string s)) = .str s:=rfl
def ACD(o:Option TypeId):G7 P o e (.const (.pointer none)) = .nilp:=rfl
def ACE(o:Option TypeId):G7 P o e (.const .nilFunc) = .nilf:=rfl
def ACC(o:Option TypeId):G7 P o e (.const (.slice none 0 0)) = .sl (Si P o) []:=rfl
def ACF(o:Option TypeId)(f:FuncId):G7 P o e (.func f) = .fn (.func f) [] []:=rfl
def fA:Si P none=none:=rfl
def e8(t:TypeId):Si P (some t)=match P.underlying t with
  | some (.slice e)=>some (P.cellsOf e)
  | _=>none:=rfl
def sK(k:IntKind)(m:Int):(AV.int k m).owned=false:=rfl
def lq(b:Bool):(AV.bool b).owned=false:=rfl
def sF(b:ByteArray):(AV.str b).owned=false:=rfl
def lj:AV.nilp.owned=false:=rfl
def sI(a b:Nat):(AV.ptr a b).owned=false:=rfl
def lp(a:List AV)(b:Nat):(AV.cptr a b).owned=false:=rfl
def sH(es:List AV):(AV.sl none es).owned=false:=rfl
def sG(k:Nat)(es:List AV):(AV.sl (some k) es).owned=true:=rfl
def sJ(a b c k:Nat):(AV.msl a b c k).owned=false:=rfl
def ll(a b c k m:Nat):(AV.mslc a b c k m).owned=false:=rfl
def AAb(f:Fn)(a b:List AV):(AV.fn f a b).owned=false:=rfl
def lk:AV.nilf.owned=false:=rfl
def sL(cs:List AV):(AV.agg cs).owned=cs.any GE:=rfl
def sE(cs:List AV):(AV.tup cs).owned=(cs.flatMap AV.cells).any GE:=rfl
def lr(es:List AV):GE (AV.sl none es)=false:=rfl
def lu(k:IntKind)(m:Int):GE (AV.int k m)=false:=rfl
def eM(b:Bool):GE (AV.bool b)=false:=rfl
def ls(a b c k:Nat):GE (AV.msl a b c k)=false:=rfl
def oC(k:IntKind)(m:Int):(AV.int k m).borrow = .int k m:=rfl
def ik(b:Bool):(AV.bool b).borrow = .bool b:=rfl
def n9(b:ByteArray):(AV.str b).borrow = .str b:=rfl
def oA(a b:Nat):(AV.ptr a b).borrow = .ptr a b:=rfl
def ij(a:List AV)(b:Nat):(AV.cptr a b).borrow = .cptr a b:=rfl
def xa(o:Option Nat)(es:List AV):(AV.sl o es).borrow = .sl none es:=rfl
def oB(a b c k:Nat):(AV.msl a b c k).borrow = .msl a b c k:=rfl
def ig(a b c k m:Nat):(AV.mslc a b c k m).borrow = .mslc a b c k m:=rfl
def xb(f:Fn)(a b:List AV):(AV.fn f a b).borrow = .fn f a b:=rfl
def oD(cs:List AV):(AV.agg cs).borrow = .agg (cs.map borrow1):=rfl
def n8(cs:List AV):(AV.tup cs).borrow = .tup (cs.map borrow0):=rfl
def oE(o:Option Nat)(es:List AV):borrow1 (AV.sl o es) = .sl none es:=rfl
def il(k:IntKind)(m:Int):borrow1 (AV.int k m) = .int k m:=rfl
def xL(cs:List AV):(AV.agg cs).cells=cs:=rfl
def xJ(k:IntKind)(m:Int):(AV.int k m).cells=[.int k m]:=rfl
def nh(b:Bool):(AV.bool b).cells=[.bool b]:=rfl
def xG(b:ByteArray):(AV.str b).cells=[.str b]:=rfl
def nb:AV.nilp.cells=[.nilp]:=rfl
def xH(a b:Nat):(AV.ptr a b).cells=[.ptr a b]:=rfl
def ACT(o:Option Nat)(es:List AV):(AV.sl o es).cells=[.sl o es]:=rfl
def xI(a b c k:Nat):(AV.msl a b c k).cells=[.msl a b c k]:=rfl
def tO(cs:List AV):(AV.agg cs).isVal=true:=rfl
def tN(k:IntKind)(m:Int):(AV.int k m).isVal=true:=rfl
def me(b:Bool):(AV.bool b).isVal=true:=rfl
def tK(b:ByteArray):(AV.str b).isVal=true:=rfl
def tL(a b:Nat):(AV.ptr a b).isVal=true:=rfl
def ABP(o:Option Nat)(es:List AV):(AV.sl o es).isVal=true:=rfl
def tM(a b c k:Nat):(AV.msl a b c k).isVal=true:=rfl
def lm(a:Nat):(AV.mapr a).owned=false:=rfl
def sD(a:Nat)(L:Ed):(AV.yld a L).owned=false:=rfl
def sO(f:Fn)(a b:List AV):GE (AV.fn f a b)=false:=rfl
def eJ:GE AV.nilf=false:=rfl
def ii(a:Nat):(AV.mapr a).borrow = .mapr a:=rfl
def nz(a:Nat)(L:Ed):(AV.yld a L).borrow = .yld a L:=rfl
def ng(a:Nat):(AV.mapr a).cells=[.mapr a]:=rfl
def nc:AV.nilm.cells=[.nilm]:=rfl
def ACU(f:Fn)(a b:List AV):(AV.fn f a b).cells=[.fn f a b]:=rfl
def nf:AV.nilf.cells=[.nilf]:=rfl
def xF(a:Nat)(L:Ed):(AV.yld a L).cells=[.yld a L]:=rfl
def md(a:Nat):(AV.mapr a).isVal=true:=rfl
def ABQ(f:Fn)(a b:List AV):(AV.fn f a b).isVal=true:=rfl
def tJ(a:Nat)(L:Ed):(AV.yld a L).isVal=true:=rfl
def zJ(b:Bool)(x:Operand)(v:AV)(e:Fs):Fs :=
 match b,x with
 | true,.tmp t=>(t,v.borrow)::e
 | _,_=>e
def AVa(x:Operand)(v:AV):XF x v e=zJ v.owned x v e:=rfl
def AHt(x:Operand)(v:AV):zJ false x v e=e:=rfl
def AHs(t:Tmp)(v:AV):zJ true (.tmp t) v e=(t,v.borrow)::e:=rfl
def lC(b:Bool)(c:Value)(v:AV):zJ b (.const c) v e=e:=by cases b<;>rfl
def rS(b:Bool)(f:FuncId)(v:AV):zJ b (.func f) v e=e:=by cases b<;>rfl
def ACs(v:AV):bnd (some v) d K e H=K ((d,v)::e) H:=AG rfl rfl
def xe(v:AV)(dd:Option Tmp):AF9 (some (v,H)) dd K e=K (put dd v e) H:=AG rfl rfl
def m6(t:Tmp)(b:Bool)(A B:Kt):ABt (some t) b A B e H=V8 (Fq e t) b A B e H:=AG rfl rfl
def AFN(A B:Kt):V8 (.bool true) true A B e H=A e H:=AG rfl rfl
def AFQ(A B:Kt):V8 (.bool false) false A B e H=A e H:=AG rfl rfl
def AFO(A B:Kt):V8 (.bool true) false A B e H=B e H:=AG rfl rfl
def AFP(A B:Kt):V8 (.bool false) true A B e H=B e H:=AG rfl rfl
def ABu(b:Bool)(vs:List AV)(A B:Kt):V8 (.tup vs) b A B e H=B e H:=by simp [V8]
def zY(dd:Option Tmp):zZ n dd K e H=(Gi n dd/\K (put dd (.tup []) e) H):=AG rfl rfl
def AFi(A B:Kt):iJ (.bool true) A B e H=A e H:=AG rfl rfl
def AFj(A B:Kt):iJ (.bool false) A B e H=B e H:=AG rfl rfl
def Tj(t:Bool)(A B:Kt)(ht:t=true->A e H)(hf:t=false->B e H):iJ (.bool t) A B e H:=by
 cases t
 ·exact hf rfl
 ·exact ht rfl
def m7(t b:Bool)(A B:Kt)(ht:t=b->A e H)(hf:t=(!b)->B e H):V8 (.bool t) b A B e H:=by
 cases t<;>cases b<;>first|exact ht rfl|exact hf rfl
def ADH:LL P n h ops [] K (p::e) H=K (p::e) H:=AG rfl rfl
def xm(o:Oper)(l:List Oper):LL P n h ops (o::l) K (p::e) H=Ic P n h ops o (LL P n h ops l K) (p::e) H:=AG rfl rfl
def ADE:I7 P n h ar .skip Q (p::e) H=Q .normal (p::e) H:=AG rfl rfl
def AGF:I7 P n h ar .ret Q (p::e) H=Q .ret (p::e) H:=AG rfl rfl
def ADF(id:Nat):I7 P n h ar (.exit id) Q (p::e) H=Q (.exit id) (p::e) H:=AG rfl rfl
def AGE(a b:Code):I7 P n h ar (.seq a b) Q (p::e) H=I7 P n h ar a (zb (I7 P n h ar b Q) Q) (p::e) H:=AG rfl rfl
def xl(id:Nat)(c:Code):I7 P n h ar (.block id c) Q (p::e) H=I7 P n h ar c (bA id Q) (p::e) H:=AG rfl rfl
def ADG(c:Operand)(a b:Code):I7 P n h ar (.cond c a b) Q (p::e) H=iJ (G7 P none (p::e) c) (I7 P n h ar a Q) (I7 P n h ar b Q) (p::e) H:=AG rfl rfl
def oI(id:Nat)(ops:Array Oper)(dr:Bool)(hd:h.dn id=false):I7 P n h ar (.region id ops dr) Q (p::e) H=LL P n h ops ops.toList (nO (h.lv id) (h.at id) (gcK (h.ct id) Q)) (p::e) H:=by
 obtain ⟨h1,h2⟩:=pJ hd ops
 have e1:(λe H=>(h.da id=true->Jg P h ops e)/\Q .normal (Kb (h.at id) (Hh (h.lv id) e) H).1 (T5 (h.ct id) (Kb (h.at id) (Hh (h.lv id) e) H).1 (Kb (h.at id) (Hh (h.lv id) e) H).2))=nO (h.lv id) (h.at id) (gcK (h.ct id) Q):=by
  funext e H
  simp only [h1,Bw,false_implies,true_and]
  rfl
 show LL P n h ops (h.ord id ops) _ (p::e) H=_
 rw [<- e1,h2]
def Abh(P:Program)(h:Ec)(ops:Array Oper)(K:Kt):Kt:=λe H=>Jg P h ops e/\K e H
def HX(id:Nat)(ops:Array Oper)(dr:Bool)(hd:h.dn id=true)(ha:h.da id=true)(hm:h.mv id=[]):I7 P n h ar (.region id ops dr) Q (p::e) H=LL P n h ops ops.toList (Abh P h ops (nO (h.lv id) (h.at id) (gcK (h.ct id) Q))) (p::e) H:=by
 have e1:(λe H=>(h.da id=true->Jg P h ops e)/\Q .normal (Kb (h.at id) (Hh (h.lv id) e) H).1 (T5 (h.ct id) (Kb (h.at id) (Hh (h.lv id) e) H).1 (Kb (h.at id) (Hh (h.lv id) e) H).2))=Abh P h ops (nO (h.lv id) (h.at id) (gcK (h.ct id) Q)):=by
  funext e H
  simp only [ha,true_implies]
  rfl
 have h2:h.ord id ops=ops.toList:=by unfold Hint.ord;rw [hm]
 show LL P n h ops (h.ord id ops) _ (p::e) H=_
 rw [<- e1,h2]
def PA(id:Nat)(ops:Array Oper)(dr:Bool)(hd:h.dn id=true)(ha:h.da id=false):I7 P n h ar (.region id ops dr) Q (p::e) H=LL P n h ops (h.ord id ops) (nO (h.lv id) (h.at id) (gcK (h.ct id) Q)) (p::e) H:=by
 have e1:(λe H=>(h.da id=true->Jg P h ops e)/\Q .normal (Kb (h.at id) (Hh (h.lv id) e) H).1 (T5 (h.ct id) (Kb (h.at id) (Hh (h.lv id) e) H).1 (Kb (h.at id) (Hh (h.lv id) e) H).2))=nO (h.lv id) (h.at id) (gcK (h.ct id) Q):=by
  funext e H
  simp only [ha,Bw,false_implies,true_and]
  rfl
 show LL P n h ops (h.ord id ops) _ (p::e) H=_
 rw [<- e1]
def rfK(P:Program)(n:Nat)(h:Ec)(ar:Option Nat)(g:Operand)(rs:Array Tmp)(assign body:Code)(Q:Exit->Kt):Kt:=I7 P n h ar (.rangeFunc g rs assign body) Q
def Xp(g:Operand)(rs:Array Tmp)(assign body:Code):I7 P n h ar (.rangeFunc g rs assign body) Q (p::e) H=rfK P n h ar g rs assign body Q (p::e) H:=AG rfl rfl
def AFe(live:List Tmp)(zs:List (Tmp×Option Nat×Bool)):nO live zs Q (p::e) H=Xj zs Q (Hh live (p::e)) H:=AG rfl rfl
def ABz:Xj [] Q e H=Q .normal e H:=AG rfl rfl
def ws(z:Tmp×Option Nat×Bool)(zs:List (Tmp×Option Nat×Bool)):Xj (z::zs) Q e H=Xj zs Q (gR z e H).1 (gR z e H).2:=rfl
def ABy:gcK none Q=Q:=by
 funext ex e H
 cases ex<;>rfl
def ABx(k:Nat):gcK (some k) Q .normal e H=if k<=H.length/\Fo k (e.map (·.2))=true/\Uo (H.take k)=true then Q .normal e (H.take k) else Q .normal e H:=by
 simp only [gcK,T5]
 split<;>rfl
def dL(B:Kt):zb B Q .normal=B:=AG rfl rfl
def za(B:Kt):zb B Q .ret=Q .ret:=AG rfl rfl
def rc(B:Kt)(j:Nat):zb B Q (.exit j)=Q (.exit j):=AG rfl rfl
def ir(id:Nat):bA id Q .normal=Q .normal:=AG rfl rfl
def ACt(id:Nat):bA id Q .ret=Q .ret:=AG rfl rfl
def ACu(id:Nat):bA id Q (.exit id)=Q .normal:=by
 funext e H;simp [bA]
def xf(id j:Nat)(hj:(j==id)=false):bA id Q (.exit j)=Q (.exit j):=by
 funext e H
 have:j≠id:=by simpa using hj
 simp [bA,this]
def ADd(rs:Array ResultVar)(K:AV->FP->Prop):TC P n rs K .ret e H=dU P n rs.toList e H λvs _ H'=>QP K vs H':=AG rfl rfl
def jd(rs:Array ResultVar)(K:AV->FP->Prop):TC P n rs K .normal e H=dU P n rs.toList e H λvs _ H'=>QP K vs H':=AG rfl rfl
def AEW(K:List AV->Fs->FP->Prop):dU P n [] e H K=K [] e H:=AG rfl rfl
def AEV(t:Tmp)(rs:List ResultVar)(K:List AV->Fs->FP->Prop):dU P n (.tmp t::rs) e H K=(t<n/\dU P n rs (XF (.tmp t) (Fq e t) e) H λvs=>K (Fq e t::vs)):=by
 have e1:(NB P none true (.tmp t) e).2=XF (.tmp t) (Fq e t) e:=by
  simp only [NB,G7,XF]
  cases (Fq e t).owned<;>rfl
 simp only [dU,e1]
 rfl
def dR(t:Tmp)(ty:TypeId)(rs:List ResultVar)(K:List AV->Fs->FP->Prop):dU P n (.cell t ty::rs) e H K=(t<n/\rdK (pX P ty (Fq e t) H) λv H'=>dU P n rs e H' λvs=>K (v::vs)):=by
 simp only [dU,pX]
 congr 1
 cases Fq e t with
 | ptr ob off =>
  dsimp only
  cases H[ob]? with
  | none=>rfl
  | some c=>cases c with
   | none=>rfl
   | some cs =>
    dsimp only
    cases Lj P ty cs off with
    | none=>rfl
    | some v =>
     dsimp only
     by_cases hv:v.owned=true
     ·rw [iP hv,iP hv];rfl
     ·rw [iN hv,iN hv];rfl
 | _=>rfl
def zt(v:AV)(K:AV->FP->Prop):rdK (some (v,H)) K=K v H:=AG rfl rfl
def zm(v:AV)(K:AV->FP->Prop):QP K [v] H=K v H:=AG rfl rfl
def zn(K:AV->FP->Prop):QP K [] H=K (.tup []) H:=by simp [QP]
def zj(u v:AV)(K:AV->FP->Prop):QP K [u,v] H=(u.isVal=true/\v.isVal=true/\K (.tup [u,v]) H):=by simp [QP,and_assoc]
def lM(u v x:AV)(K:AV->FP->Prop):QP K [u,v,x] H=(u.isVal=true/\v.isVal=true/\x.isVal=true/\K (.tup [u,v,x]) H):=by simp [QP,and_assoc]
def Wx.intro{f:FuncId}{vs:List AV}{dd:Option Tmp}{v:AV}(hc:FQ P f vs v)(hk:K (put dd v e) H):Wx P f vs dd K e H:=⟨v,hc,hk⟩
def Fr.intro{f:FuncId}{vs:List AV}{dd:Option Tmp}{R:AV->FP->Prop}(hc:FV P f vs H R)(hk : ∀ v H',R v H'->K (put dd v e) H'):Fr P f vs dd K e H:=hc.mono hk
def Fr.pure{f:FuncId}{vs:List AV}{dd:Option Tmp}{v:AV}(hc:FQ P f vs v)(hk:K (put dd v e) H):Fr P f vs dd K e H:=(hc H).mono λv' H' hq=>by obtain ⟨rfl,rfl⟩:=hq;exact hk
def LD{f:FuncId}{vs:List AV}{dd:Option Tmp}{Q:AV->Prop}(hc:KL P f vs Q)(hk : ∀ v,Q v->K (put dd v e) H):Fr P f vs dd K e H:=(hc H).mono λv' H' hq=>by obtain ⟨h1,rfl⟩:=hq;exact hk v' h1
end
end Go.AI
namespace Go.AI
def JH(P:Program):List Operand->Fs->List AV×Fs
 | [],e=>([],e)
 | x::xs,e=>((G7 P none e x)::(JH P xs (XF x (G7 P none e x) e)).1,(JH P xs (XF x (G7 P none e x) e)).2)
def YV(P:Program)(tk:Bool)(t:TypeId)(a:AV)(H:FP):Option (AV×FP) :=
 match a with
 | .ptr ob off=>match H[ob]? with
  | some (some cs)=>match Lj P t cs off with
   | some v=>match tk with
    | true=>if v.owned=true/\v.scalar=true then some (v,H.set ob (some (splice cs off (v.cells.map borrow1)))) else none
    | false=>some (v.borrow,H)
   | none=>none
  | _=>none
 | .cptr cs off=>match Lj P t cs off with
  | some v=>some (v.borrow,H)
  | none=>none
 | _=>none
def Uw(P:Program)(t:TypeId)(a v:AV)(H:FP):Option FP :=
 match a with
 | .ptr ob off=>match H[ob]? with
  | some (some cs)=>if v.isVal=true/\v.cells.length=P.cellsOf t/\0<P.cellsOf t/\off+P.cellsOf t<=cs.length then some (H.set ob (some (splice cs off v.cells))) else none
  | _=>none
 | _=>none
def stK(r:Option FP)(K:Kt)(e:Fs):Prop :=
 match r with
 | some H=>K e H
 | none=>False
def rM(a:AV)(k:Nat):Option AV :=
 match a with
 | .ptr ob off=>some (.ptr ob (off+k))
 | .cptr cs off=>some (.cptr cs (off+k))
 | _=>none
def fieldAt(P:Program)(s f:Nat):Option Field :=
 match P.underlying s with
 | some (.struct fs)=>fs[f]?
 | _=>none
def SJ(P:Program)(fd:Option Field)(x:AV):Option AV :=
 match fd with
 | some fd=>if 0<P.cellsOf fd.type then rM x fd.offset else none
 | none=>none
def YU(P:Program)(fd:Option Field)(x:AV):Option AV :=
 match fd,x with
 | some fd,.agg cs=>Lj P fd.type cs fd.offset
 | _,_=>none
def zC(x:AV):Option AV :=
 match x with
 | .ptr ob off=>some (.ptr ob off)
 | .cptr cs off=>some (.cptr cs off)
 | .fn (.func f) a b=>some (.fn (.func f) a b)
 | .yld o L=>some (.yld o L)
 | _=>none
def y5(c a b:AV):Option AV :=
 match c with
 | .bool c=>some (if c=true then a else b)
 | _=>none
def OO(x:AV)(i:Nat):Option AV :=
 match x with
 | .tup vs=>vs[i]?
 | _=>none
def zD(d:Option TypeDesc)(x:AV):Option AV :=
 match d,x with
 | some (.slice _),.sl _ es=>some (.int .i64 es.length)
 | some (.slice _),.msl _ _ len _=>some (.int .i64 len)
 | some (.slice _),.mslc _ _ len _ _=>some (.int .i64 len)
 | some .string,.str s=>some (.int .i64 s.size)
 | some (.array n _),_=>some (.int .i64 n)
 | _,_=>none
def vUn(op:UnOp)(x:AV):Option AV :=
 match op,x with
 | .neg,.int k m=>some (.int k (k.wrap (0 - m)))
 | .not,.bool b=>some (.bool !b)
 | _,_=>none
section
variable {P:Program} {n:Nat} {h:Ec} {ops:Array Oper} {K:Kt} {p:Tmp×AV} {e:Fs} {H:FP} {d:Tmp} {ty:TypeId} {ps:String} {af:Array Edge} {Q:Exit->Kt}
def NA : ∀ (xs:List Operand) (e:Fs),ON P none true xs e=JH P xs e
 | [],e=>rfl
 | x::xs,e=>by
  have:(NB P none true x e).2=XF x (G7 P none e x) e:=by
   simp only [NB,XF]
   cases x with
   | tmp t=>simp only [G7];cases (Fq e t).owned<;>rfl
   | _=>cases (G7 P none e _).owned<;>rfl
  simp only [ON,JH,this,NA xs]
  rfl
def GF(ty:Option TypeId): ∀ (xs:List Operand) (e:Fs),ON P ty false xs e=(xs.map λx=>(G7 P ty e x).borrow,e)
 | [],e=>rfl
 | x::xs,e=>by simp only [ON,NB,GF ty xs,AS]
def rR:JH P [] e=([],e):=rfl
def lB(x:Operand)(xs:List Operand):JH P (x::xs) e=((G7 P none e x)::(JH P xs (XF x (G7 P none e x) e)).1,(JH P xs (XF x (G7 P none e x) e)).2):=rfl
def F6(o:Oper)(hg:o.guard=none):Ic P n h ops o K e H=(Gi n o.dst/\Fd P h o (ON P (HV o) (Fz h o) o.op.operands.toList e).1 H λv H'=>K (put o.dst v (ON P (HV o) (Fz h o) o.op.operands.toList e).2) H'):=by
 simp only [Ic,kc,hg]
def yA(op:Op)(j:Nat)(b:Bool)(dd:Option Tmp):Ic P n h ops ⟨dd,op,ty,ps,af,some (j,b)⟩ K (p::e) H =
  ABt ((ops[j]?).bind Oper.dst) b (Ic P n h ops ⟨dd,op,ty,ps,af,none⟩ K) (zZ n dd K) (p::e) H:=by
 simp only [Ic,kc,ABt,V8,zZ]
 cases (ops[j]?).bind Oper.dst with
 | none=>rfl
 | some t =>
  simp only
  cases Fq (p::e) t with
  | bool c=>cases c<;>cases b<;>rfl
  | _=>rfl
def Zb(x:Operand)(o:Option TypeId):(NB P o true x e).2=XF x (G7 P o e x) e:=by
 simp only [NB,XF]
 cases x with
 | tmp t=>simp only [G7];cases (Fq e t).owned<;>rfl
 | _=>cases (G7 P o e _).owned<;>rfl
def ADP(x:Operand):Ic P n h ops ⟨some d,.move x,ty,ps,af,none⟩ K (p::e) H =
  (d<n/\bif h.tk.contains d then K ((d,G7 P (some ty) (p::e) x)::XF x (G7 P (some ty) (p::e) x) (p::e)) H else K ((d,(G7 P (some ty) (p::e) x).borrow)::p::e) H):=by
 rw [F6 _ rfl]
 cases ht:h.tk.contains d
 ·simp only [Fz,DB,ht,HV,Op.operands,ON,Fd,put,Gi,cond_false];rfl
 ·simp only [Fz,DB,ht,HV,Op.operands,ON,Zb,Fd,put,Gi,cond_true];rfl
def oS(x:Operand):Ic P n h ops ⟨some d,.assign x,ty,ps,af,none⟩ K (p::e) H =
  (d<n/\K ((d,G7 P (some ty) (p::e) x)::XF x (G7 P (some ty) (p::e) x) (p::e)) H):=by
 rw [F6 _ rfl]
 simp only [Fz,HV,Op.operands,ON,Zb,Fd,put,Gi];rfl
def ADN(c a b:Operand):Ic P n h ops ⟨some d,.pick c a b,ty,ps,af,none⟩ K (p::e) H =
  (d<n/\bnd (y5 (G7 P none (p::e) c).borrow (G7 P none (p::e) a).borrow (G7 P none (p::e) b).borrow) d K (p::e) H):=by
 rw [F6 _ rfl]
 simp only [Fz,HV,Op.operands,GF,AS,Ah,Fd,put,Gi,y5]
 cases (G7 P none (p::e) c).borrow<;>rfl
def AGR(el:TypeId)(x:Operand):Ic P n h ops ⟨some d,.box el x,ty,ps,af,none⟩ K (p::e) H =
  (d<n/\(G7 P none (p::e) x).isVal=true/\K ((d,.ptr H.length 0)::XF x (G7 P none (p::e) x) (p::e)) (H++[some (G7 P none (p::e) x).cells])):=by
 rw [F6 _ rfl]
 simp only [Fz,HV,Op.operands,ON,Zb,Fd,put,Gi];rfl
def ADQ(t:TypeId)(x:Operand):Ic P n h ops ⟨some d,.load t x,ty,ps,af,none⟩ K (p::e) H =
  (d<n/\AF9 (YV P (h.tk.contains d) t (G7 P none (p::e) x).borrow H) (some d) K (p::e)):=by
 rw [F6 _ rfl]
 simp only [Fz,HV,Op.operands,GF,AS,Ah,Fd,put,Gi,YV]
 congr 1
 cases (G7 P none (p::e) x).borrow with
 | ptr ob off =>
  simp only
  cases H[ob]? with
  | none=>rfl
  | some c=>cases c with
   | none=>rfl
   | some cs =>
    simp only
    cases Lj P t cs off with
    | none=>rfl
    | some v =>
     simp only [DB]
     cases h.tk.contains d
     ·rfl
     ·dsimp only
      by_cases hc:v.owned=true/\v.scalar=true
      ·rw [iP hc];simp [hc.1,hc.2,AF9,put]
      ·rw [iN hc]
       simp only [AF9,eq_iff_iff,iff_false]
       intro hx
       exact hc ⟨hx.1,hx.2.1⟩
 | cptr cs off =>
  simp only
  cases Lj P t cs off<;>rfl
 | _=>rfl
def xw(t:TypeId)(a v:Operand):Ic P n h ops ⟨none,.store t a v,ty,ps,af,none⟩ K (p::e) H =
  stK (Uw P t (G7 P (some t) (p::e) a) (G7 P (some t) (XF a (G7 P (some t) (p::e) a) (p::e)) v) H) K (XF v (G7 P (some t) (XF a (G7 P (some t) (p::e) a) (p::e)) v) (XF a (G7 P (some t) (p::e) a) (p::e))):=by
 rw [F6 _ rfl]
 have e1 : ∀ (x:Operand) (e:Fs),(NB P (some t) true x e).1=G7 P (some t) e x:=λ_ _=>rfl
 simp only [Fz,HV,Op.operands,ON,Zb,e1,Fd,put,Gi,Uw,true_and]
 generalize G7 P (some t) (XF a (G7 P (some t) (p::e) a) (p::e)) v=vv
 generalize XF v vv (XF a (G7 P (some t) (p::e) a) (p::e))=e'
 cases G7 P (some t) (p::e) a with
 | ptr ob off =>
  simp only
  cases H[ob]? with
  | none=>rfl
  | some c=>cases c with
   | none=>rfl
   | some cs =>
    simp only
    by_cases hc:vv.isVal=true/\vv.cells.length=P.cellsOf t/\0<P.cellsOf t/\off+P.cellsOf t<=cs.length
    ·rw [iP hc]
     obtain ⟨h1,h2,h3,h4⟩:=hc
     simp only [h1,h2,h3,h4,true_and,stK]
    ·rw [iN hc]
     simp only [stK,eq_iff_iff,iff_false]
     intro hx
     exact hc ⟨hx.1,hx.2.1,hx.2.2.1,hx.2.2.2.1⟩
 | _=>rfl
def bK(x:Operand):Ic P n h ops ⟨some d,.nilCheck x,ty,ps,af,none⟩ K (p::e) H=(d<n/\bnd (zC (G7 P none (p::e) x).borrow) d K (p::e) H):=by
 rw [F6 _ rfl]
 simp only [Fz,HV,Op.operands,GF,AS,Ah,Fd,put,Gi,zC]
 congr 1
 cases (G7 P none (p::e) x).borrow with
 | fn f a b=>cases f<;>rfl
 | _=>rfl
def ADL(op:UnOp)(t:TypeId)(x:Operand):Ic P n h ops ⟨some d,.unOp op t x,ty,ps,af,none⟩ K (p::e) H=(d<n/\bnd (vUn op (G7 P none (p::e) x).borrow) d K (p::e) H):=by
 rw [F6 _ rfl]
 simp only [Fz,HV,Op.operands,GF,AS,Ah,Fd,put,Gi,vUn]
 congr 1
 cases op<;>cases (G7 P none (p::e) x).borrow<;>rfl
def Xv(s f:Nat)(x:Operand):Ic P n h ops ⟨some d,.fieldAddr s x f,ty,ps,af,none⟩ K (p::e) H=(d<n/\bnd (SJ P (fieldAt P s f) (G7 P none (p::e) x).borrow) d K (p::e) H):=by
 rw [F6 _ rfl]
 simp only [Fz,HV,Op.operands,GF,AS,Ah,Fd,put,Gi,SJ,fieldAt]
 congr 1
 cases P.underlying s with
 | none=>rfl
 | some dd=>cases dd with
  | struct fs =>
   simp only
   cases fs[f]? with
   | none=>rfl
   | some fd =>
    simp only
    by_cases hc:0<P.cellsOf fd.type
    ·rw [iP hc]
     simp only [hc,true_and]
     cases (G7 P none (p::e) x).borrow<;>rfl
    ·rw [iN hc]
     simp only [hc,false_and,bnd]
  | _=>rfl
def yB(s f:Nat)(x:Operand):Ic P n h ops ⟨some d,.field s x f,ty,ps,af,none⟩ K (p::e) H=(d<n/\bnd (YU P (fieldAt P s f) (G7 P none (p::e) x).borrow) d K (p::e) H):=by
 rw [F6 _ rfl]
 simp only [Fz,HV,Op.operands,GF,AS,Ah,put,Gi,YU,fieldAt]
 congr 1
 generalize (G7 P none (p::e) x).borrow=a
 unfold Fd
 dsimp only
 cases hu:P.underlying s with
 | none=>cases a<;>simp [bnd,hu]
 | some dd=>cases dd with
  | struct fs =>
   dsimp only
   cases hf:fs[f]? with
   | none=>cases a<;>simp [bnd,hu,hf]
   | some fd=>cases a with
    | agg cs=>simp only [hu,hf];cases Lj P fd.type cs fd.offset<;>rfl
    | _=>simp [bnd]
  | _=>cases a<;>simp [bnd,hu]
def jG(x:Operand)(i:Nat):Ic P n h ops ⟨some d,.extract x i,ty,ps,af,none⟩ K (p::e) H=(d<n/\bnd (OO (G7 P none (p::e) x).borrow i) d K (p::e) H):=by
 rw [F6 _ rfl]
 simp only [Fz,HV,Op.operands,GF,AS,Ah,Fd,put,Gi,OO]
 congr 1
 cases (G7 P none (p::e) x).borrow with
 | tup vs=>simp only;cases vs[i]?<;>simp [bnd]
 | _=>rfl
def AGP(x:Operand)(t:TypeId):Ic P n h ops ⟨some d,.call ⟨.builtin .len,#[x],#[t]⟩,ty,ps,af,none⟩ K (p::e) H=(d<n/\bnd (zD (P.underlying t) (G7 P none (p::e) x).borrow) d K (p::e) H):=by
 rw [F6 _ rfl]
 have e1:(#[]++#[x]:Array Operand).toList=[x]:=rfl
 simp only [Fz,HV,Op.operands,Call.operands,e1,GF,AS,Ah,Fd,put,Gi,zD]
 congr 1
 simp only [Bf,A7,Bb]
 cases P.underlying t with
 | none=>cases (G7 P none (p::e) x).borrow<;>rfl
 | some dd=>cases dd<;>cases (G7 P none (p::e) x).borrow<;>rfl
end
end Go.AI
namespace Go.AI
def JF(P:Program)(op:BinOp)(t:TypeId)(a b:AV)(d:Tmp)(K:Kt)(e:Fs)(H:FP):Prop:=Kq P op t a b λv=>K ((d,v)::e) H
def mf(P:Program)(t:TypeId):Bool:=match P.underlying t with|some (.slice _)=>true|_=>false
def sW(P:Program)(op:BinOp)(t:TypeId)(a:AV)(d:Tmp)(K:Kt)(e:Fs)(H:FP):Prop:=NY P op t a λv=>K ((d,v)::e) H
def AGC(P:Program)(op:BinOp)(t:TypeId)(z:Bool)(a b:AV)(d:Tmp)(K:Kt)(e:Fs)(H:FP):Prop :=
 match z with
 | true=>sW P op t a d K e H
 | false=>JF P op t a b d K e H
def Lo(P:Program)(u:Option TypeDesc)(x:AV)(i:AV):Option AV :=
 match i with
 | .int _ i=>match u,x with
  | some (.slice e),.sl _ es=>if 0<=i then (es[i.toNat]?).bind λv=>if v.cells.length=P.cellsOf e/\0<P.cellsOf e then some (.cptr v.cells 0) else none else none
  | some (.slice e),.msl ob off len sz=>if 0<=i/\i<len/\sz=P.cellsOf e/\0<sz then some (.ptr ob (off+i.toNat*sz)) else none
  | some (.array n e),.ptr ob off=>if 0<=i/\i<n/\0<P.cellsOf e then some (.ptr ob (off+i.toNat*P.cellsOf e)) else none
  | some (.array n e),.cptr cs off=>if 0<=i/\i<n/\0<P.cellsOf e then some (.cptr cs (off+i.toNat*P.cellsOf e)) else none
  | _,_=>none
 | _=>none
def Ux(P:Program)(u:Option TypeDesc)(x:AV)(i:AV):Option AV :=
 match i with
 | .int _ i=>match u,x with
  | some .string,.str s=>if 0<=i/\i<s.size then some (.int .u8 ((s.data[i.toNat]?).getD 0).toNat) else none
  | some (.array n e),.agg cs=>if 0<=i/\i<n/\0<P.cellsOf e then Lj P e cs (i.toNat*P.cellsOf e) else none
  | _,_=>none
 | _=>none
def jC(P:Program)(el:TypeId)(mt ln:Bool)(H:FP)(a:AV)(xs:List AV)(d:Tmp)(K:Kt)(e:Fs):Prop:=Nv P el mt ln H a xs λv H'=>K ((d,v)::e) H'
def Ab2(P:Program)(el:TypeId)(mt ln:Bool)(xs:Option (List AV))(a:AV)(d:Tmp)(K:Kt)(e:Fs)(H:FP):Prop :=
 match xs with
 | some xs=>jC P el mt ln H a xs d K e
 | none=>False
def ATi(P:Program)(mt tk ln:Bool)(t:TypeId)(vs:List AV)(d:Tmp)(K:Kt)(e:Fs)(H:FP):Prop :=
 match vs with
 | [a,b]=>match P.underlying t with
  | some (.slice el)=>0<P.cellsOf el/\Gj P el=true/\Ab2 P el mt ln (S5 P el (mt||tk) H b) a d K e H
  | _=>False
 | _=>False
def ADs(P:Program)(f:FuncId)(vs:List AV)(d:Option Tmp)(K:Kt)(e:Fs)(H:FP):Prop:=∃ v ext,FV P f vs H (λv2 H2=>v2=v/\H2=H++ext)/\K (put d v e) (H++ext)
def pA(P:Program)(f:FuncId)(vs:List AV)(d:Option Tmp)(K:Kt)(e:Fs)(H:FP):Prop:=∃ v,(PG P f vs H v\/QD P f vs H v)/\K (put d v e) H
def Me(P:Program)(o:Nat)(L:Ed)(vs:List AV)(d:Option Tmp)(K:Kt)(e:Fs)(H:FP):Prop:=L8 P o L vs H λv H'=>K (put d v e) H'
def Me.intro{P:Program}{o:Nat}{L:Ed}{vs:List AV}{d:Option Tmp}{K:Kt}{e:Fs}{H:FP}{R:AV->FP->Prop}(hc:L8 P o L vs H R)(hk : ∀ v H',R v H'->K (put d v e) H'):Me P o L vs d K e H:=hc.mono hk
def AHB(P:Program)(pc mt:Bool)(vs:List AV)(d:Option Tmp)(K:Kt)(e:Fs)(H:FP):Prop :=
 match vs with
 | .fn (.func f) first captured::args=>match pc with
  | true=>match mt with
   | true=>pA P f (first.map AV.borrow++args++captured.map AV.borrow) d K e H
   | false=>Wx P f (first.map AV.borrow++args++captured.map AV.borrow) d K e H
  | false=>match mt with
   | true=>ADs P f (first.map AV.borrow++args++captured.map AV.borrow) d K e H
   | false=>Fr P f (first.map AV.borrow++args++captured.map AV.borrow) d K e H
 | .yld o L::args=>(pc=false/\mt=false)/\Me P o L args d K e H
 | _=>False
def SK(P:Program)(t:TypeId)(is:List Nat)(vs:List AV):Option AV :=
 match P.underlying t with
 | some (.struct fs)=>if M8 P fs=true then match Fi P t with
  | some (.agg z)=>(IG ((Iq P fs)[·]?) z is vs).map .agg
  | _=>none
  else none
 | some (.array _ e)=>if (P.info? e).isSome=true then match Fi P t with
  | some (.agg z)=>(IG (λi=>some (i*P.cellsOf e,P.cellsOf e)) z is vs).map .agg
  | _=>none
  else none
 | _=>none
def AIN(P:Program)(mt:Bool)(t len:Nat)(is:List Nat)(vs:List AV)(d:Tmp)(K:Kt)(e:Fs)(H:FP):Prop :=
 match P.underlying t with
 | some (.slice el)=>0<P.cellsOf el/\len*P.cellsOf el<=16777216/\is=Am len/\(∀ v∈vs,v.isVal=true/\v.cells.length=P.cellsOf el)/\Gj P el=true /\
   match mt with
   | true=>K ((d,.msl H.length 0 len (P.cellsOf el))::e) (H++[some (HU (vs.map AV.borrow))])
   | false=>K ((d,.sl (some (P.cellsOf el)) (vs.map AV.borrow))::e) H
 | _=>False
def zW(P:Program)(mt:Bool)(t:TypeId)(bl bh bm:Bool)(vs:List AV)(d:Tmp)(K:Kt)(e:Fs)(H:FP):Prop :=
 match vs with
 | x::rest=>match Pk bl bh bm rest with
  | some (l,hh,m)=>match mt with
   | true=>KB P t x l hh m H λv=>K ((d,v)::e) H
   | false=>Nt P t x l hh m λv=>K ((d,v)::e) H
  | none=>False
 | []=>False
def mmK(mn:Bool)(vs:List AV)(d:Tmp)(K:Kt)(e:Fs)(H:FP):Prop :=
 match vs with
 | [.int k a,.int k' b]=>k=k'/\K ((d,.int k (if mn then (if b<a then b else a) else (if b>a then b else a)))::e) H
 | _=>False
def AG9(P:Program)(su du:Option TypeDesc)(x:AV)(d:Tmp)(K:Kt)(e:Fs)(H:FP):Prop :=
 match su,du,x with
 | some _,some (.int k),.int _ m=>K ((d,.int k (k.wrap m))::e) H
 | some .string,some .string,.str s=>K ((d,.str s)::e) H
 | some (.slice el),some .string,.sl _ es=>P.underlying el=some (.int .u8)/\(∀ x∈es,Ol x=true)/\K ((d,.str (Pj es))::e) H
 | _,_,_=>False
def mkK(P:Program)(t:TypeId)(vs:List AV)(d:Tmp)(K:Kt)(e:Fs)(H:FP):Prop :=
 match vs with
 | [.int _ n,.int _ c]=>match P.underlying t with
  | some (.slice el)=>n=c/\0<=n/\n*P.bytesOf el<=140737488355328/\n<=9223372036854775807/\(P.info? el).isSome=true /\ ∃ z,Fi P el=some z/\z.cells.length=P.cellsOf el/\0<P.cellsOf el /\
    K ((d,.msl H.length 0 n.toNat (P.cellsOf el))::e) (H++[some (A4 n.toNat z.cells).flatten])
  | _=>False
 | _=>False
section
variable {P:Program} {n:Nat} {h:Ec} {ops:Array Oper} {K:Kt} {p:Tmp×AV} {e:Fs} {H:FP} {d:Tmp} {ty:TypeId} {ps:String} {af:Array Edge} {Q:Exit->Kt}
def yE(op:BinOp)(t t':TypeId)(x y:Operand):Ic P n h ops ⟨some d,.binOp op t x y t',ty,ps,af,none⟩ K (p::e) H =
  (d<n/\AGC P op t (Ks y) (G7 P none (p::e) x).borrow (G7 P none (p::e) y).borrow d K (p::e) H):=by
 rw [F6 _ rfl]
 simp only [Fz,HV,Op.operands,GF,AS,Ah,Fd,put,Gi,AGC]
 cases Ks y<;>rfl
def ATg{op:BinOp}{t:TypeId}{a b:AV}:AGC P op t false a b d K e H=JF P op t a b d K e H:=AG rfl rfl
def ATf{op:BinOp}{t:TypeId}{a b:AV}:AGC P op t true a b d K e H=sW P op t a d K e H:=AG rfl rfl
def eu(t:Tmp):Ks (.tmp t)=false:=rfl
def e7(k:IntKind)(m:Int):Ks (.const (.int k m))=false:=rfl
def ey(s:ByteArray):Ks (.const (.string s))=false:=rfl
def ez:Ks (.const (.slice none 0 0))=true:=rfl
section
variable {t:TypeId}
def qK(hp:mf P t=true): ∃ e,P.underlying t=some (.slice e):=by
 unfold mf at hp
 split at hp
 ·exact ⟨_,‹_›⟩
 ·cases hp
def Z6{o:Option Nat}(hp:mf P t=true):sW P .eql t (.sl o []) d K e H=(K ((d,.bool true)::e) H/\K ((d,.bool false)::e) H):=by
 obtain ⟨el,hu⟩:=qK hp;simp [sW,NY,hu]
def XY{o:Option Nat}{x:AV}{xs:List AV}(hp:mf P t=true):sW P .eql t (.sl o (x::xs)) d K e H=K ((d,.bool false)::e) H:=by
 obtain ⟨el,hu⟩:=qK hp;simp [sW,NY,hu]
end
def ADW(t:TypeId)(k k':IntKind)(x y:Int):Kp P t (.int k x) (.int k' y)=none:=by
 unfold Kp;split<;>simp_all
def ADV(t:TypeId)(x y:ByteArray):Kp P t (.str x) (.str y)=none:=by
 unfold Kp;split<;>simp_all
def HP{op:BinOp}{t:TypeId}{k k':IntKind}{x y:Int}:JF P op t (.int k x) (.int k' y) d K e H=KE op (.int k x) (.int k' y) λv=>K ((d,v)::e) H:=by
 unfold JF Kq
 rw [ADW]
 cases op<;>rfl
def O7{op:BinOp}{t:TypeId}{x y:ByteArray}:JF P op t (.str x) (.str y) d K e H=KE op (.str x) (.str y) λv=>K ((d,v)::e) H:=by
 unfold JF Kq
 rw [ADV]
 cases op<;>rfl
section
variable {t:TypeId} {k:IntKind} {x y:Int}
def ADB:JF P .add t (.int k x) (.int k y) d K e H=K ((d,.int k (k.wrap (x+y)))::e) H:=by rw [HP];simp [KE]
def AC1:JF P .sub t (.int k x) (.int k y) d K e H=K ((d,.int k (k.wrap (x - y)))::e) H:=by rw [HP];simp [KE]
def AC5:JF P .mul t (.int k x) (.int k y) d K e H=K ((d,.int k (k.wrap (x*y)))::e) H:=by rw [HP];simp [KE]
def AC3:JF P .quo t (.int k x) (.int k y) d K e H=(y≠0/\K ((d,.int k (k.wrap (x.tdiv y)))::e) H):=by rw [HP];simp [KE]
def AC2:JF P .rem t (.int k x) (.int k y) d K e H=(y≠0/\K ((d,.int k (x.tmod y))::e) H):=by rw [HP];simp [KE]
def ADA:JF P .eql t (.int k x) (.int k y) d K e H=K ((d,.bool (x==y))::e) H:=by rw [HP];simp [KE]
def AC4:JF P .neq t (.int k x) (.int k y) d K e H=K ((d,.bool (x !=y))::e) H:=by rw [HP];simp [KE]
def AC6:JF P .lss t (.int k x) (.int k y) d K e H=K ((d,.bool (decide (x<y)))::e) H:=by rw [HP];simp [KE]
def AC7:JF P .leq t (.int k x) (.int k y) d K e H=K ((d,.bool (decide (x<=y)))::e) H:=by rw [HP];simp [KE]
def AC8:JF P .gtr t (.int k x) (.int k y) d K e H=K ((d,.bool (decide (y<x)))::e) H:=by rw [HP];simp [KE]
def AC9:JF P .geq t (.int k x) (.int k y) d K e H=K ((d,.bool (decide (y<=x)))::e) H:=by rw [HP];simp [KE]
end
def xi{t:TypeId}{x y:ByteArray}:JF P .eql t (.str x) (.str y) d K e H=K ((d,.bool (x.toList==y.toList))::e) H:=by rw [O7];simp [KE]
def xh{t:TypeId}{x y:ByteArray}:JF P .neq t (.str x) (.str y) d K e H=K ((d,.bool !(x.toList==y.toList))::e) H:=by rw [O7];simp [KE]
def V4(P:Program)(t:TypeId):Bool:=match P.underlying t with|some .bool=>true|_=>false
def xk{t:TypeId}{x y:Bool}(hp:V4 P t=true):JF P .eql t (.bool x) (.bool y) d K e H=K ((d,.bool (x==y))::e) H:=by
 unfold V4 at hp
 split at hp
 ·rename_i hu;simp [JF,Kq,Kp,hu]
 ·cases hp
def xj{t:TypeId}{x y:Bool}(hp:V4 P t=true):JF P .neq t (.bool x) (.bool y) d K e H=K ((d,.bool !(x==y))::e) H:=by
 unfold V4 at hp
 split at hp
 ·rename_i hu;simp [JF,Kq,Kp,hu]
 ·cases hp
def Xu(t:TypeId)(x i:Operand):Ic P n h ops ⟨some d,.indexAddr t x i,ty,ps,af,none⟩ K (p::e) H =
  (d<n/\bnd (Lo P (P.underlying t) (G7 P none (p::e) x).borrow (G7 P none (p::e) i).borrow) d K (p::e) H):=by
 rw [F6 _ rfl]
 simp only [Fz,HV,Op.operands,GF,AS,Ah,put,Gi]
 congr 1
 generalize (G7 P none (p::e) x).borrow=a
 generalize (G7 P none (p::e) i).borrow=b
 unfold Fd
 dsimp only
 cases b with
 | int k i =>
  dsimp only [Lo]
  cases hu:P.underlying t with
  | none=>rfl
  | some dd=>cases dd with
   | slice el=>cases a with
    | sl own es =>
     dsimp only
     by_cases h0:0<=i
     ·simp only [h0,true_and,if_true]
      cases hi:es[i.toNat]? with
      | none=>simp [bnd]
      | some v =>
       by_cases hc:v.cells.length=P.cellsOf el/\0<P.cellsOf el
       ·obtain ⟨h1,h2⟩:=hc
        simp only [Bb,h1,h2,and_self,if_true,bnd]
        simp [h1]
       ·simp only [Bb,iN hc,bnd,eq_iff_iff,iff_false]
        rintro ⟨v',hv,h1,h2,_⟩
        cases hv
        exact hc ⟨h1,h2⟩
     ·simp [h0,bnd]
    | msl ob off len sz =>
     dsimp only
     by_cases hc:0<=i/\i<len/\sz=P.cellsOf el/\0<sz
     ·rw [iP hc];simp only [hc.1,hc.2.1,hc.2.2.1,true_and,bnd]
      have:=hc.2.2.2
      rw [hc.2.2.1] at this
      simp [this]
     ·rw [iN hc];simp only [bnd,eq_iff_iff,iff_false]
      rintro ⟨h1,h2,h3,h4,_⟩
      exact hc ⟨h1,h2,h3,h4⟩
    | _=>rfl
   | array m el=>cases a with
    | ptr ob off =>
     dsimp only
     by_cases hc:0<=i/\i<m/\0<P.cellsOf el
     ·rw [iP hc];simp only [hc.1,hc.2.1,hc.2.2,true_and,bnd]
     ·rw [iN hc];simp only [bnd,eq_iff_iff,iff_false]
      rintro ⟨h1,h2,h3,_⟩
      exact hc ⟨h1,h2,h3⟩
    | cptr cs off =>
     dsimp only
     by_cases hc:0<=i/\i<m/\0<P.cellsOf el
     ·rw [iP hc];simp only [hc.1,hc.2.1,hc.2.2,true_and,bnd]
     ·rw [iN hc];simp only [bnd,eq_iff_iff,iff_false]
      rintro ⟨h1,h2,h3,_⟩
      exact hc ⟨h1,h2,h3⟩
    | _=>rfl
   | _=>cases a<;>rfl
 | _=>rfl
def xz(t:TypeId)(x i:Operand):Ic P n h ops ⟨some d,.index t x i,ty,ps,af,none⟩ K (p::e) H =
  (d<n/\bnd (Ux P (P.underlying t) (G7 P none (p::e) x).borrow (G7 P none (p::e) i).borrow) d K (p::e) H):=by
 rw [F6 _ rfl]
 simp only [Fz,HV,Op.operands,GF,AS,Ah,put,Gi]
 congr 1
 generalize (G7 P none (p::e) x).borrow=a
 generalize (G7 P none (p::e) i).borrow=b
 unfold Fd
 dsimp only
 cases b with
 | int k i =>
  dsimp only [Ux]
  cases hu:P.underlying t with
  | none=>rfl
  | some dd=>cases dd with
   | string=>cases a with
    | str s =>
     dsimp only
     by_cases hc:0<=i/\i<s.size
     ·rw [iP hc];simp only [hc.1,hc.2,true_and,bnd]
     ·rw [iN hc];simp only [bnd,eq_iff_iff,iff_false]
      rintro ⟨h1,h2,_⟩
      exact hc ⟨h1,h2⟩
    | _=>rfl
   | array m el=>cases a with
    | agg cs =>
     dsimp only
     by_cases hc:0<=i/\i<m/\0<P.cellsOf el
     ·rw [iP hc];simp only [hc.1,hc.2.1,hc.2.2,true_and]
      cases Lj P el cs (i.toNat*P.cellsOf el)<;>simp [bnd]
     ·rw [iN hc];simp only [bnd,eq_iff_iff,iff_false]
      rintro ⟨h1,h2,h3,_⟩
      exact hc ⟨h1,h2,h3⟩
    | _=>rfl
   | _=>cases a<;>rfl
 | _=>rfl
def G5(xs:Array Operand):((#[]:Array Operand)++xs).toList=xs.toList:=sm
def oT(x y:Operand)(t:TypeId):Ic P n h ops ⟨some d,.call ⟨.builtin .append,#[x,y],#[t,t]⟩,ty,ps,af,none⟩ K (p::e) H =
  (d<n/\ATi P (h.mt.contains d) (h.tk.contains d) (h.pc.contains d) t (JH P [x,y] (p::e)).1 d K (JH P [x,y] (p::e)).2 H):=by
 rw [F6 _ rfl]
 simp only [Fz,HV,Op.operands,Call.operands,G5,NA,put,Gi]
 congr 1
 generalize hg:JH P [x,y] (p::e)=r
 unfold Fd ATi
 dsimp only
 generalize r.1=vs
 cases vs with
 | nil=>rfl
 | cons v vs=>cases vs with
  | nil=>rfl
  | cons v2 vs=>cases vs with
   | nil =>
    dsimp only
    rw [iP rfl]
    cases P.underlying t with
    | none=>rfl
    | some dd=>cases dd<;>rfl
   | cons v3 vs=>rfl
def xn(el:TypeId)(mt ln:Bool)(xs:List AV)(a:AV):Ab2 P el mt ln (some xs) a d K e H=jC P el mt ln H a xs d K e:=AG rfl rfl
def AGG(el:TypeId)(rd:Bool)(o:Option Nat)(xs:List AV):S5 P el rd H (.sl o xs)=some xs:=rfl
def ix{el:TypeId}{ob off len sz:Nat}{cs:List AV}(ho:H[ob]? =some (some cs))(h1:off+len*sz<=cs.length)(h2:sz=P.cellsOf el)(h3:Rv P el=true\/sz=1):S5 P el true H (.msl ob off len sz)=some (Ia (Rv P el) sz len ((cs.drop off).map borrow1)):=by
 simp only [S5,ho]
 rw [iP ⟨h1,h2,h3⟩]
def AGM(el:TypeId)(ln:Bool)(o:Option Nat)(es xs:List AV):jC P el false ln H (.sl o es) xs d K e=((∀ x∈xs,x.cells.length=P.cellsOf el)/\o=some (P.cellsOf el)/\(es.length+xs.length)*P.bytesOf el<=140737488355328/\es.length+xs.length<=9223372036854775807/\K ((d,.sl (bif ln then none else some (P.cellsOf el)) (es++xs))::e) H):=AG rfl rfl
def zg(o:Option (Option (List AV)))(F:List AV->Prop):Prop:=match o with
 | some (some cs)=>F cs
 | _=>False
def ri(cs:List AV)(F:List AV->Prop):zg (some (some cs)) F=F cs:=AG rfl rfl
def ADK(el:TypeId)(ln:Bool)(ob off len sz:Nat)(xs:List AV):jC P el true ln H (.msl ob off len sz) xs d K e=((∀ x∈xs,x.cells.length=P.cellsOf el)/\off=0/\sz=P.cellsOf el/\(len+xs.length)*P.bytesOf el<=140737488355328/\len+xs.length<=9223372036854775807 /\
  zg H[ob]? λcs=>cs.length=len*sz/\cs.map borrow1=cs/\K ((d,.msl H.length 0 (len+xs.length) (P.cellsOf el))::e) (H.set ob none++[some (cs++(HU xs).map borrow1)])):=by
 unfold jC Nv zg
 rfl
def xr(el:TypeId)(ln:Bool)(ob off len sz c:Nat)(xs:List AV):jC P el true ln H (.mslc ob off len sz c) xs d K e=((∀ x∈xs,x.cells.length=P.cellsOf el)/\off=0/\sz=P.cellsOf el/\(len+xs.length)*P.bytesOf el<=140737488355328/\len+xs.length<=9223372036854775807 /\
  zg H[ob]? λcs=>cs.length=len*sz/\cs.map borrow1=cs/\K ((d,.msl H.length 0 (len+xs.length) (P.cellsOf el))::e) (H.set ob none++[some (cs++(HU xs).map borrow1)])):=by
 unfold jC Nv zg
 rfl
def ADJ(el:TypeId)(ln:Bool)(xs:List AV):jC P el true ln H (.sl (some 0) []) xs d K e=((∀ x∈xs,x.cells.length=P.cellsOf el)/\0<xs.length/\xs.length*P.bytesOf el<=140737488355328/\xs.length<=9223372036854775807/\K ((d,.msl H.length 0 xs.length (P.cellsOf el))::e) (H++[some ((HU xs).map borrow1)])):=AG rfl rfl
def ADS(f:Operand)(xs:Array Operand)(ts:Array TypeId)(dd:Option Tmp):Ic P n h ops ⟨dd,.call ⟨.value f,xs,ts⟩,ty,ps,af,none⟩ K (p::e) H =
  (Gi n dd/\AHB P (dd.any h.pc.contains) (dd.any h.mt.contains) (JH P (f::xs.toList) (p::e)).1 dd K (JH P (f::xs.toList) (p::e)).2 H):=by
 rw [F6 _ rfl]
 have e1:(#[f]++xs:Array Operand).toList=f::xs.toList:=sm
 simp only [Fz,HV,Op.operands,Call.operands,e1,NA]
 congr 1
def bL(fn:Fn)(xs ys:Array Operand):Ic P n h ops ⟨some d,.makeFunc fn xs ys,ty,ps,af,none⟩ K (p::e) H =
  (d<n/\K ((d,.fn fn (xs.toList.map λx=>(G7 P none (p::e) x).borrow) (ys.toList.map λx=>(G7 P none (p::e) x).borrow))::p::e) H):=by
 rw [F6 _ rfl]
 simp only [Fz,HV,Op.operands,C8,GF,List.map_append,Fd,put,Gi]
 congr 3
 rw [show xs.size=(xs.toList.map λx=>(G7 P none (p::e) x).borrow).length by simp,List.take_left,List.drop_left]
def ACA{z:List AV}{f:List AV->Option (List AV)}:(∃ z' cs,some (AV.agg z)=some (AV.agg z')/\f z'=some cs/\K ((d,.agg cs)::e) H)=bnd ((f z).map .agg) d K e H:=by
 cases hf:f z<;>simp [bnd,hf]
def yD(t:TypeId)(qs:Array (Nat×Operand)):Ic P n h ops ⟨some d,.build t qs,ty,ps,af,none⟩ K (p::e) H =
  (d<n/\bnd (SK P t (qs.toList.map (·.1)) (JH P (qs.toList.map (·.2)) (p::e)).1) d K (JH P (qs.toList.map (·.2)) (p::e)).2 H):=by
 rw [F6 _ rfl]
 simp only [Fz,HV,Op.operands,NA,put,Gi]
 congr 1
 generalize hg:JH P (qs.toList.map (·.2)) (p::e)=r
 unfold Fd SK
 dsimp only
 cases P.underlying t with
 | none=>rfl
 | some dd=>cases dd with
  | struct fs =>
   dsimp only
   by_cases hf:M8 P fs=true
   ·simp only [hf,true_and,if_true]
    cases Fi P t with
    | none=>simp [bnd]
    | some z=>cases z with
     | agg z =>
      exact ACA
     | _=>simp [bnd]
   ·simp [hf,bnd]
  | array m el =>
   dsimp only
   by_cases hf:(P.info? el).isSome=true
   ·simp only [hf,true_and,if_true]
    cases Fi P t with
    | none=>simp [bnd]
    | some z=>cases z with
     | agg z =>
      exact ACA
     | _=>simp [bnd]
   ·simp [hf,bnd]
  | _=>rfl
def Wh(t len:Nat)(qs:Array (Nat×Operand)):Ic P n h ops ⟨some d,.buildSlice t len qs,ty,ps,af,none⟩ K (p::e) H =
  (d<n/\AIN P (h.mt.contains d) t len (qs.toList.map (·.1)) (qs.toList.map λq=>(G7 P none (p::e) q.2).borrow) d K (p::e) H):=by
 rw [F6 _ rfl]
 simp only [Fz,HV,Op.operands,GF,put,Gi]
 congr 1
 unfold Fd AIN
 dsimp only
 rw [show ((qs.toList.map (·.2)).toArray.toList.map λx=>(G7 P none (p::e) x).borrow)=qs.toList.map λq=>(G7 P none (p::e) q.2).borrow by simp]
 cases P.underlying t with
 | none=>rfl
 | some dd=>cases dd<;>rfl
def xx(t:TypeId)(x:Operand)(lo hi mx:Option Operand):Ic P n h ops ⟨some d,.slice t x lo hi mx,ty,ps,af,none⟩ K (p::e) H =
  (d<n/\zW P (h.mt.contains d) t lo.isSome hi.isSome mx.isSome (JH P (x::(lo.toList++hi.toList++mx.toList)) (p::e)).1 d K (JH P (x::(lo.toList++hi.toList++mx.toList)) (p::e)).2 H):=by
 rw [F6 _ rfl]
 have e1:(#[x]++lo.toArray++hi.toArray++mx.toArray:Array Operand).toList=x::(lo.toList++hi.toList++mx.toList):=by
  cases lo<;>cases hi<;>cases mx<;>simp
 simp only [Fz,HV,Op.operands,e1,NA,put,Gi]
 congr 1
def AGN(x y:Operand)(ts:Array TypeId):Ic P n h ops ⟨some d,.call ⟨.builtin .min,#[x,y],ts⟩,ty,ps,af,none⟩ K (p::e) H =
  (d<n/\mmK true [(G7 P none (p::e) x).borrow,(G7 P none (p::e) y).borrow] d K (p::e) H):=by
 rw [F6 _ rfl]
 simp only [Fz,HV,Op.operands,Call.operands,G5,GF,AS,Ah,put,Gi]
 congr 1
def AGO(x y:Operand)(ts:Array TypeId):Ic P n h ops ⟨some d,.call ⟨.builtin .max,#[x,y],ts⟩,ty,ps,af,none⟩ K (p::e) H =
  (d<n/\mmK false [(G7 P none (p::e) x).borrow,(G7 P none (p::e) y).borrow] d K (p::e) H):=by
 rw [F6 _ rfl]
 simp only [Fz,HV,Op.operands,Call.operands,G5,GF,AS,Ah,put,Gi]
 congr 1
def AE4(k:IntKind)(a b:Int):mmK true [.int k a,.int k b] d K e H=K ((d,.int k (if b<a then b else a))::e) H:=by simp [mmK]
def AE5(k:IntKind)(a b:Int):mmK false [.int k a,.int k b] d K e H=K ((d,.int k (if b>a then b else a))::e) H:=by simp [mmK]
def jH(s t:TypeId)(x:Operand):Ic P n h ops ⟨some d,.convert s t x,ty,ps,af,none⟩ K (p::e) H =
  (d<n/\AG9 P (P.underlying s) (P.underlying t) (G7 P none (p::e) x).borrow d K (p::e) H):=by
 rw [F6 _ rfl]
 simp only [Fz,HV,Op.operands,GF,AS,Ah,put,Gi]
 congr 1
def Xt(t:TypeId)(x y:Operand):Ic P n h ops ⟨some d,.makeSlice t x y,ty,ps,af,none⟩ K (p::e) H =
  (d<n/\mkK P t [(G7 P none (p::e) x).borrow,(G7 P none (p::e) y).borrow] d K (p::e) H):=by
 rw [F6 _ rfl]
 simp only [Fz,HV,Op.operands,GF,AS,Ah,put,Gi]
 congr 1
 unfold Fd mkK
 dsimp only
 cases (G7 P none (p::e) x).borrow<;>cases (G7 P none (p::e) y).borrow<;>rfl
def ATn(P:Program)(mt:Bool)(el:TypeId)(d:Tmp)(K:Kt)(e:Fs)(H:FP):Prop:=match mt with
 | true=>AAp P el=true/\K ((d,.ptr H.length 0)::e) (H++[some [.sl (some 0) []]])
 | false => ∃ z,Fi P el=some z/\K ((d,.ptr H.length 0)::e) (H++[some z.cells])
def ATm(el:TypeId):ATn P false el d K e H = ∃ z,Fi P el=some z/\K ((d,.ptr H.length 0)::e) (H++[some z.cells]):=AG rfl rfl
def ATl(el:TypeId):ATn P true el d K e H=(AAp P el=true/\K ((d,.ptr H.length 0)::e) (H++[some [.sl (some 0) []]])):=AG rfl rfl
def yF(el:TypeId):Ic P n h ops ⟨some d,.alloc el,ty,ps,af,none⟩ K (p::e) H =
  (d<n/\ATn P (h.mt.contains d) el d K (p::e) H):=by
 rw [F6 _ rfl]
 have e1:(#[]:Array Operand).toList=[]:=rfl
 simp only [Fz,HV,Op.operands,e1,GF,Ah,put,Gi]
 rfl
def AFk(P:Program)(t:TypeId)(x:AV)(K:Kt)(e:Fs)(H:FP):Prop :=
 match x with
 | .msl ob off len sz=>match P.underlying t with
  | some (.slice el)=>match H[ob]? with
   | some (some cs) => ∃ z,Fi P el=some z/\sz=z.cells.length/\0<len/\off+len*sz<=cs.length/\K e (H.set ob (some (splice cs off (Ga z len))))
   | _=>False
  | _=>False
 | _=>False
def yC(x:Operand)(t:TypeId):Ic P n h ops ⟨none,.call ⟨.builtin .clear,#[x],#[t]⟩,ty,ps,af,none⟩ K (p::e) H =
  AFk P t (G7 P none (p::e) x).borrow K (p::e) H:=by
 rw [F6 _ rfl]
 simp only [Fz,HV,Op.operands,Call.operands,G5,GF,AS,Ah,put,Gi]
 rw [true_and]
 unfold Fd AFk
 dsimp only
 generalize (G7 P none (p::e) x).borrow=v
 cases v<;>rfl
def AFp(P:Program)(t:TypeId)(x:AV)(d:Tmp)(K:Kt)(e:Fs)(H:FP):Prop :=
 match x with
 | .mslc _ _ _ _ c=>match P.underlying t with
  | some (.slice _)=>K ((d,.int .i64 c)::e) H
  | _=>False
 | _=>False
def AGQ(x:Operand)(t:TypeId):Ic P n h ops ⟨some d,.call ⟨.builtin .cap,#[x],#[t]⟩,ty,ps,af,none⟩ K (p::e) H =
  (d<n/\AFp P t (G7 P none (p::e) x).borrow d K (p::e) H):=by
 rw [F6 _ rfl]
 simp only [Fz,HV,Op.operands,Call.operands,G5,GF,AS,Ah,put,Gi]
 congr 1
 unfold Fd AFp
 dsimp only
 generalize (G7 P none (p::e) x).borrow=v
 cases v<;>rfl
def AFh(P:Program)(t:TypeId)(a b:AV)(d:Tmp)(K:Kt)(e:Fs)(H:FP):Prop:=Tn P t a b H λv H'=>K ((d,v)::e) H'
def ADR(x y:Operand)(t t':TypeId):Ic P n h ops ⟨some d,.call ⟨.builtin .copy,#[x,y],#[t,t']⟩,ty,ps,af,none⟩ K (p::e) H =
  (d<n/\AFh P t (G7 P none (p::e) x).borrow (G7 P none (p::e) y).borrow d K (p::e) H):=by
 rw [F6 _ rfl]
 simp only [Fz,HV,Op.operands,Call.operands,G5,GF,AS,Ah,put,Gi]
 congr 1
def AGL(P:Program)(t t':TypeId)(mt:Bool)(vs:List AV)(d:Tmp)(K:Kt)(e:Fs)(H:FP):Prop :=
 match vs with
 | [a,b]=>apz P t t' mt a b H λv H'=>K ((d,v)::e) H'
 | _=>False
def jI(x y:Operand)(t t':TypeId)(hn:(t==t')=false):Ic P n h ops ⟨some d,.call ⟨.builtin .append,#[x,y],#[t,t']⟩,ty,ps,af,none⟩ K (p::e) H =
  (d<n/\AGL P t t' (h.mt.contains d) (JH P [x,y] (p::e)).1 d K (JH P [x,y] (p::e)).2 H):=by
 rw [F6 _ rfl]
 simp only [Fz,HV,Op.operands,Call.operands,G5,NA,put,Gi]
 congr 1
 generalize hg:JH P [x,y] (p::e)=r
 unfold Fd AGL
 dsimp only
 generalize r.1=vs
 cases vs with
 | nil=>rfl
 | cons v vs=>cases vs with
  | nil=>rfl
  | cons v2 vs=>cases vs with
   | nil =>
    dsimp only
    rw [iN (by simpa using hn)]
    rfl
   | cons v3 vs=>rfl
def xK{f:FuncId}{vs:List AV}{dd:Option Tmp}{v:AV}(hc:QD P f vs H v)(hk:K (put dd v e) H):pA P f vs dd K e H:=⟨v,.inr hc,hk⟩
def ACP {t el:TypeId} {a b:AV} {ob off len sz m:Nat} {gr:Bool} {cs X:List AV} (hu:P.underlying t=some (.slice el)) (hrow:nS a=some (ob,off,len,sz,gr)) (hm:zX b=some m) (ho:H[ob]? =some (some cs)) (h1:sz=P.cellsOf el)
  (h2:(P.info? el).isSome=true) (h3:cs.map borrow1=cs) (h4:off<=cs.length) (h5:gr=true\/off+Nat.min m len*sz<=cs.length) (hs:iI P el H (Nat.min m len) b=some X)
  (hk:K ((d,.int .i64 (Nat.min m len:Nat))::e) (H.set ob (some (cs.take off++X.map borrow1++cs.drop (off+Nat.min m len*sz))))):AFh P t a b d K e H:=by
 unfold AFh Tn
 simp only [hu,hrow,hm,ho,hs]
 exact ⟨⟨h1,h2,h3,h4,h5⟩,hk⟩
end
end Go.AI
namespace Go.AI
attribute [go_sem] Option.getD_some Option.getD_none true_and and_true false_and and_false
 dT dF Au List.any_nil Bool.or_false Bool.or_true Bool.true_or BM Bj By Bool.and_false Bool.false_and Av Ax
 List.contains_cons List.contains_nil cond_true cond_false List.nil_append AH AD AS Ah Bool.or_self Bool.and_self Bf List.getElem?_cons_succ A7
 Bb Option.bind_none BU Option.map_none Option.some.injEq List.set_cons_zero List.set_cons_succ List.cons_append List.append_assoc DB Option.any_none
 Ai Int.toNat_natCast CO List.take_zero DC BO BJ List.flatMap_nil beq_iff_eq bne_iff_ne ne_eq not_true_eq_false not_false_eq_true
 List.getElem?_nil Option.isSome_some Option.isSome_none Option.toList_some Option.toList_none if_true if_false Bw AY BB
 Nat.mul_zero Nat.mul_one DW CM GQ
def JG(P:Program)(t:TypeId):Option (Option Nat) :=
 match P.underlying t with
 | some (.struct _)=>some (some (P.cellsOf t))
 | some (.array _ _)=>some (some (P.cellsOf t))
 | some _=>some none
 | none=>none
def ldx(k:Option (Option Nat))(cs:List AV)(off:Nat):Option AV :=
 match k with
 | some (some n)=>if off+n<=cs.length then some (.agg ((cs.drop off).take n)) else none
 | some none=>cs[off]?
 | none=>none
def FW(P:Program)(s f:Nat):Option (TypeId×Nat):=(fieldAt P s f).map λfd=>(fd.type,fd.offset)
def nH(P:Program)(fp:Option (TypeId×Nat))(x:AV):Option AV :=
 match fp with
 | some (t,o)=>if 0<P.cellsOf t then rM x o else none
 | none=>none
def nG(P:Program)(fp:Option (TypeId×Nat))(x:AV):Option AV :=
 match fp,x with
 | some (t,o),.agg cs=>ldx (JG P t) cs o
 | _,_=>none
inductive BK where
 | none
 | struct (ps:List (Nat×Nat))
 | array (c:Nat)
def KK(P:Program)(t:TypeId):BK :=
 match P.underlying t with
 | some (.struct fs)=>if M8 P fs=true then .struct (Iq P fs).toList else .none
 | some (.array _ e)=>if (P.info? e).isSome=true then .array (P.cellsOf e) else .none
 | _ => .none
def vb(k:BK)(z:Option AV)(is:List Nat)(vs:List AV):Option AV :=
 match k,z with
 | .struct ps,some (.agg z)=>(IG (λi=>ps[i]?) z is vs).map .agg
 | .array c,some (.agg z)=>(IG (λi=>some (i*c,c)) z is vs).map .agg
 | _,_=>Option.none
section
variable {P:Program}
def AA3(t:TypeId)(cs:List AV)(off:Nat):Lj P t cs off=ldx (JG P t) cs off:=by
 unfold Lj ldx JG
 cases P.underlying t with
 | none=>rfl
 | some d=>cases d<;>rfl
def AE8(cs:List AV)(off:Nat):ldx (some none) cs off=cs[off]?:=rfl
def AA2(n:Nat)(cs:List AV)(off:Nat):ldx (some (some n)) cs off=if off+n<=cs.length then some (.agg ((cs.drop off).take n)) else none:=rfl
def rO(s f:Nat)(x:AV):SJ P (fieldAt P s f) x=nH P (FW P s f) x:=by
 unfold SJ nH FW
 cases fieldAt P s f<;>rfl
def gZ(t o:Nat)(x:AV):nH P (some (t,o)) x=if 0<P.cellsOf t then rM x o else none:=rfl
def y6(s f:Nat)(x:AV):YU P (fieldAt P s f) x=nG P (FW P s f) x:=by
 unfold YU nG FW
 cases fieldAt P s f with
 | none=>rfl
 | some fd=>cases x<;>first|rfl|exact AA3 _ _ _
def gY(t o:Nat)(cs:List AV):nG P (some (t,o)) (.agg cs)=ldx (JG P t) cs o:=rfl
def zB(a b k:Nat):rM (.ptr a b) k=some (.ptr a (b+k)):=rfl
def rL(cs:List AV)(b k:Nat):rM (.cptr cs b) k=some (.cptr cs (b+k)):=rfl
def rP(t:TypeId)(is:List Nat)(vs:List AV):SK P t is vs=vb (KK P t) (Fi P t) is vs:=by
 unfold SK KK
 cases P.underlying t with
 | none=>rfl
 | some d=>cases d with
  | struct fs =>
   dsimp only
   by_cases hf:M8 P fs=true
   ·rw [iP hf,iP hf]
    cases Fi P t with
    | none=>rfl
    | some z=>cases z<;>first|rfl|(dsimp only [vb];simp only [Ae])
   ·rw [iN hf,iN hf];rfl
  | array m e =>
   dsimp only
   by_cases hf:(P.info? e).isSome=true
   ·rw [iP hf,iP hf]
    cases Fi P t with
    | none=>rfl
    | some z=>cases z<;>rfl
   ·rw [iN hf,iN hf];rfl
  | _=>rfl
def rI(ps:List (Nat×Nat))(z:List AV)(is:List Nat)(vs:List AV):vb (.struct ps) (some (.agg z)) is vs=(IG (λi=>ps[i]?) z is vs).map .agg:=rfl
def yy(c:Nat)(z:List AV)(is:List Nat)(vs:List AV):vb (.array c) (some (.agg z)) is vs=(IG (λi=>some (i*c,c)) z is vs).map .agg:=rfl
def nJ(place:Nat->Option (Nat×Nat))(cells:List AV):IG place cells [] []=some cells:=rfl
def gk(place:Nat->Option (Nat×Nat))(cells:List AV)(i:Nat)(is:List Nat)(v:AV)(vs:List AV):IG place cells (i::is) (v::vs)=match place i with
  | some (off,size)=>if v.isVal=true/\v.cells.length=size/\off+size<=cells.length then IG place (splice cells off v.cells) is vs else none
  | none=>none:=rfl
def dB(a:AV)(cs:List AV)(o:Nat)(xs:List AV):splice (a::cs) (o+1) xs=a::splice cs o xs:=by
 unfold splice
 rw [Nat.add_right_comm,CO,DC]
 rfl
def dC{cs xs:List AV}(h:cs.length=xs.length):splice cs 0 xs=xs:=by
 unfold splice
 rw [AY,<- h,Cp]
 simp
def Hs(cs xs:List AV):List AV:=splice cs 0 xs
def dA{cs xs:List AV}:splice cs 0 xs=if cs.length=xs.length then xs else Hs cs xs:=by
 by_cases h:cs.length=xs.length
 ·rw [iP h,dC h]
 ·rw [iN h];rfl
def rN{P:Program}{H:FP}(tk:Bool)(t:TypeId)(ob off:Nat):YV P tk t (.ptr ob off) H=match H[ob]? with
  | some (some cs)=>match Lj P t cs off with
   | some v=>match tk with
    | true=>if v.owned=true/\v.scalar=true then some (v,H.set ob (some (splice cs off (v.cells.map borrow1)))) else none
    | false=>some (v.borrow,H)
   | none=>none
  | _=>none:=rfl
def ky{P:Program}{H:FP}(tk:Bool)(t:TypeId)(cs:List AV)(off:Nat):YV P tk t (.cptr cs off) H=match Lj P t cs off with
  | some v=>some (v.borrow,H)
  | none=>none:=rfl
def kw{P:Program}{H:FP}(t:TypeId)(ob off:Nat)(v:AV):Uw P t (.ptr ob off) v H=match H[ob]? with
  | some (some cs)=>if v.isVal=true/\v.cells.length=P.cellsOf t/\0<P.cellsOf t/\off+P.cellsOf t<=cs.length then some (H.set ob (some (splice cs off v.cells))) else none
  | _=>none:=rfl
attribute [go_sem] stK zC y5 OO zD vUn Lo Ux Pk AG9 mkK pX ATi AIN zW Nt KB AHB
end
end Go.AI
namespace Go.AI
section
variable {P:Program} {F:Nat->Prop} {G:Gh} {w:World}
def FV.gc {f:FuncId} {vs:List AV} {H:FP} {R:AV->FP->Prop} (hn : ∀ v H1,R v H1->H.length<=H1.length)
  (h:FV P f vs H λv H' => ∃ H1 junk,H'=H1++junk/\v.bnd H1.length=true/\Rp H1/\R v H1):FV P f vs H R :=
 ⟨h.1,λF G w us hc=>Calls.mono (h.2 F G w us hc) λe w' he=>by
  obtain ⟨u,rfl,v,H',G',⟨H1,junk,rfl,h1,h2,h3⟩,hcr,hext⟩:=he
  refine ⟨u,rfl,v,H1,G'.cut H1.length,h3,hcr.cut h1 h2,hext.size,⟨λo b ho=>?_,hext.keeps.shape,hext.keeps.sp,hext.keeps.safe⟩,hext.kind,hext.cells,hext.io⟩
  have hlt:o<H.length:=by rw [<- hc.h.len];exact (AC.1 ho).1
  have:=hn v H1 h3
  show (G'.obs.take H1.length)[o]? =some b
  rw [Bu FO]
  exact hext.keeps.obs o b ho⟩
def CRel.lend{vs:List AV}{H:FP}{us:List Value}(h:Eb F G vs H us w):Eb F G (vs.map AV.borrow) H us w:=by
 refine ⟨⟨by simpa using h.l.len,λi a u h1 h2=>?_,λi a u h1 h2=>?_⟩,h.h,λb=>?_⟩
 ·rw [Ab] at h1
  cases hi:vs[i]? with
  | none=>rw [hi] at h1;cases h1
  | some x=>rw [hi] at h1;cases h1;exact (h.l.rel i x u hi h2).borrow
 ·rw [Ab] at h1
  cases hi:vs[i]? with
  | none=>rw [hi] at h1;cases h1
  | some x=>rw [hi] at h1;cases h1;exact Ff (Gb _ _) F G w
 ·have h0:HC b (vs.map AV.borrow) us=0:=by
   have : ∀ (l:List AV) (us:List Value),HC b (l.map AV.borrow) us=0:=by
    intro l
    induction l with
    | nil=>intro us;exact GS b us
    | cons x xs ih =>
     intro us
     cases us with
     | nil=>simp [HC]
     | cons u us=>rw [AS,FY,Gb,ih];rfl
   exact this vs us
  have:=h.cnt b
  omega
def FV.lend{f:FuncId}{vs:List AV}{H:FP}{R:AV->FP->Prop}(h:FV P f (vs.map AV.borrow) H R):FV P f vs H R :=
 ⟨h.1,λF G w us hc=>h.2 F G w us hc.lend⟩
def KL.lend{f:FuncId}{vs:List AV}{Q:AV->Prop}(h:KL P f (vs.map AV.borrow) Q):KL P f vs Q:=λH=>(h H).lend
def FQ.lend{f:FuncId}{vs:List AV}{v:AV}(h:FQ P f (vs.map AV.borrow) v):FQ P f vs v:=λH=>(h H).lend
end
end Go.AI
namespace Go.AI
inductive Rd (P:Program):TypeId->AV->Prop where
 | bool {t:TypeId} (b:Bool) (h:P.underlying t=some .bool):Rd P t (.bool b)
 | int {t:TypeId} {k:IntKind} {n:Int} (h:P.underlying t=some (.int k)) (hw:k.min<=n/\n<=k.max):Rd P t (.int k n)
 | str {t:TypeId} {s:ByteArray} (h:P.underlying t=some .string) (hs:s.size<=reachBytes):Rd P t (.str s)
 | slice {t e:TypeId} {es:List AV} (h:P.underlying t=some (.slice e)) (hl:es.length<=maxLen) (hb:es.length*P.bytesOf e<=reachBytes) (he : ∀ x∈es,Rd P e x):Rd P t (.sl none es)
 | struct {t:TypeId} {fs:Array Field} {parts:List AV} (h:P.underlying t=some (.struct fs)) (hl:parts.length=fs.size)
   (hp : ∀ (i:Nat) (f:Field) (x:AV),fs[i]? =some f->parts[i]? =some x->Rd P f.type x):Rd P t (.agg (HU parts))
 | array {t e:TypeId} {n:Nat} {parts:List AV} (h:P.underlying t=some (.array n e)) (hl:parts.length=n) (hp : ∀ x∈parts,Rd P e x):Rd P t (.agg (HU parts))
def Jr(P:Program):Nat->List Field->Nat->Bool
 | off,[],total=>off==total
 | off,f::fs,total=>f.offset==off&&Jr P (off+P.cellsOf f.type) fs total
def zH(P:Program)(S:List TypeId):Bool:=S.all λt=>match P.underlying t with
 | some .bool|some (.int _)|some .string=>P.cellsOf t==1
 | some (.slice e)=>P.cellsOf t==1&&S.contains e&&decide (0<P.cellsOf e)
 | some (.struct fs)=>Jr P 0 fs.toList (P.cellsOf t)&&fs.toList.all λf=>S.contains f.type
 | some (.array n e)=>S.contains e&&P.cellsOf t==n*P.cellsOf e
 | _=>false
mutual
def AV.bulk:AV->Nat
 | .str s=>s.size+1
 | .sl _ es=>1+FR es
 | .agg cs=>FR cs
 | .tup cs=>FR cs
 | _=>1
def FR:List AV->Nat
 | []=>0
 | a::l=>a.bulk+FR l
end
structure BulkOk {H:Type} (μ:DataW H->Nat):Prop where
 one : ∀ d,1<=μ d
 str : ∀ s:List UInt8,s.length+1<=μ (.lit (.string s))
 sl : ∀ es sp,1+(es.map μ).sum<=μ (.slice es sp)
 agg : ∀ ps,(ps.map μ).sum<=μ (.agg ps)
def No(l l':List AV):FR (l++l')=FR l+FR l':=by
 induction l with
 | nil=>simp [FR]
 | cons a l ih=>simp [FR,ih];omega
def ib(a:AV):FR a.cells=a.bulk:=by
 cases a<;>simp [AV.cells,FR,AV.bulk]
def ZL(es:List AV):FR (HU es)=FR es:=by
 induction es with
 | nil=>rfl
 | cons e es ih =>
  have:HU (e::es)=e.cells++HU es:=by simp [HU]
  rw [this,No,ib,ih];rfl
def WZ{D:Type}{μ:D->Nat}: ∀ {es:List AV} {ds:List D},es.length=ds.length->(∀ (i:Nat) (x:AV) (d:D),es[i]? =some x->ds[i]? =some d->x.bulk<=μ d)->FR es<=(ds.map μ).sum
 | [],_,_,_=>by simp [FR]
 | e::es,[],h,_=>by simp at h
 | e::es,d::ds,hl,h=>by
  have h0:=h 0 e d rfl rfl
  have h1:=WZ (es:=es) (ds:=ds) (by simpa using hl) λi x y hx hy=>h (i+1) x y (by simpa using hx) (by simpa using hy)
  simp only [FR,AS,B1]
  omega
structure FitL (G:Gh) (w:World) (as:List AV) (cs:List Value):Prop where
 len:as.length=cs.length
 sc : ∀ c∈as,c.scalar=true/\GE c=false
 rel : ∀ (i:Nat) (c:AV) (v:Value),as[i]? =some c->cs[i]? =some v->Ea G w c v
section
variable {P:Program} {G:Gh} {w:World}
def FitL.nil:FitL G w [] []:=⟨rfl,λc hc=>by simp at hc,λi c v h=>by simp at h⟩
def FitL.append{as bs:List AV}{cs ds:List Value}(h:FitL G w as cs)(h':FitL G w bs ds):FitL G w (as++bs) (cs++ds):=by
 refine ⟨by simp [h.len,h'.len],λc hc=>?_,λi c v h1 h2=>?_⟩
 ·rcases As.1 hc with hc|hc
  ·exact h.sc c hc
  ·exact h'.sc c hc
 ·have:=h.len
  by_cases hi:i<as.length
  ·rw [AT hi] at h1
   rw [AT FO] at h2
   exact h.rel i c v h1 h2
  ·rw [AM FO] at h1
   rw [AM FO] at h2
   exact h'.rel (i - as.length) c v h1 (by rw [h.len];exact h2)
def FitL.one{c:AV}{v:Value}(hs:c.scalar=true)(ho:GE c=false)(h:Ea G w c v):FitL G w [c] [v]:=by
 refine ⟨rfl,λd hd=>by simp at hd;subst hd;exact ⟨hs,ho⟩,λi d u h1 h2=>?_⟩
 cases i with
 | zero=>simp at h1 h2;subst h1;subst h2;exact h
 | succ i=>simp at h1
def Ox{α:Type}{p:Nat->α->Prop}: ∀ (n:Nat),(∀ i,i<n -> ∃ x,p i x) -> ∃ l:List α,l.length=n /\ ∀ (i:Nat) (x:α),l[i]? =some x->p i x
 | 0,_=>⟨[],rfl,λi x h=>by simp at h⟩
 | n+1,h=>by
  obtain ⟨l,h1,h2⟩:=Ox n λi hi=>h i FO
  obtain ⟨x,hx⟩:=h n FO
  refine ⟨l++[x],by simp [h1],λi y hy=>?_⟩
  by_cases hi:i<l.length
  ·rw [AT hi] at hy;exact h2 i y hy
  ·rw [AM FO] at hy
   have h0:i - l.length=0:=by
    have:=(AC.1 hy).1
    simp at this;omega
   rw [h0] at hy
   simp at hy
   have:i=n:=FO
   subst this;subst hy;exact hx
def AFo{es:List AV}{n i:Nat}{c:AV}(hn : ∀ e∈es,e.cells.length=n)(h:(HU es)[i]? =some c): ∃ (k j:Nat) (x:AV),i=k*n+j/\j<n/\es[k]? =some x/\x.cells[j]? =some c:=by
 induction es generalizing i with
 | nil=>simp [HU] at h
 | cons e es ih =>
  simp only [HU,BJ] at h
  have he:=hn e sm
  by_cases hi:i<n
  ·rw [AT FO] at h
   exact ⟨0,i,e,FO,hi,rfl,h⟩
  ·rw [AM FO,he] at h
   obtain ⟨k,j,x,h1,h2,h3,h4⟩:=ih (λe he=>hn e (by simp [he])) h
   exact ⟨k+1,j,x,by rw [A2];omega,h2,by simpa using h3,h4⟩
section
variable {H:Type} {enc:TypeId×Value->H} {base:Nat} {held:Bool}
def Ln{e:TypeId}: ∀ {ds:List (DataW H)} {d:DataW H},d∈ds -> ∀ m∈d.weights P e,m∈DataW.weightsAll P e ds
 | x::ds,d,hd,m,hm=>by
  simp only [DataW.weightsAll,As]
  rcases AX.1 hd with rfl|hd
  ·exact .inl hm
  ·exact .inr (Ln hd m hm)
def Yc{a:Addr}{v:Value}(h:w.cell? a=some v):a.spot=none:=by
 unfold World.cell? at h
 split at h
 ·split at h
  ·cases h
  ·rename_i hs;simpa using hs
 ·cases h
def fit_fields {S:List TypeId} {rec:TypeId->List Value->Option (DataW H×List MemPlace)} {cs:List Value}
  (hrec : ∀ t cs d ps,t∈S->rec t cs=some (d,ps)->(∀ m∈d.weights P t,m<=reachBytes) -> ∃ a,Rd P t a/\FitL G w a.cells cs /\ ∀ μ:DataW H->Nat,BulkOk μ->a.bulk<=μ d) :
  ∀ (fs:List Field) (off:Nat) (xs:List (DataW H×List MemPlace)),Jr P off fs cs.length=true->(∀ f∈fs,f.type∈S)->off<=cs.length ->
   fs.mapM (λf=>rec f.type ((cs.drop f.offset).take (P.cellsOf f.type)))=some xs->(∀ m∈DataW.weightsEach P (fs.map (·.type)) (xs.map (·.1)),m<=reachBytes) ->
   ∃ parts,parts.length=fs.length/\(∀ (i:Nat) (f:Field) (x:AV),fs[i]? =some f->parts[i]? =some x->Rd P f.type x)/\FitL G w (HU parts) (cs.drop off) /\ ∀ μ:DataW H->Nat,BulkOk μ->FR parts<=((xs.map (·.1)).map μ).sum
 | [],off,xs,hf,_,hle,hm,_=>by
  simp only [Jr,beq_iff_eq] at hf
  subst hf
  exact ⟨[],rfl,λi f x h=>by simp at h,by simpa [HU] using FitL.nil,fun μ _=>by simp [FR]⟩
 | f::fs,off,xs,hf,hS,hle,hm,hw=>by
  simp only [Jr,AQ,beq_iff_eq] at hf
  obtain ⟨hoff,hf⟩:=hf
  subst hoff
  simp only [C4,Option.bind_eq_bind] at hm
  cases h1:rec f.type ((cs.drop f.offset).take (P.cellsOf f.type)) with
  | none=>rw [h1] at hm;simp at hm
  | some x =>
   rw [h1] at hm
   simp only [Bb] at hm
   cases h2:fs.mapM (λf=>rec f.type ((cs.drop f.offset).take (P.cellsOf f.type))) with
   | none=>rw [h2] at hm;simp at hm
   | some ys =>
    rw [h2] at hm
    simp only [Bb] at hm
    cases hm
    simp only [AS,DataW.weightsEach,As] at hw
    have hle' : ∀ (fs:List Field) (o:Nat),Jr P o fs cs.length=true->o<=cs.length:=by
     intro fs
     induction fs with
     | nil=>intro o h;simp only [Jr,beq_iff_eq] at h;omega
     | cons g gs ih=>intro o h;simp only [Jr,AQ,beq_iff_eq] at h;have:=ih _ h.2;omega
    have hle2:=hle' fs _ hf
    obtain ⟨a,ha,hfa,hba⟩:=hrec _ _ x.1 x.2 (hS f sm) h1 λm hm=>hw m (.inl hm)
    obtain ⟨parts,p1,p2,p3,p4⟩:=fit_fields hrec fs (f.offset+P.cellsOf f.type) ys hf (λg hg=>hS g (by simp [hg])) hle2 h2 λm hm=>hw m (.inr hm)
    refine ⟨a::parts,by simp [p1],λi g y hg hy=>?_, ?_,fun μ hμ=>?_⟩
    ·cases i with
     | zero=>simp at hg hy;subst hg;subst hy;exact ha
     | succ i=>exact p2 i g y (by simpa using hg) (by simpa using hy)
    ·have e:cs.drop f.offset=(cs.drop f.offset).take (P.cellsOf f.type)++cs.drop (f.offset+P.cellsOf f.type):=by
      rw [<- A8,A9]
     rw [e]
     simp only [HU,BJ]
     exact hfa.append p3
    ·have h1:=hba μ hμ
     have h2:=p4 μ hμ
     simp only [FR,AS,B1]
     omega
def wv{n:Nat}{parts:List AV}{cs:List Value}(hp : ∀ (i:Nat) (x:AV),parts[i]? =some x->FitL G w x.cells ((cs.drop (i*n)).take n))(hc:cs.length=parts.length*n):FitL G w (HU parts) cs:=by
 induction parts generalizing cs with
 | nil=>simp at hc;subst hc;simpa [HU] using FitL.nil
 | cons x xs ih =>
  have h0:=hp 0 x rfl
  simp only [CM,BO] at h0
  have h1:=ih (cs:=cs.drop n) (λi y hy=>by
   have:=hp (i+1) y (by simpa using hy)
   rw [A8]
   rw [A2,DW,Nat.add_comm] at this
   exact this) (by simp at hc ⊢;rw [A2] at hc;omega)
  have:=h0.append h1
  rw [A9] at this
  simpa [HU] using this
def VB{S:List TypeId}(hS:zH P S=true)(hG : ∀ b,G.kind b = .imm): ∀ (fuel:Nat) (t:TypeId) (cs:List Value) (d:DataW H) (ps:List MemPlace),t∈S ->
  DataW.trod enc P w base (λ_=>true) held fuel t cs=some (d,ps)->(∀ m∈d.weights P t,m<=reachBytes) -> ∃ a,Rd P t a/\FitL G w a.cells cs /\ ∀ μ:DataW H->Nat,BulkOk μ->a.bulk<=μ d
 | 0,t,cs,d,ps,_,h,_=>by simp [DataW.trod] at h
 | fuel+1,t,cs,d,ps,ht,h,hw=>by
  have ih:=VB hS hG fuel
  have hst:=An.1 hS t ht
  unfold DataW.trod at h
  cases hu:P.underlying t with
  | none=>rw [hu] at hst;cases hst
  | some dd =>
   rw [hu] at hst h
   cases dd<;>try (cases hst;done)
   case bool =>
    dsimp only at h
    split at h
    case h_1=>rename_i b hd;exact ⟨.bool b,.bool b hu,.one rfl rfl (.bool b),fun μ hμ=>hμ.one _⟩
    all_goals first|(simp at *;done)|(rename_i heq _;cases heq)
   case int k =>
    dsimp only at h
    split at h
    case h_2 =>
     rename_i k1 k2 n hd
     cases hd
     split at h
     ·rename_i hk
      obtain ⟨rfl,hk⟩:=hk
      simp only [Lit.wf,AQ,decide_eq_true_eq] at hk
      exact ⟨.int k2 n,.int hu hk,.one rfl rfl (.int _ _),fun μ hμ=>hμ.one _⟩
     ·cases h
    all_goals first|(simp at *;done)|(rename_i heq _;cases heq)
   case string =>
    dsimp only at h
    split at h
    case h_4 =>
     rename_i s hd
     split at h
     ·cases h
      simp only [DataW.weights,Ac,forall_eq] at hw
      exact ⟨.str s,.str hu (by simpa using hw),.one rfl rfl (.str s),fun μ hμ=>by have:=hμ.str s.data.toList;simpa [AV.bulk] using this⟩
     ·cases h
    all_goals first|(simp at *;done)|(rename_i heq _;cases heq)
   case slice e =>
    simp only [AQ,beq_iff_eq,Dh,decide_eq_true_eq] at hst
    obtain ⟨⟨_,he⟩,hpos⟩:=hst
    dsimp only at h
    split at h
    case h_7=>exact ⟨.sl none [],.slice hu sm sm  (λx hx=>by simp at hx),.one rfl rfl (.slnil _),fun μ hμ=>by have:=hμ.one d;simpa [AV.bulk,FR] using this⟩
    case h_8 =>
     rename_i e' a len cap hd
     cases hd
     split at h
     case isFalse=>cases h
     rename_i hcond
     cases hm:(Am len).mapM λi=>(w.cells? base (a.add (i*P.cellsOf e)) (P.cellsOf e)).bind (DataW.trod enc P w base (λ_=>true) held fuel e) with
     | none=>rw [hm] at h;simp at h
     | some elems =>
      rw [hm] at h
      simp only [Bb,if_true] at h
      cases hr:(Am (cap - len)).mapM λj=>(w.cells? base (a.add ((len+j)*P.cellsOf e)) (P.cellsOf e)).bind (DataW.trod enc P w base (λ_=>true) held fuel e) with
      | none=>rw [hr] at h;simp at h
      | some rest =>
       rw [hr] at h
       simp only [BU,Option.some.injEq,Prod.mk.injEq] at h
       obtain ⟨rfl,_⟩:=h
       simp only [DataW.weights,hu,AX,As,List.length_map] at hw
       have hel:=mapM_some_length hm
       simp only [DD] at hel
       have hb:(elems.length+rest.length)*P.bytesOf e<=reachBytes:=hw _ (.inl rfl)
       have hb2:len*P.bytesOf e<=reachBytes:=AK (Nat.mul_le_mul_right _ FO) hb
       have hat : ∀ i,i<len -> ∃ x,Rd P e x/\(∃ ci,w.cells? base (a.add (i*P.cellsOf e)) (P.cellsOf e)=some ci/\FitL G w x.cells ci) /\ ∀ y,elems[i]? =some y -> ∀ μ:DataW H->Nat,BulkOk μ->x.bulk<=μ y.1:=by
        intro i hi
        have hg:=mapM_some_get hm i i (by simp [hi])
        have hlt:i<elems.length:=FO
        rw [AL hlt] at hg
        cases hc:w.cells? base (a.add (i*P.cellsOf e)) (P.cellsOf e) with
        | none=>rw [hc] at hg;simp at hg
        | some ci =>
         rw [hc] at hg
         simp only [Bb] at hg
         obtain ⟨x,hx,hf,hbx⟩:=ih e ci elems[i].1 elems[i].2 he hg λm hm=>hw m (.inr (.inl (Ln (AP.2 ⟨elems[i],CP hlt,rfl⟩) m hm)))
         exact ⟨x,hx,⟨ci,rfl,hf⟩,λy hy μ hμ=>by rw [AL hlt] at hy;cases hy;exact hbx μ hμ⟩
       have hspot:0<cap->a.spot=none:=by
        intro hc0
        by_cases h0:0<len
        ·obtain ⟨x,_,⟨ci,hci,_⟩,_⟩:=hat 0 h0
         obtain ⟨_,h1,h2⟩:=World.cells?_some hci
         have h3:=h2 0 hpos
         rw [CM,show (a.add 0).add 0=a from rfl] at h3
         have hlt:0<ci.length:=FO
         rw [AL hlt] at h3
         exact Yc h3
        ·have hg:=mapM_some_get hr 0 0 (by rw [List.getElem?_range FO])
         have hrl:=mapM_some_length hr
         simp only [DD] at hrl
         have hlt:0<rest.length:=FO
         rw [AL hlt] at hg
         have hl0:len=0:=FO
         subst hl0
         cases hc:w.cells? base (a.add ((0+0)*P.cellsOf e)) (P.cellsOf e) with
         | none=>rw [hc] at hg;simp at hg
         | some ci =>
          obtain ⟨_,h1,h2⟩:=World.cells?_some hc
          have h3:=h2 0 hpos
          rw [BB,CM,show (a.add 0).add 0=a from rfl] at h3
          have hlt:0<ci.length:=FO
          rw [AL hlt] at h3
          exact Yc h3
       obtain ⟨es,hes,hes2⟩:=Ox len hat
       have hrd : ∀ x∈es,Rd P e x:=λx hx=>by
        obtain ⟨i,hi⟩:=Af hx
        exact (hes2 i x hi).1
       refine ⟨.sl none es,.slice hu FO (by rw [hes];exact hb2) hrd,.one rfl rfl ?_,fun μ hμ=>AK (Nat.add_le_add_left (WZ (ds:=elems.map (·.1)) (by simp;omega) λi x d hx hd=>by
        rw [Ab] at hd
        cases hy:elems[i]? with
        | none=>rw [hy] at hd;cases hd
        | some y=>rw [hy] at hd;cases hd;exact (hes2 i x hx).2.2 y hy μ hμ) 1) (hμ.sl _ _)⟩
       by_cases hc0:0<cap
       ·have hsp:=hspot hc0
        have hsz : ∀ x∈es,x.cells.length=P.cellsOf e:=λx hx=>by
         obtain ⟨i,hi⟩:=Af hx
         obtain ⟨_,⟨ci,hci,hf⟩,_⟩:=hes2 i x hi
         rw [hf.len];exact (World.cells?_some hci).2.1
        have haddr:a=⟨a.block,a.off,none⟩:=by cases a;simp at hsp;subst hsp;rfl
        have key : ∀ (i:Nat) (c:AV),(HU es)[i]? =some c->c.scalar=true /\ ∃ v,w.cell? ⟨a.block,a.off+i,none⟩=some v/\Ea G w c v:=by
         intro i c hi
         obtain ⟨k,j,x,h1,h2,h3,h4⟩:=AFo hsz hi
         obtain ⟨_,⟨ci,hci,hf⟩,_⟩:=hes2 k x h3
         obtain ⟨_,g1,g2⟩:=World.cells?_some hci
         have g3:=g2 j h2
         have hlt:j<ci.length:=FO
         rw [AL hlt] at g3
         rw [haddr,G9,G9] at g3
         refine ⟨(hf.sc c (AB h4)).1,ci[j], ?_,hf.rel j c _ h4 (AL hlt)⟩
         rw [h1,<- Nat.add_assoc];exact g3
        rw [haddr]
        have:=VRel.sl (G:=G) (w:=w) none es (P.cellsOf e) a.block a.off cap (λi=>(w.cell? ⟨a.block,a.off+i,none⟩).getD Go.undef) hsz (λn hn=>by cases hn) FO hcond.2.2
         (λi c hi=>by
          obtain ⟨s,v,hv,_⟩:=key i c hi
          exact ⟨s,by simp [Gh.safe,hG],by rw [hv];rfl⟩)
         (λi c hi=>by
          obtain ⟨_,v,hv,hr⟩:=key i c hi
          rw [hv];exact hr)
        rw [hes] at this
        exact this
       ·have h0:cap=0:=FO
        have h1:len=0:=FO
        subst h0;subst h1
        have:es=[]:=List.eq_nil_of_length_eq_zero hes
        subst this
        exact .slany none a
    all_goals first|(simp at *;done)|(rename_i heq _;cases heq)
   case struct fs =>
    simp only [AQ,An,Dh] at hst
    dsimp only at h
    split at h
    case isFalse=>cases h
    rename_i hlen
    cases hm:fs.toList.mapM λf=>DataW.trod enc P w base (λ_=>true) held fuel f.type ((cs.drop f.offset).take (P.cellsOf f.type)) with
    | none=>rw [hm] at h;simp at h
    | some xs =>
     rw [hm] at h
     simp only [BU,Option.some.injEq,Prod.mk.injEq] at h
     obtain ⟨rfl,_⟩:=h
     simp only [DataW.weights,hu] at hw
     obtain ⟨parts,p1,p2,p3,p4⟩:=fit_fields (G:=G) (w:=w) (P:=P) (S:=S) ih fs.toList 0 xs (by rw [hlen];exact hst.1) hst.2 (BY _) hm hw
     exact ⟨.agg (HU parts),.struct hu (by simpa using p1) (λi f x hf hx=>p2 i f x (by simpa using hf) hx),by simpa [AV.cells] using p3,fun μ hμ=>by
      have h1:=p4 μ hμ
      have h2:=hμ.agg (xs.map (·.1))
      simp only [AV.bulk,ZL]
      omega⟩
   case array n e =>
    simp only [AQ,beq_iff_eq,Dh] at hst
    dsimp only at h
    split at h
    case isFalse=>cases h
    rename_i hlen
    cases hm:(Am n).mapM λi=>DataW.trod enc P w base (λ_=>true) held fuel e ((cs.drop (i*P.cellsOf e)).take (P.cellsOf e)) with
    | none=>rw [hm] at h;simp at h
    | some xs =>
     rw [hm] at h
     simp only [BU,Option.some.injEq,Prod.mk.injEq] at h
     obtain ⟨rfl,_⟩:=h
     simp only [DataW.weights,hu] at hw
     have hxl:=mapM_some_length hm
     simp only [DD] at hxl
     obtain ⟨parts,q1,q2⟩:=Ox (p:=λi x=>Rd P e x/\FitL G w x.cells ((cs.drop (i*P.cellsOf e)).take (P.cellsOf e)) /\ ∀ y,xs[i]? =some y -> ∀ μ:DataW H->Nat,BulkOk μ->x.bulk<=μ y.1) n λi hi=>by
      have hg:=mapM_some_get hm i i (by simp [hi])
      have hlt:i<xs.length:=FO
      rw [AL hlt] at hg
      obtain ⟨x,hx1,hx2,hx3⟩:=ih e _ xs[i].1 xs[i].2 hst.1 hg λm hm=>hw m (Ln (AP.2 ⟨xs[i],CP hlt,rfl⟩) m hm)
      exact ⟨x,hx1,hx2,λy hy μ hμ=>by rw [AL hlt] at hy;cases hy;exact hx3 μ hμ⟩
     refine ⟨.agg (HU parts),.array hu q1 (λx hx=>?_), ?_,fun μ hμ=>?_⟩
     ·obtain ⟨i,hi⟩:=Af hx
      exact (q2 i x hi).1
     ·exact wv (λi x hx=>(q2 i x hx).2.1) (by rw [q1,hlen,hst.2])
     ·have h1:=WZ (μ:=μ) (es:=parts) (ds:=xs.map (·.1)) (by simp;omega) λi x d hx hd=>by
       rw [Ab] at hd
       cases hy:xs[i]? with
       | none=>rw [hy] at hd;cases hd
       | some y=>rw [hy] at hd;cases hd;exact (q2 i x hx).2.2 y hy μ hμ
      have h2:=hμ.agg (xs.map (·.1))
      simp only [AV.bulk,ZL]
      omega
end
end
end Go.AI
namespace Go.AI
open Go.RowKit Go.ChangeShapes
def Gg(P:Program):List TypeId->List AV->Prop
 | [],[]=>True
 | t::ts,a::as=>Rd P t a/\Gg P ts as
 | _,_=>False
section
variable {P:Program} {G:Gh} {w:World} {H:Type} {enc:TypeId×Value->H} {base:Nat}
def OW{a:AV}(hv:a.isVal=true)(h : ∀ c∈a.cells,GE c=false):a.owned=false:=by
 unfold AV.owned
 rw [List.any_eq_false]
 intro c hc
 have:a.flat=a.cells:=by cases a<;>first|rfl|cases hv
 rw [this] at hc
 simp [h c hc]
def AGH{t:TypeId}{a:AV}{v:Value}(hr:Rd P t a)(hf:FitL G w a.cells v.cells.toList)(hok:Value.okWide P w .any base t v):Ea G w a v/\a.owned=false:=by
 have one : ∀ (a:AV) (v:Value),a.scalar=true->a.cells=[a]->(∀ cs,v ≠ .agg cs)->FitL G w a.cells v.cells.toList->Ea G w a v:=by
  intro a v h1 h2 h3 h4
  have h5:v.cells=#[v]:=by cases v<;>first|rfl|exact absurd rfl (h3 _)
  rw [h2,h5] at h4
  exact h4.rel 0 a v rfl rfl
 have noAgg : ∀ (u:TypeDesc),P.underlying t=some u->(u = .bool\/(∃ k,u = .int k)\/u = .string \/ ∃ e,u = .slice e) -> ∀ cs,v ≠ .agg cs:=by
  intro u hu hk cs hv
  subst hv
  rcases hk with rfl|⟨k,rfl⟩|rfl|⟨e,rfl⟩<;>simp [Value.okWide,hu,Cell.okWide,Cell.ok] at hok
 cases hr with
 | bool b h=>exact ⟨one _ _ rfl rfl (noAgg _ h (.inl rfl)) hf,rfl⟩
 | int h hw=>exact ⟨one _ _ rfl rfl (noAgg _ h (.inr (.inl ⟨_,rfl⟩))) hf,rfl⟩
 | str h hs=>exact ⟨one _ _ rfl rfl (noAgg _ h (.inr (.inr (.inl rfl)))) hf,rfl⟩
 | slice h hl hb he=>exact ⟨one _ _ rfl rfl (noAgg _ h (.inr (.inr (.inr ⟨_,rfl⟩)))) hf,rfl⟩
 | struct h hl hp =>
  refine ⟨?_,OW rfl λc hc=>(hf.sc c hc).2⟩
  simp only [Value.okWide,h] at hok
  obtain ⟨cs,rfl,_⟩:=hok
  exact .agg _ _ (by simpa [AV.cells,Value.cells] using hf.len) (λc hc=>(hf.sc c hc).1) λi c x h1 h2=>hf.rel i c x h1 (by simpa [Value.cells] using h2)
 | array h hl hp =>
  refine ⟨?_,OW rfl λc hc=>(hf.sc c hc).2⟩
  simp only [Value.okWide,h] at hok
  obtain ⟨cs,rfl,_⟩:=hok
  exact .agg _ _ (by simpa [AV.cells,Value.cells] using hf.len) (λc hc=>(hf.sc c hc).1) λi c x h1 h2=>hf.rel i c x h1 (by simpa [Value.cells] using h2)
def iz{S:List TypeId}(hS:zH P S=true)(hG : ∀ b,G.kind b = .imm): ∀ (ts:List TypeId) (vs:List Value) (ds:List (DataW H)) (ps:List MemPlace),(∀ t∈ts,t∈S) ->
  DataW.TrodAll enc P w 0 (λ_=>true) true ts vs ds ps->(∀ m∈DataW.weightsEach P ts ds,m<=reachBytes)->(∀ (j:Nat) t v,ts[j]? =some t->vs[j]? =some v->Value.okWide P w .any base t v) ->
  ∃ as,Gg P ts as/\as.length=vs.length/\(∀ (i:Nat) (a:AV) (v:Value),as[i]? =some a->vs[i]? =some v->Ea G w a v/\a.owned=false) /\ ∀ μ:DataW H->Nat,BulkOk μ->FR as<=(ds.map μ).sum
 | [],vs,ds,ps,_,h,_,_=>by
  obtain ⟨rfl,rfl,rfl⟩:=trodAll_nil h
  exact ⟨[],trivial,rfl,λi a v h=>by simp at h,fun μ _=>by simp [FR]⟩
 | t::ts,vs,ds,ps,hin,h,hw,hok=>by
  obtain ⟨v,vs',d,ds',p,q,rfl,rfl,rfl,⟨fuel,h1⟩,h2⟩:=trodAll_cons h
  simp only [DataW.weightsEach,As] at hw
  obtain ⟨a,ha,hf,hba⟩:=VB hS hG fuel t _ d p (hin t sm) h1 λm hm=>hw m (.inl hm)
  obtain ⟨as,g1,g2,g3,g4⟩:=iz hS hG ts vs' ds' q (λt ht=>hin t (by simp [ht])) h2 (λm hm=>hw m (.inr hm)) λj t v h1 h2=>hok (j+1) t v (by simpa using h1) (by simpa using h2)
  refine ⟨a::as,⟨ha,g1⟩,by simp [g2],λi x y hx hy=>?_,fun μ hμ=>?_⟩
  ·cases i with
   | zero =>
    simp at hx hy
    subst hx;subst hy
    exact AGH ha hf (hok 0 t v rfl rfl)
   | succ i=>exact g3 i x y (by simpa using hx) (by simpa using hy)
  ·have h1:=hba μ hμ
   have h2:=g4 μ hμ
   simp only [FR,AS,B1]
   omega
def P0(hl:laidOutB P=true){W W':World}(hb:Below W.heap.size W W'): ∀ (ts:List TypeId) (vs:List Value) (ds:List (DataW H)) (ps:List MemPlace),(∀ t∈ts,P.readableRec t=true/\t<P.types.size) ->
  DataW.TrodAll enc P W 0 (λ_=>true) true ts vs ds ps->(∀ x∈ps,x.block<W.heap.size)->DataW.TrodAll enc P W' 0 (λb=>decide (b<W.heap.size)) true ts vs ds ps
 | [],vs,ds,ps,_,h,_=>by
  obtain ⟨rfl,rfl,rfl⟩:=trodAll_nil h
  rfl
 | t::ts,vs,ds,ps,hr,h,hlt=>by
  obtain ⟨v,vs',d,ds',p,q,rfl,rfl,rfl,h1,h2⟩:=trodAll_cons h
  exact ⟨p,q,Below.trod hl (hr t sm).1 (hr t sm).2 h1 hb λx hx=>hlt x (by simp [hx]),
   P0 hl hb ts vs' ds' q (λt ht=>hr t (by simp [ht])) h2 λx hx=>hlt x (by simp [hx]),rfl⟩
def rX{as:List AV}{us:List Value}(hg:yh ⟨[],λ_ => .imm⟩ w)(hlen:as.length=us.length)(hrel : ∀ (i:Nat) (a:AV) (v:Value),as[i]? =some a->us[i]? =some v->Ea ⟨[],λ_ => .imm⟩ w a v/\a.owned=false):
  Eb (λb=>b<w.heap.size) ⟨[],λ_ => .imm⟩ as [] us w:=by
 refine ⟨⟨hlen,λi a u h1 h2=>(hrel i a u h1 h2).1,λi a u h1 h2=>Ff (GM (hrel i a u h1 h2).2 u) _ _ _⟩,⟨rfl,λo cs b h=>by simp at h,λo o' cs cs' b h=>by simp at h,λb h=>h,hg⟩,λb=>?_⟩
 have h0:HC b as us=0:=by
  have : ¬ 0<HC b as us:=λhp=>by
   obtain ⟨i,a,u,h1,h2,p,hp,ht⟩:=RF as us hp
   have h3:=GM (hrel i a u h1 h2).2 u
   have:b∈Gs a u:=List.mem_filterMap.2 ⟨p,hp,ht⟩
   rw [h3] at this
   cases this
  omega
 rw [h0]
 simp [IJ]
def aD {C:Checked} {f:FuncId} {fn:Func} {s:ChangeSpec} {apart handsOn:Bool} {tb:TypeId} (S:List TypeId)
  (hl:laidOutB C.prog=true) (hS:zH C.prog S=true) (hpar : ∀ t∈fn.params.toList,t∈S/\C.prog.readableRec t=true/\t<C.prog.types.size)
  (hres:fn.resultTypes=#[tb]) (htb:C.prog.underlying tb=some .bool) (hv:s.vars=[])
  (hs : ∀ (H:Type) (ds:List (DataW H)),ds.length=fn.params.size->s.fn H ds={ results:=[.lit (.bool true)],args:=ds })
  (W:World) (hglob:yh ⟨[],λ_ => .imm⟩ W) (base:Nat) (args:Array Value) (ds gs:List (DataW H)) (before:List MemPlace)
  (law : ∀ as,Gg C.prog fn.params.toList as->(∀ μ:DataW H->Nat,BulkOk μ->FR as<=(ds.map μ).sum)->FQ C.prog f as (.bool true))
  (hval : ∀ (j:Nat) t v,fn.params[j]? =some t->args[j]? =some v->Value.okWide C.prog W .any base t v)
  (hW:DataW.Whole enc C.prog fn.params.toList s.vars apart W args.toList ds gs before)
  (hwt:(DataW.weightsEach C.prog (fn.params.toList++s.plain.varTypes C.prog) (ds++gs)).all (· <= reachBytes)=true) :
  Calls C.prog f args W λe W' => ∃ v,e = .returned v/\s.post enc C.prog fn apart true handsOn false W args v W':=by
 have hW':=hW
 obtain ⟨p,q,hA,hV,rfl,hfz,hnd⟩:=hW
 rw [hv] at hV
 have hg:gs=[]/\q=[]:=by
  cases gs with
  | nil=>simp [DataW.TrodVars] at hV;exact ⟨rfl,hV⟩
  | cons g gs=>simp [DataW.TrodVars] at hV
 obtain ⟨rfl,rfl⟩:=hg
 have hwt' : ∀ m∈DataW.weightsEach C.prog fn.params.toList ds,m<=reachBytes:=by
  intro m hm
  have e:s.plain.varTypes C.prog=[]:=by
   have:s.plain.vars=[]:=by rw [<- hv];rfl
   simp [DataSpec.varTypes,this]
  rw [e,Ai,Ai] at hwt
  have:=An.1 hwt m hm
  simpa using this
 obtain ⟨as,h1,h2,h3,h4⟩:=iz (G:=⟨[],λ_ => .imm⟩) (base:=base) hS (λ_=>rfl) fn.params.toList args.toList ds p (λt ht=>(hpar t ht).1) hA hwt' λj t v hj hv=>hval j t v (by simpa using hj) (by simpa using hv)
 have hc:=rX hglob h2 h3
 have hcall:=(law as h1 h4 []).2 _ _ W args.toList hc
 rw [Array.toArray_toList] at hcall
 refine hcall.mono λe W' he=>?_
 obtain ⟨u,rfl,v,H',G',⟨rfl,rfl⟩,hcr,hext⟩:=he
 obtain ⟨hu,_,_⟩:=hcr.l.uncons
 have hu':u = .bool true:=by cases hu;rfl
 subst hu'
 have hb:Below W.heap.size W W':=⟨hext.io.1,hext.io.2.1,hext.io.2.2,hext.size,λk hk=>hext.cells k hk⟩
 have hdl:ds.length=fn.params.size:=by
  have : ∀ (ts:List TypeId) (vs:List Value) (ds:List (DataW H)) (ps:List MemPlace),DataW.TrodAll enc C.prog W 0 (λ_=>true) true ts vs ds ps->ds.length=ts.length:=by
   intro ts
   induction ts with
   | nil=>intro vs ds ps h;obtain ⟨_,rfl,_⟩:=trodAll_nil h;rfl
   | cons t ts ih=>intro vs ds ps h;obtain ⟨v,vs',d,ds',p,q,_,rfl,_,_,h2⟩:=trodAll_cons h;simp [ih _ _ _ h2]
  simpa using this _ _ _ _ hA
 refine ⟨_,rfl,ds,[],p++[],[],p,[],hW', ?_, ?_, ?_,hb.frame _,λh=>by cases h⟩
 ·rw [Ai,hs H ds hdl,hres]
  exact trodAll_mk1 ⟨1,by simp [DataW.trod,Value.cells,htb]⟩
 ·rw [Ai,hs H ds hdl]
  exact P0 hl hb _ _ _ _ (λt ht=>(hpar t ht).2) hA λx hx=>hW'.lt x (by simp [hx])
 ·rw [Ai,hs H ds hdl,hv]
  rfl
end
end Go.AI
namespace Go.AI
section
variable {P:Program} {m:Nat} {h:Ec} {ops:Array Oper} {e:Fs} {H:FP} {Q:Exit->Kt} {ar:Option Nat}
def Qw : ∀ (l:List Oper) (K K':Fs->FP->Prop) (e:Fs) (H:FP),(∀ e H,K e H->K' e H)->LL P m h ops l K e H->LL P m h ops l K' e H
 | [],K,K',e,H,hk,ha=>hk e H ha
 | o::l,K,K',e,H,hk,ha=>LC (λe H=>Qw l K K' e H hk) ha
def GX : ∀ (c:Code) {ar:Option Nat} (Q Q':Exit->Kt) (e:Fs) (H:FP),(∀ ex e H,Q ex e H->Q' ex e H)->I7 P m h ar c Q e H->I7 P m h ar c Q' e H
 | .skip,ar,Q,Q',e,H,hq,ha=>hq _ _ _ ha
 | .exit id,ar,Q,Q',e,H,hq,ha=>hq _ _ _ ha
 | .ret,ar,Q,Q',e,H,hq,ha=>hq _ _ _ ha
 | .region id ops draw,ar,Q,Q',e,H,hq,ha=>Qw _ _ _ _ _ (λ_ _ h=>⟨h.1,hq _ _ _ h.2⟩) ha
 | .seq a b,ar,Q,Q',e,H,hq,ha=>GX a _ _ e H (λex e H h=>by
   cases ex with
   | normal=>exact GX b Q Q' e H hq h
   | _=>exact hq _ _ _ h) ha
 | .cond c a b,ar,Q,Q',e,H,hq,ha=>by
  simp only [I7] at ha ⊢
  split at ha
  ·rename_i t ht
   cases t with
   | true=>exact GX a Q Q' e H hq ha
   | false=>exact GX b Q Q' e H hq ha
  ·exact ha.elim
 | .block id c,ar,Q,Q',e,H,hq,ha=>GX c _ _ e H (λex e H h=>by
   cases ex with
   | exit j =>
    dsimp only at h ⊢
    split at h
    ·rename_i hj;rw [iP hj];exact hq _ _ _ h
    ·rename_i hj;rw [iN hj];exact hq _ _ _ h
   | _=>exact hq _ _ _ h) ha
 | .loop c,ar,Q,Q',e,H,hq,ha=>by
  obtain ⟨I,μ,h0,hr⟩:=ha
  exact ⟨I,μ,h0,λe H hi=>GX c _ _ e H (λex e H h=>by
   cases ex with
   | normal=>exact h
   | _=>exact hq _ _ _ h) (hr e H hi)⟩
 | .rangeFunc g ps assign body,ar,Q,Q',e,H,hq,ha=>by
  obtain ⟨h1,tag,f,first,captured,h2,h3⟩:=ha
  refine ⟨h1,tag,f,first,captured,h2,h3.mono λv H2 hp=>?_⟩
  obtain ⟨st,av,g1,g2⟩:=hp
  refine ⟨st,av,g1, ?_⟩
  rcases g2 with ⟨a,b⟩|⟨a,b⟩|⟨k,a,b⟩
  ·exact .inl ⟨a,hq _ _ _ b⟩
  ·exact .inr (.inl ⟨a,hq _ _ _ b⟩)
  ·exact .inr (.inr ⟨k,a,hq _ _ _ b⟩)
 | .scope _,ar,_,_,_,_,_,ha=>ha.elim
 | .label _,ar,_,_,_,_,_,ha=>ha.elim
 | .goto _,ar,_,_,_,_,_,ha=>ha.elim
 | .refuse _,ar,_,_,_,_,_,ha=>ha.elim
def Acj(J:Nat->Kt)(r:Nat)(Q:Exit->Kt)(ex:Exit):Kt:=λe H =>
 match ex with
 | .normal => ∃ r',r'<r/\J r' e H
 | ex=>Q ex e H
def Ns{c:Code}(J:Nat->Kt)(h0 : ∃ r,J r e H)(round : ∀ r e H,J r e H->I7 P m h ar c (Acj J r Q) e H):I7 P m h ar (.loop c) Q e H:=by
 have hl : ∀ (e:Fs) (H:FP),∃ r,(∃ r,J r e H)->J r e H /\ ∀ k,J k e H->r<=k:=λe H=>by
  by_cases he : ∃ r,J r e H
  ·obtain ⟨r,h1,h2⟩:=Rj he
   exact ⟨r,λ_=>⟨h1,h2⟩⟩
  ·exact ⟨0,λh=>absurd h he⟩
 refine ⟨λe H => ∃ r,J r e H,λe H=>Classical.choose (hl e H),h0,λe H hI=>?_⟩
 obtain ⟨h1,h2⟩:=Classical.choose_spec (hl e H) hI
 refine GX c _ _ e H (λex e' H' hq=>?_) (round _ e H h1)
 cases ex with
 | normal =>
  obtain ⟨r',hr,hJ⟩:=hq
  refine ⟨⟨r',hJ⟩, ?_⟩
  obtain ⟨_,h4⟩:=Classical.choose_spec (hl e' H') ⟨r',hJ⟩
  exact Nat.lt_of_le_of_lt (h4 r' hJ) hr
 | _=>exact hq
end
end Go.AI
namespace Go.AI
def AC0(m:Nat):List Nat:=(Am (m.log2+1)).filter λi=>m.testBit i
def lvM:Nat->List Nat->List (Nat×List Tmp)
 | _,[]=>[]
 | k,m::l=>(k,AC0 m)::lvM (k+1) l
def hm(l:List Nat)(tk mt pc:List Tmp):Ec:=⟨lvM 0 l,tk,mt,[],pc,[],[]⟩
def hx(l:List Nat)(tk mt:List Tmp)(fz:List (Nat×List (Tmp×Option Nat×Bool)))(pc:List Tmp)(gc:List (Nat×Nat))(dy:List Nat):Ec:=⟨lvM 0 l,tk,mt,fz,pc,gc,dy⟩
def OA{n:Int}(h1 : -9223372036854775808<=n)(h2:n<=9223372036854775807):IntKind.i64.wrap n=n:=IntWalk.i64_in _ ⟨h1,h2⟩
def Mk{k:Nat}(h:k<9223372036854775807):IntKind.i64.wrap ((k:Int)+1)=((k+1:Nat):Int):=by
 rw [OA FO FO];rfl
section
variable {P:Program} {m:Nat} {h:Ec} {e:Fs} {H:FP} {Q:Exit->Kt} {ops:Array Oper} {ar:Option Nat}
def At(e e':Fs)(H H':FP):Prop:=e=e'/\H=H'
def ARj(n:Nat)(E:Nat->Fs)(HH:Nat->FP)(k:Nat)(Q:Exit->Kt)(ex:Exit):Kt:=λe H =>
 match ex with
 | .normal=>k<n/\At e (E (k+1)) H (HH (k+1))
 | ex=>Q ex e H
def gd(n:Nat)(E:Nat->Fs)(HH:Nat->FP)(k:Nat):ARj n E HH k Q .normal e H=(k<n/\At e (E (k+1)) H (HH (k+1))):=AG rfl rfl
def wu(n:Nat)(E:Nat->Fs)(HH:Nat->FP)(k j:Nat):ARj n E HH k Q (.exit j)=Q (.exit j):=AG rfl rfl
def bD{c:Code}(n:Nat)(E:Nat->Fs)(HH:Nat->FP)(he:e=E 0)(hH:H=HH 0)(round : ∀ k,k<=n->I7 P m h ar c (ARj n E HH k Q) (E k) (HH k)):I7 P m h ar (.loop c) Q e H:=by
 subst he;subst hH
 refine Ns (λr e H => ∃ k,k+r=n/\e=E k/\H=HH k) ⟨n,0,FO,rfl,rfl⟩ λr e H hJ=>?_
 obtain ⟨k,hk,rfl,rfl⟩:=hJ
 refine GX c _ _ _ _ (λex e H hq=>?_) (round k FO)
 cases ex with
 | normal =>
  obtain ⟨h1,rfl,rfl⟩:=hq
  exact ⟨r - 1,FO,k+1,FO,rfl,rfl⟩
 | _=>exact hq
def whK{σ:Type}(E:σ->Fs)(HH:σ->FP)(I:σ->Prop)(μ:σ->Nat)(s:σ)(Q:Exit->Kt)(ex:Exit):Kt:=λe H =>
 match ex with
 | .normal => ∃ s',I s'/\μ s'<μ s/\At e (E s') H (HH s')
 | ex=>Q ex e H
section
variable {σ:Type}
def kv(E:σ->Fs)(HH:σ->FP)(I:σ->Prop)(μ:σ->Nat)(s:σ):whK E HH I μ s Q .normal e H = ∃ s',I s'/\μ s'<μ s/\At e (E s') H (HH s'):=AG rfl rfl
def AES(E:σ->Fs)(HH:σ->FP)(I:σ->Prop)(μ:σ->Nat)(s:σ):whK E HH I μ s Q .ret=Q .ret:=AG rfl rfl
def yw(E:σ->Fs)(HH:σ->FP)(I:σ->Prop)(μ:σ->Nat)(s:σ)(j:Nat):whK E HH I μ s Q (.exit j)=Q (.exit j):=AG rfl rfl
def Ko{c:Code}(E:σ->Fs)(HH:σ->FP)(I:σ->Prop)(μ:σ->Nat)(s:σ)(h0:I s)(he:e=E s)(hH:H=HH s)(round : ∀ s,I s->I7 P m h ar c (whK E HH I μ s Q) (E s) (HH s)):I7 P m h ar (.loop c) Q e H:=by
 subst he;subst hH
 refine Ns (λr e H => ∃ s,I s/\μ s=r/\e=E s/\H=HH s) ⟨μ s,s,h0,rfl,rfl,rfl⟩ λr e H hJ=>?_
 obtain ⟨s,hs,rfl,rfl,rfl⟩:=hJ
 refine GX c _ _ _ _ (λex e H hq=>?_) (round s hs)
 cases ex with
 | normal =>
  obtain ⟨s',h1,h2,rfl,rfl⟩:=hq
  exact ⟨μ s',h2,s',h1,rfl,rfl,rfl⟩
 | _=>exact hq
end
section
variable {α σ ρ:Type}
def pg(F:σ->List α->ρ)(E:Nat->σ->Fs)(HH:Nat->σ->FP)(I:Nat->σ->Prop)(k:Nat)(s:σ)(x:α)(xs:List α)(Q:Exit->Kt)(ex:Exit):Kt:=λe H =>
 match ex with
 | .normal => ∃ s',F s (x::xs)=F s' xs/\I (k+1) s'/\At e (E (k+1) s') H (HH (k+1) s')
 | ex=>Q ex e H
def Zl(F:σ->List α->ρ)(E:Nat->σ->Fs)(HH:Nat->σ->FP)(I:Nat->σ->Prop)(k:Nat)(s:σ)(x:α)(xs:List α):pg F E HH I k s x xs Q .normal e H = ∃ s',F s (x::xs)=F s' xs/\I (k+1) s'/\At e (E (k+1) s') H (HH (k+1) s'):=AG rfl rfl
def re(F:σ->List α->ρ)(E:Nat->σ->Fs)(HH:Nat->σ->FP)(I:Nat->σ->Prop)(k:Nat)(s:σ)(x:α)(xs:List α):pg F E HH I k s x xs Q .ret=Q .ret:=AG rfl rfl
def lI(F:σ->List α->ρ)(E:Nat->σ->Fs)(HH:Nat->σ->FP)(I:Nat->σ->Prop)(k:Nat)(s:σ)(x:α)(xs:List α)(j:Nat):pg F E HH I k s x xs Q (.exit j)=Q (.exit j):=AG rfl rfl
def qX(Q:Exit->Kt)(ex:Exit):Kt:=λe H =>
 match ex with
 | .normal=>False
 | ex=>Q ex e H
def nN(j:Nat):qX Q (.exit j)=Q (.exit j):=AG rfl rfl
def Fm {c:Code} (l:List α) (F:σ->List α->ρ) (I:Nat->σ->Prop) (E:Nat->σ->Fs) (HH:Nat->σ->FP) (s0:σ) (hl:l.length<=9223372036854775807) (h0:I 0 s0) (he:e=E 0 s0) (hH:H=HH 0 s0)
  (round : ∀ k s x xs,l.drop k=x::xs->l[k]? =some x->I k s->F s0 l=F s (x::xs)->0<=(k:Int)->(k:Int)<(l.length:Int)->IntKind.i64.wrap ((k:Int)+1)=((k+1:Nat):Int)->I7 P m h ar c (pg F E HH I k s x xs Q) (E k s) (HH k s))
  (fin : ∀ s,I l.length s->F s0 l=F s []->I7 P m h ar c (qX Q) (E l.length s) (HH l.length s)):I7 P m h ar (.loop c) Q e H:=by
 subst he;subst hH
 refine Ns (λr e H => ∃ k s,k+r=l.length/\I k s/\F s0 l=F s (l.drop k)/\e=E k s/\H=HH k s) ⟨l.length,0,s0,FO,h0,sm,rfl,rfl⟩ λr e H hJ=>?_
 obtain ⟨k,s,hk,hI,hF,rfl,rfl⟩:=hJ
 by_cases hlt:k<l.length
 ·have hx:=AL hlt
  have hd:l.drop k=l[k]::l.drop (k+1):=BL hlt
  rw [hd] at hF
  refine GX c _ _ _ _ (λex e H hq=>?_) (round k s _ _ hd hx hI hF FO FO  (Mk FO))
  cases ex with
  | normal =>
   obtain ⟨s',h1,h2,rfl,rfl⟩:=hq
   exact ⟨r - 1,FO,k+1,s',FO,h2,hF.trans h1,rfl,rfl⟩
  | _=>exact hq
 ·have hk':k=l.length:=FO
  subst hk'
  rw [Cp] at hF
  refine GX c _ _ _ _ (λex e H hq=>?_) (fin s hI hF)
  cases ex with
  | normal=>exact hq.elim
  | _=>exact hq
end
end
section
variable {P:Program} {t:TypeId} {a b:AV} {r:Bool} {d:Tmp} {K:Kt} {e:Fs} {H:FP}
end
mutual
def AV.fit:AV->Prop
 | .sl _ es=>es.length<=9223372036854775807/\HY es
 | .agg cs=>HY cs
 | .tup vs=>HY vs
 | _=>True
def HY:List AV->Prop
 | []=>True
 | v::vs=>v.fit/\HY vs
end
def Fw{vs:List AV}:HY vs ↔ ∀ v∈vs,v.fit:=by
 induction vs with
 | nil=>simp [HY]
 | cons x xs ih=>simp [HY,ih]
def aZ{a:AV}(h : ∀ c∈a.cells,c.fit):a.fit:=by
 cases a with
 | agg cs=>exact Fw.2 h
 | _=>exact h _ (by simp [AV.cells])
def VRel.fit{G:Gh}{w:World}{a:AV}{v:Value}(h:Ea G w a v):a.fit:=by
 induction h with
 | sl own es sz b q cap u hsz hown hl hm h hu ih =>
  refine ⟨AK hl hm,Fw.2 λx hx=>aZ λc hc=>?_⟩
  have:c∈HU es:=Bh.2 ⟨x,hx,hc⟩
  obtain ⟨i,hi⟩:=Af this
  exact ih i c hi
 | slnil own=>exact ⟨sm,trivial⟩
 | slany own a=>exact ⟨sm,trivial⟩
 | agg cs vs hl hs h ih =>
  refine Fw.2 λc hc=>?_
  obtain ⟨i,hi⟩:=Af hc
  have hlt:=(AC.1 hi).1
  exact ih i c _ hi (Aj FO)
 | tup cs vs hl hs h ih =>
  refine Fw.2 λc hc=>?_
  obtain ⟨i,hi⟩:=Af hc
  have hlt:=(AC.1 hi).1
  exact ih i c _ hi (Aj FO)
 | _=>exact trivial
def CRel.fit{F:Nat->Prop}{G:Gh}{w:World}{vs:List AV}{H:FP}{us:List Value}(h:Eb F G vs H us w):HY vs:=by
 refine Fw.2 λa ha=>?_
 obtain ⟨i,hi⟩:=Af ha
 have hlt:=(AC.1 hi).1
 have:=h.l.len
 exact (h.l.rel i a _ hi (AL FO)).fit
def FV.fit{P:Program}{f:FuncId}{vs:List AV}{H:FP}{R:AV->FP->Prop}(hcal:HW P f=true)(h:HY vs->FV P f vs H R):FV P f vs H R :=
 ⟨hcal,λF G w us hc=>(h hc.fit).2 F G w us hc⟩
def FQ.fit{P:Program}{f:FuncId}{vs:List AV}{v:AV}(hcal:HW P f=true)(h:HY vs->FQ P f vs v):FQ P f vs v:=λH =>
 ⟨hcal,λF G w us hc=>(h hc.fit H).2 F G w us hc⟩
def KL.fit{P:Program}{f:FuncId}{vs:List AV}{Q:AV->Prop}(hcal:HW P f=true)(h:HY vs->KL P f vs Q):KL P f vs Q:=λH =>
 ⟨hcal,λF G w us hc=>(h hc.fit H).2 F G w us hc⟩
section
variable {P:Program} {t e:TypeId} {a:AV}
def yQ{k:IntKind}(hu:P.underlying t=some (.int k))(h:Rd P t a): ∃ n,a = .int k n/\(k.min<=n/\n<=k.max):=by
 cases h with
 | int h hw=>rw [hu] at h;cases h;exact ⟨_,rfl,hw⟩
 | bool b h=>rw [hu] at h;cases h
 | str h=>rw [hu] at h;cases h
 | slice h=>rw [hu] at h;cases h
 | struct h=>rw [hu] at h;cases h
 | array h=>rw [hu] at h;cases h
def Wu(hu:P.underlying t=some .bool)(h:Rd P t a): ∃ b,a = .bool b/\True:=by
 cases h with
 | int h hw=>rw [hu] at h;cases h
 | bool b h=>exact ⟨_,rfl,trivial⟩
 | str h=>rw [hu] at h;cases h
 | slice h=>rw [hu] at h;cases h
 | struct h=>rw [hu] at h;cases h
 | array h=>rw [hu] at h;cases h
def yP(hu:P.underlying t=some .string)(h:Rd P t a): ∃ s,a = .str s/\s.size<=reachBytes:=by
 cases h with
 | int h hw=>rw [hu] at h;cases h
 | bool b h=>rw [hu] at h;cases h
 | str h hs=>exact ⟨_,rfl,hs⟩
 | slice h=>rw [hu] at h;cases h
 | struct h=>rw [hu] at h;cases h
 | array h=>rw [hu] at h;cases h
def IR{α:Type}{f:α->AV}{ok:α->Prop}(hu:P.underlying t=some (.slice e))(hd : ∀ x,Rd P e x -> ∃ y,x=f y/\ok y)(h:Rd P t a):
  ∃ l:List α,a = .sl none (l.map f)/\l.length*P.bytesOf e<=reachBytes /\ ∀ x∈l,ok x:=by
 cases h with
 | slice h hl hb he =>
  rw [hu] at h;cases h
  rename_i es
  have : ∃ l:List α,es=l.map f /\ ∀ x∈l,ok x:=by
   clear hl hb
   induction es with
   | nil=>exact ⟨[],rfl,λx hx=>by simp at hx⟩
   | cons x xs ih =>
    obtain ⟨y,rfl,hy⟩:=hd x (he x sm)
    obtain ⟨l,rfl,hl⟩:=ih λx hx=>he x (by simp [hx])
    exact ⟨y::l,rfl,λz hz=>by
     rcases AX.1 hz with rfl|hz
     ·exact hy
     ·exact hl z hz⟩
  obtain ⟨l,rfl,hok⟩:=this
  exact ⟨l,rfl,by simpa using hb,hok⟩
 | int h hw=>rw [hu] at h;cases h
 | bool b h=>rw [hu] at h;cases h
 | str h=>rw [hu] at h;cases h
 | struct h=>rw [hu] at h;cases h
 | array h=>rw [hu] at h;cases h
def PF(hu:P.underlying t=some (.slice e))(h:Rd P t a): ∃ es:List AV,a = .sl none es/\es.length*P.bytesOf e<=reachBytes /\ ∀ x∈es,Rd P e x:=by
 cases h with
 | slice h hl hb he =>
  rw [hu] at h;cases h
  exact ⟨_,rfl,hb,he⟩
 | int h hw=>rw [hu] at h;cases h
 | bool b h=>rw [hu] at h;cases h
 | str h=>rw [hu] at h;cases h
 | struct h=>rw [hu] at h;cases h
 | array h=>rw [hu] at h;cases h
def Z8{α:Type}{f:α->AV}{ok:α->Prop}{es:List AV}(h : ∀ x∈es,∃ y,x=f y/\ok y): ∃ l:List α,es=l.map f /\ ∀ x∈l,ok x:=by
 induction es with
 | nil=>exact ⟨[],rfl,λx hx=>by simp at hx⟩
 | cons x xs ih =>
  obtain ⟨y,rfl,hy⟩:=h x sm
  obtain ⟨l,rfl,hl⟩:=ih λx hx=>h x (by simp [hx])
  exact ⟨y::l,rfl,λz hz=>by
   rcases AX.1 hz with rfl|hz
   ·exact hy
   ·exact hl z hz⟩
def Zk{o:Option Nat}{es cs:List AV}(h:AV.sl o es∈cs):SizeOf.sizeOf es<SizeOf.sizeOf (AV.agg cs):=by
 have h1:=List.sizeOf_lt_of_mem h
 have h2:SizeOf.sizeOf (AV.agg cs)=1+SizeOf.sizeOf cs:=sm
 have h3:SizeOf.sizeOf (AV.sl o es)=1+SizeOf.sizeOf o+SizeOf.sizeOf es:=sm
 omega
def Ft{a:AV}{l:List AV}(h:a∈l):a.bulk<=FR l:=by
 induction l with
 | nil=>cases h
 | cons x l ih =>
  simp only [FR]
  rcases AX.1 h with rfl|h
  ·omega
  ·have:=ih h;omega
def Hf(l:List AV)(a n:Nat):FR ((l.drop a).take n)<=FR l:=by
 have h1:=No ((l.drop a).take n) ((l.drop a).drop n)
 have h2:=No (l.take a) (l.drop a)
 rw [A9] at h1 h2
 omega
def HO{α:Type}{f:α->AV}(hf : ∀ x,1<=(f x).bulk)(l:List α):l.length<=FR (l.map f):=by
 induction l with
 | nil=>simp
 | cons x l ih =>
  have:=hf x
  simp only [AD,AS,FR]
  omega
def HF{s:ByteArray}{l:List AV}{B:Nat}(h:AV.str s∈l)(hb:FR l<=B):s.size<=B:=by
 have:=Ft h
 simp only [AV.bulk] at this
 omega
def Gq{o:Option Nat}{es l:List AV}{B:Nat}(h:AV.sl o es∈l)(hb:FR l<=B):FR es<=B:=by
 have:=Ft h
 simp only [AV.bulk] at this
 omega
def AGo(P:Program)(t:TypeId):Option (List TypeId) :=
 match P.underlying t with
 | some (.struct fs)=>some (fs.toList.map (·.type))
 | some (.array n e)=>some (A4 n e)
 | _=>none
def Ye{ts:List TypeId}{ps:List AV}(hl:ps.length=ts.length)(h : ∀ (i:Nat) (t:TypeId) (x:AV),ts[i]? =some t->ps[i]? =some x->Rd P t x):Gg P ts ps:=by
 induction ts generalizing ps with
 | nil=>cases ps with
  | nil=>trivial
  | cons=>simp at hl
 | cons t ts ih=>cases ps with
  | nil=>simp at hl
  | cons p ps=>exact ⟨h 0 t p rfl rfl,ih (by simpa using hl) λi t x h1 h2=>h (i+1) t x (by simpa using h1) (by simpa using h2)⟩
def GJ{ts:List TypeId}(hs:AGo P t=some ts)(h:Rd P t a): ∃ ps,a = .agg (HU ps)/\Gg P ts ps:=by
 unfold AGo at hs
 cases h with
 | struct h hl hp =>
  rw [h] at hs;cases hs
  refine ⟨_,rfl,Ye (by simpa using hl) λi t x h1 h2=>?_⟩
  rw [Ab] at h1
  rename_i fs _
  cases hf:fs.toList[i]? with
  | none=>rw [hf] at h1;cases h1
  | some f=>rw [hf] at h1;cases h1;exact hp i f x (by simpa using hf) h2
 | array h hl hp =>
  rw [h] at hs;cases hs
  refine ⟨_,rfl,Ye (by simpa using hl) λi t x h1 h2=>?_⟩
  have:=List.eq_of_mem_replicate (AB h1)
  subst this
  exact hp x (AB h2)
 | int h hw=>rw [h] at hs;cases hs
 | bool b h=>rw [h] at hs;cases hs
 | str h=>rw [h] at hs;cases hs
 | slice h=>rw [h] at hs;cases hs
end
end Go.AI
namespace Go.AI
def mj(h:Ec)(a:h.gc=[])(b:h.fz=[])(c:h.dy=[]):(∀ k,h.ct k=none)/\(∀ k,h.at k=[])/\(∀ k,h.dn k=false):=by
 refine ⟨λk=>?_,λk=>?_,λk=>?_⟩
 ·simp [Hint.ct,a]
 ·simp [Hint.at,b]
 ·simp [Hint.dn,Hint.da,Hint.mv,c]
structure FK (P:Program) (f:FuncId) (fn:Func) (h:Ec):Prop where
 m:P.follows .mixedOrders=true
 d:fn.body.any (GZ h)=true
 g:P.funcs[f]? =some fn
 c:HW P f=true
def Zm(c:AV):(borrow1 c).pure=c.pure:=by cases c<;>rfl
def P4(cs:List AV):A' (cs.map borrow1)=A' cs:=by
 induction cs with
 | nil=>rfl
 | cons c cs ih=>simp [A',Zm,ih]
def Zn(a:AV):(borrow0 a).pure=a.pure:=by
 cases a<;>first|rfl|exact P4 _
def di(a:AV):a.borrow.pure=a.pure:=by
 cases a with
 | tup vs =>
  show A' (vs.map borrow0)=A' vs
  induction vs with
  | nil=>rfl
  | cons c cs ih=>simp [A',Zn,ih]
 | agg cs=>exact P4 _
 | _=>rfl
def yU {P:Program} {f:FuncId} {fn:Func} {c:Code} {vs:List AV} {v:AV} (h:Ec) (hm:P.follows .mixedOrders=true) (hd:fn.body.any (GZ h)=true) (hf:P.funcs[f]? =some fn) (hb:fn.body=some c) (hcal:HW P f=true)
  (hn:vs.length<=fn.ntmps) (hp:A' vs=true) (hv:v.pure=true) (ha:I7 P fn.ntmps h none c (TC P fn.ntmps fn.results λv' _=>v'.borrow=v) (GQ 0 vs) []):FQ P f vs v:=λH =>
 ⟨hcal,λF G w us hc=>Calls.mono (KA (.inr rfl) hm hd hf hb hn ha (hc.hide (ID hp))) λe w' he=>by
  obtain ⟨u,rfl,v',H2,G',rfl,hcr,hext⟩:=he
  obtain ⟨h1,h2⟩:=hc.unhide (by rw [di] at hv;exact hv) hcr hext
  exact ⟨u,rfl,_,H,_,⟨rfl,rfl⟩,by simpa using h1.lend,h2⟩⟩
def iq(cs:List AV):borrow0 (.agg cs) = .agg (cs.map borrow1):=rfl
def ip(k:IntKind)(n:Int):borrow0 (.int k n) = .int k n:=rfl
def ay(b:Bool):borrow0 (.bool b) = .bool b:=rfl
def oF(o:Option Nat)(es:List AV):borrow0 (.sl o es) = .sl none es:=rfl
def Zj(c x:AV)(cs xs:List AV):Hs (c::cs) (x::xs)=x::Hs cs xs:=by
 simp [Hs,splice]
def dE(cs:List AV):Hs cs []=cs:=by simp [Hs,splice]
def rh(o:Option Nat)(es:List AV):(AV.sl o es).scalar=true:=rfl
def ML(n:Nat):FP->Bool
 | []=>true
 | some cs::r=>Fo n cs&&ML n r
 | none::r=>ML n r
def nW(n:Nat)(H:FP):ML n H=H.all λo=>match o with
 | some cs=>Fo n cs
 | none=>true:=by
 induction H with
 | nil=>rfl
 | cons o r ih=>cases o<;>simp [ML,ih]
def xA(H:FP):Uo H=ML H.length H:=(nW _ _).symm
def iO(n:Nat):ML n []=true:=rfl
def al(n:Nat)(cs:List AV)(r:FP):ML n (some cs::r)=(Fo n cs&&ML n r):=rfl
def xd(k:Nat):Fo k []=true:=rfl
def oG(k:Nat)(v:AV)(vs:List AV):Fo k (v::vs)=(v.bnd k&&Fo k vs):=rfl
def AF6(k a b:Nat):(AV.ptr a b).bnd k=decide (a<k):=rfl
def AF7(k:Nat)(i:IntKind)(n:Int):(AV.int i n).bnd k=true:=rfl
def ATb(k:Nat)(o:Option Nat)(es:List AV):(AV.sl o es).bnd k=Fo k es:=rfl
def AFW(r:Option (AV×FP))(t:Tmp)(zs:List (Tmp×Option Nat×Bool))(Q:Exit->Kt)(e:Fs)(H:FP):Prop :=
 match r with
 | some (v,H')=>Xj zs Q ((t,v)::e) H'
 | none=>Xj zs Q e H
def ARi(t:Tmp)(ag:Bool)(zs:List (Tmp×Option Nat×Bool))(Q:Exit->Kt)(e:Fs)(H:FP):Xj ((t,none,ag)::zs) Q e H=AFW (Kw ag (Fq e t) H) t zs Q e H:=by
 rw [ws]
 unfold gR AFW
 dsimp only
 cases Kw ag (Fq e t) H with
 | none=>rfl
 | some p=>rfl
def wr(v:AV)(H':FP)(t:Tmp)(zs:List (Tmp×Option Nat×Bool))(Q:Exit->Kt)(e:Fs)(H:FP):AFW (some (v,H')) t zs Q e H=Xj zs Q ((t,v)::e) H':=AG rfl rfl
def ACW:HU []=[]:=rfl
section
variable {α:Type} {f:α->List AV} {n:Nat}
def Uk{l:List α}{k:Nat}{x:α}(hx:l[k]? =some x):l.drop k=x::l.drop (k+1):=by
 obtain ⟨h,rfl⟩:=AC.1 hx
 exact BL h
def nZ(cs:List AV):Ia false 1 cs.length cs=cs:=by
 induction cs with
 | nil=>rfl
 | cons x xs ih=>simp [Ia,ih]
end
end Go.AI
namespace Go.AI
attribute [go_sem] Nat.reduceEqDiff Nat.reduceLT Nat.reduceAdd Nat.reduceSub Nat.reduceMul Nat.reduceBEq Nat.reduceLeDiff Nat.reduceDvd reduceCtorEq Int.reduceToNat Int.reduceLT Int.reduceLE
attribute [go_sem] Nat.le_refl Int.le_refl false_implies implies_true Kw List.take_length AX List.not_mem_nil or_false forall_eq_or_imp forall_eq List.range_succ EE exists_eq_left' Option.some.injEq
attribute [go_sem ↓] reduceIte
attribute [go_sem] Av Ax
section
variable {P:Program} {f:FuncId} {fn:Func} {h:Ec} {c:Code} {vs:List AV} {v:AV} {Q:AV->Prop} {R:AV->FP->Prop} {H:FP}
def pC(k:FK P f fn h)(hb:fn.body=some c)(ha:I7 P fn.ntmps h none c (TC P fn.ntmps fn.results λv' _=>v'=v) (GQ 0 vs) [])(hn:vs.length.ble fn.ntmps=true:=by rfl)(hp:A' vs=true:=by simp [A',AV.pure,go_sem])(hv:v.pure=true:=by rfl):FQ P f vs v :=
 ADi h k.m k.d k.g hb k.c (CQ hn) hp hv ha
def pB(k:FK P f fn h)(hb:fn.body=some c)(ha:I7 P fn.ntmps h none c (TC P fn.ntmps fn.results λv' _=>v'.borrow=v) (GQ 0 vs) [])(hn:vs.length.ble fn.ntmps=true:=by rfl)(hp:A' vs=true:=by simp [A',AV.pure,go_sem])(hv:v.pure=true:=by simp [A',AV.pure,go_sem]):FQ P f vs v :=
 yU h k.m k.d k.g hb k.c (CQ hn) hp hv ha
def qC(k:FK P f fn h)(hb:fn.body=some c)(ha:I7 P fn.ntmps h none c (TC P fn.ntmps fn.results λv' _=>v'.pure=true/\Q v') (GQ 0 vs) [])(hn:vs.length.ble fn.ntmps=true:=by rfl)(hp:A' vs=true:=by simp [A',AV.pure,go_sem]):KL P f vs Q :=
 ADe h k.m k.d k.g hb k.c (CQ hn) hp ha
def aC(k:FK P f fn h)(hb:fn.body=some c)(ha:I7 P fn.ntmps h none c (TC P fn.ntmps fn.results R) (GQ 0 vs) H)(hg:h.gc=[]:=by rfl)(hn:vs.length.ble fn.ntmps=true:=by rfl):FV P f vs H R :=
 kW h hg k.m k.d k.g hb k.c (CQ hn) ha
def aN(k:FK P f fn h)(hb:fn.body=some c)(ha:I7 P fn.ntmps h none c (TC P fn.ntmps fn.results R) (GQ 0 vs) [])(hn:vs.length.ble fn.ntmps=true:=by rfl):FV P f vs [] R :=
 ⟨k.c,λF G w us hc=>KA (.inr (List.length_eq_zero_iff.1 hc.h.len)) k.m k.d k.g hb (CQ hn) ha hc⟩
end
section
variable {P:Program} {f:FuncId} {vs:List AV} {d:Option Tmp} {K A B:Kt} {e:Fs} {H:FP} {v:AV} {t b:Bool}
def pK(hc:FQ P f vs v)(hk:K (put d v e) H):Wx P f vs d K e H:=⟨v,hc,hk⟩
def cS(ht:t=true->A e H)(hf:t=false->B e H):iJ (.bool t) A B e H:=Tj _ _ _ ht hf
def gS(ht:t=b->A e H)(hf:t=(!b)->B e H):V8 (.bool t) b A B e H:=m7 _ _ _ _ ht hf
end
def S3(s:ByteArray):s.data.toList.length=s.size:=by
 have:s.size=s.data.size:=rfl
 rw [this,Array.length_toList]
def Fl{α:Type}{l:List α}{k:Nat}{x:α}{xs:List α}(h:l.drop k=x::xs):l.length=k+xs.length+1:=by
 have:=congrArg List.length h
 simp at this;omega
def AGj(e:Fs)(H:FP):At e e H H=True:=by simp [At]
section
variable {P:Program} {m:Nat} {h:Ec} {e:Fs} {H:FP} {Q:Exit->Kt} {ops:Array Oper} {ar:Option Nat} {α σ ρ:Type}
def ADU(F:List α->ρ)(E:Nat->Fs)(HH:FP)(k:Nat)(x:α)(xs:List α)(Q:Exit->Kt)(ex:Exit):Kt:=λe H =>
 match ex with
 | .normal=>F (x::xs)=F xs/\At e (E (k+1)) H HH
 | ex=>Q ex e H
def jJ(F:List α->ρ)(E:Nat->Fs)(HH:FP)(k:Nat)(x:α)(xs:List α):ADU F E HH k x xs Q .normal e H=(F (x::xs)=F xs/\At e (E (k+1)) H HH):=AG rfl rfl
def ADT(F:List α->ρ)(E:Nat->Fs)(HH:FP)(k:Nat)(x:α)(xs:List α):ADU F E HH k x xs Q .ret=Q .ret:=AG rfl rfl
def yI(F:List α->ρ)(E:Nat->Fs)(HH:FP)(k:Nat)(x:α)(xs:List α)(j:Nat):ADU F E HH k x xs Q (.exit j)=Q (.exit j):=AG rfl rfl
def Fa {c:Code} (l:List α) (F:List α->ρ) (E:Nat->Fs) (hl:l.length<=9223372036854775807) (he:e=E 0)
  (round : ∀ k x xs,l.drop k=x::xs->l[k]? =some x->F l=F (x::xs)->0<=(k:Int)->(k:Int)<(l.length:Int)->IntKind.i64.wrap ((k:Int)+1)=((k+1:Nat):Int)->I7 P m h ar c (ADU F E H k x xs Q) (E k) H)
  (fin:F l=F [] -> ¬ (l.length:Int)<(l.length:Int)->I7 P m h ar c (qX Q) (E l.length) H):I7 P m h ar (.loop c) Q e H:=by
 refine Fm l (λ(_:Unit) l=>F l) (λ_ _=>True) (λk _=>E k) (λ_ _=>H) () hl trivial he rfl (λk _ x xs h1 h2 _ h4 h5 h6 h7=>?_) λ_ _ h1=>fin h1 (Int.lt_irrefl _)
 refine GX c _ _ _ _ (λex e H hq=>?_) (round k x xs h1 h2 h4 h5 h6 h7)
 cases ex with
 | normal=>exact ⟨(),hq.1,trivial,hq.2⟩
 | _=>exact hq
def Wf {c:Code} (s:ByteArray) (F:List UInt8->ρ) (E:Nat->Fs) (hl:s.size<=9223372036854775807) (he:e=E 0)
  (round : ∀ k x xs,s.data.toList.drop k=x::xs->(s.data[k]?).getD 0=x->F s.data.toList=F (x::xs)->0<=(k:Int)->(k:Int)<(s.size:Int)->IntKind.i64.wrap ((k:Int)+1)=((k+1:Nat):Int)->s.size=k+xs.length+1->I7 P m h ar c (ADU F E H k x xs Q) (E k) H)
  (fin:F s.data.toList=F [] -> ¬ (s.size:Int)<(s.size:Int)->I7 P m h ar c (qX Q) (E s.size) H):I7 P m h ar (.loop c) Q e H:=by
 refine Fa s.data.toList F E (by rw [S3];exact hl) he (λk x xs h1 h2 h4 h5 h6 h7=>round k x xs h1 ?_ h4 h5 (by rw [S3] at h6;exact h6) h7 (by have:=Fl h1;rw [S3] at this;exact this)) ?_
 ·rw [Ae] at h2;rw [h2];rfl
 ·rw [S3];exact fin
end
section
variable {P:Program} {n:Nat} {h:Ec} {H:FP} {Q:Exit->Kt} {ops:Array Oper} {ar:Option Nat} {K:Fs->FP->Prop}
end
theorem FN(a b:ByteArray):(a.toList==b.toList)=decide (a=b):=by
 rw [Bool.eq_iff_iff,beq_iff_eq,decide_eq_true_eq,ByteArray.toList_eq,ByteArray.toList_eq]
 exact ⟨λh=>ByteArray.ext (Array.toList_inj.1 h),λh=>by rw [h]⟩
end Go.AI
namespace Go.AI
def az{k:Nat}{v:AV}(h : ∀ c∈v.cells,c.bnd k=true):v.bnd k=true:=by
 cases v<;>first|exact h _ (Ac.2 rfl)|skip
 simp only [AV.bnd]
 exact GP.2 h
def VRel.bnd{G:Gh}{w:World}{a:AV}{v:Value}(h:Ea G w a v):a.bnd G.obs.length=true:=by
 induction h with
 | ptr o off b h hc=>simpa [AV.bnd] using (AC.1 h).1
 | cptr cs off b q u h hu ih =>
  simp only [AV.bnd]
  refine GP.2 λc hc=>?_
  obtain ⟨i,hi⟩:=Af hc
  exact ih i c hi
 | sl own es sz b q cap u hsz hown hl hm h hu ih =>
  simp only [AV.bnd]
  refine GP.2 λe he=>az λc hc=>?_
  obtain ⟨i,hi⟩:=Af (Bh.2 ⟨e,he,hc⟩:c∈HU es)
  exact ih i c hi
 | msl o off len sz b cap h hl hm hc=>simpa [AV.bnd] using (AC.1 h).1
 | mslc o off len sz cap b h hl hm hc=>simpa [AV.bnd] using (AC.1 h).1
 | fn f first captured fi ca h1 h2 h3 h4 ih1 ih2 =>
  simp only [AV.bnd,AQ]
  refine ⟨GP.2 λc hc=>?_,GP.2 λc hc=>?_⟩
  ·obtain ⟨i,hi⟩:=Af hc
   have hl:=(AC.1 hi).1
   exact ih1 i c _ hi (Aj FO)
  ·obtain ⟨i,hi⟩:=Af hc
   have hl:=(AC.1 hi).1
   exact ih2 i c _ hi (Aj FO)
 | mapr o b h hb hk=>simpa [AV.bnd] using (AC.1 h).1
 | it o b h hb hk=>simpa [AV.bnd] using (AC.1 h).1
 | yld o b L h hb hk=>simpa [AV.bnd] using (AC.1 h).1
 | ifc t a v hs h ih=>simpa [AV.bnd] using ih
 | agg cs vs hl hs h ih =>
  simp only [AV.bnd]
  refine GP.2 λc hc=>?_
  obtain ⟨i,hi⟩:=Af hc
  have hlt:=(AC.1 hi).1
  exact ih i c _ hi (Aj FO)
 | tup cs vs hl hs h ih =>
  simp only [AV.bnd]
  refine GP.2 λc hc=>?_
  obtain ⟨i,hi⟩:=Af hc
  have hlt:=(AC.1 hi).1
  exact ih i c _ hi (Aj FO)
 | _=>rfl
section
variable {P:Program} {F:Nat->Prop} {G:Gh} {w:World} {H:FP}
def ORel.bnd{cs:List AV}{b:Nat}(h:ORel F G w cs b):Fo G.obs.length cs=true:=by
 have hi:=h.is
 split at hi
 ·obtain ⟨C,E,g1,g2,g3⟩:=hi
  refine GP.2 λc hc=>?_
  obtain ⟨i,hci⟩:=Af hc
  have hlt:=(AC.1 hci).1
  exact (g3 i c _ hci (Aj FO)).2.1.bnd
 ·obtain ⟨es,ms,cl,g1,g2,g3,g4,g5⟩:=hi
  subst g2
  simp only [J1,Fo,AV.bnd,Bj]
  refine GP.2 λc hc=>?_
  obtain ⟨p,hp,hc⟩:=Bh.1 hc
  obtain ⟨i,hpi⟩:=Af hp
  have hlt:=(AC.1 hpi).1
  obtain ⟨_,_,a3,a4⟩:=g4 i p _ hpi (Aj FO)
  rcases AX.1 hc with rfl|hc
  ·exact a3.bnd
  ·rcases Ac.1 hc with rfl
   exact a4.bnd
 ·rcases hi with ⟨s,pos,h1,rfl⟩|⟨h1,rfl⟩|⟨o,mb,si,se,h1,rfl,h3⟩
  ·simp [V2,Fo,AV.bnd]
  ·simp [Fo,AV.bnd]
  ·have:=h3.bnd
   simp only [Tg,Fo,this,By,Bj]
   simp only [AV.bnd,By]
   exact Ho λ_=>rfl
 ·obtain ⟨s,pe,t,D,st,vals,g1,g2,g3,g4,g5⟩:=hi
  subst g3
  simp only [G8,Fo,AV.bnd,Bj,By]
  refine GP.2 λc hc=>?_
  obtain ⟨i,hci⟩:=Af hc
  have hlt:=(AC.1 hci).1
  exact (g5 i c _ hci (Aj FO)).2.bnd
 ·exact hi.elim
def HRel.closed(h:HRel F G H w):Rp H:=λo cs ho=>by
 have hlt:=(AC.1 ho).1
 have hl:=h.len
 have:=(h.obj o cs _ ho (AL FO)).bnd
 rwa [hl] at this
def FV.drop{f:FuncId}{vs:List AV}{v:AV}(hv:v.bnd H.length=true)(h:FV P f vs H λv' H'=>v'=v /\ ∃ ext,H'=H++ext):FV P f vs H λv' H'=>v'=v/\H'=H :=
 ⟨h.1,λF G w us hc=>Calls.mono (h.2 F G w us hc) λe w' he=>by
  obtain ⟨u,rfl,v',H2,G',⟨rfl,ext,rfl⟩,hcr,hext⟩:=he
  refine ⟨u,rfl,_,H,_,⟨rfl,rfl⟩,hcr.cut hv hc.h.closed,⟨hext.size,⟨λo b ho=>?_,hext.keeps.shape,hext.keeps.sp,hext.keeps.safe⟩,hext.kind,hext.cells,hext.io⟩⟩
  have hlt:=(AC.1 ho).1
  show (G'.obs.take H.length)[o]? =some b
  rw [Bu (by have:=hc.h.len;omega)]
  exact hext.keeps.obs o b ho⟩
end
def nM(H x:FP):(∃ ext,H++x=H++ext)=True:=eq_true ⟨x,rfl⟩
def gt(H:FP):(∃ ext,H=H++ext)=True:=eq_true ⟨[],sm⟩
def ATc(f:Fn)(a b:List AV)(n:Nat):(AV.fn f a b).bnd n=(Fo n a&&Fo n b):=rfl
end Go.AI
namespace Go.AI
section
variable {P:Program} {n:Nat} {h:Ec} {ops:Array Oper} {K:Kt} {p:Tmp×AV} {e:Fs} {H:FP} {d:Tmp} {ty:TypeId} {ps:String} {af:Array Edge} {Q:Exit->Kt}
def Ach(P:Program)(t:TypeId)(x:AV)(d:Tmp)(K:Kt)(e:Fs)(H:FP):Prop:=Qx P t H x λv H'=>K ((d,v)::e) H'
def AV7(str:Bool)(x:AV)(d:Tmp)(K:Kt)(e:Fs)(H:FP):Prop :=
 match x with
 | .it o=>Wi str H o λv H'=>K ((d,v)::e) H'
 | _=>False
def AIO(P:Program)(t:TypeId)(ok:Bool)(m k:AV)(d:Tmp)(K:Kt)(e:Fs)(H:FP):Prop :=
 match P.underlying t with
 | some (.map kt et)=>match Im H m with
  | some es=>MW P kt (k::es.map (·.1))/\Rm es /\ ∃ z,Fi P et=some z/\K ((d,fH ok z (JD k es 0))::e) H
  | none=>False
 | _=>False
def AHq(P:Program)(t:TypeId)(m k v:AV)(K:Kt)(e:Fs)(H:FP):Prop :=
 match m with
 | .mapr o=>match P.underlying t with
  | some (.map kt _)=>match Im H (.mapr o) with
   | some es=>MW P kt (k::es.map (·.1))/\Rm es/\v.isVal=true/\K e (H.set o (some (J1 (MU es k v))))
   | none=>False
  | _=>False
 | _=>False
def jF(t:TypeId):Ic P n h ops ⟨some d,.makeMap t none,ty,ps,af,none⟩ K (p::e) H=(d<n/\K ((d,.mapr H.length)::p::e) (H++[some (J1 [])])):=by
 rw [F6 _ rfl]
 simp only [Fz,HV,Op.operands,GF,Ah,put,Gi]
 rfl
def xy(t:TypeId)(x:Operand):Ic P n h ops ⟨some d,.range t x,ty,ps,af,none⟩ K (p::e) H=(d<n/\Ach P t (G7 P none (p::e) x).borrow d K (p::e) H):=by
 rw [F6 _ rfl]
 simp only [Fz,HV,Op.operands,GF,AS,Ah,put,Gi]
 rfl
def ADO(x:Operand)(b:Bool):Ic P n h ops ⟨some d,.next x b,ty,ps,af,none⟩ K (p::e) H=(d<n/\AV7 b (G7 P none (p::e) x).borrow d K (p::e) H):=by
 rw [F6 _ rfl]
 simp only [Fz,HV,Op.operands,GF,AS,Ah,put,Gi]
 congr 1
 unfold AV7
 generalize (G7 P none (p::e) x).borrow=v
 cases v<;>rfl
def oR(t:TypeId)(x k:Operand)(ok:Bool):Ic P n h ops ⟨some d,.lookup t x k ok,ty,ps,af,none⟩ K (p::e) H =
  (d<n/\AIO P t ok (G7 P none (p::e) x).borrow (G7 P none (p::e) k).borrow d K (p::e) H):=by
 rw [F6 _ rfl]
 simp only [Fz,HV,Op.operands,GF,AS,Ah,put,Gi]
 rfl
def Xs(t:TypeId)(x k v:Operand):Ic P n h ops ⟨none,.mapUpdate t x k v,ty,ps,af,none⟩ K (p::e) H =
  AHq P t (G7 P none (p::e) x).borrow (G7 P none (p::e) k).borrow (G7 P none (p::e) v).borrow K (p::e) H:=by
 rw [F6 _ rfl]
 simp only [Fz,HV,Op.operands,GF,AS,Ah,put,Gi]
 rw [true_and]
 generalize (G7 P none (p::e) x).borrow=xv
 cases xv<;>rfl
end
def fE{H:FP}{o:Nat}{es:List (AV×AV)}(h:H[o]? =some (some (J1 es))):Im H (.mapr o)=some es:=by
 simp only [Im,h,TN]
def Vx{P:Program}{kt:TypeId}{k:IntKind}(h:P.underlying kt=some (.int k)){ks:List AV}(hk : ∀ a∈ks,∃ n,a = .int k n):MW P kt ks :=
 ⟨_,KLaw.plain h,λa ha=>by obtain ⟨n,rfl⟩:=hk a ha;exact ⟨_,rfl,rfl⟩⟩
def LW{α:Type}(f:α->AV)(l:List α):List (AV×AV):=l.map λx=>(f x,.bool true)
def Pm{α:Type}(f:α->AV)(k:AV): ∀ (l:List α) (i:Nat),(JD k (LW f l) i).map (·.2)=if l.any (λx=>Ht (f x) k)=true then some (.bool true) else none
 | [],i=>rfl
 | x::l,i=>by
  unfold LW
  rw [AS,JD,Au]
  by_cases h:Ht (f x) k=true
  ·rw [iP h,h];rfl
  ·rw [iN h]
   have h2:Ht (f x) k=false:=by simpa using h
   rw [h2,BM]
   exact Pm f k l (i+1)
def AIP{α:Type}(f:α->AV)(k:AV)(l:List α):fH false (.bool false) (JD k (LW f l) 0) = .bool (l.any λx=>Ht (f x) k):=by
 have h:=Pm f k l 0
 cases ha:JD k (LW f l) 0 with
 | none =>
  rw [ha] at h
  split at h
  ·cases h
  ·rename_i hn
   have:(l.any λx=>Ht (f x) k)=false:=by simpa using hn
   rw [this];rfl
 | some q =>
  rw [ha] at h
  split at h
  ·rename_i hy
   obtain ⟨j,v⟩:=q
   have hv:v = .bool true:=by simpa using h
   subst hv
   rw [hy];rfl
  ·cases h
def AET{α:Type}(f:α->AV)(x:α)(l:List α)(h:(l.any λy=>Ht (f y) (f x))=false):MU (LW f l) (f x) (.bool true)=LW f (l++[x]):=by
 have h2:=Pm f (f x) l 0
 rw [h] at h2
 have h3:JD (f x) (LW f l) 0=none:=by
  cases ha:JD (f x) (LW f l) 0 with
  | none=>rfl
  | some q=>rw [ha] at h2;cases h2
 unfold MU
 rw [h3]
 simp [LW]
def dI{α:Type}(f:α->AV)(l:List α):(LW f l).map (·.1)=l.map f:=by simp [LW,List.map_map]
def Rl{α:Type}(f:α->AV):List α->Prop
 | []=>True
 | x::l=>(∀ y∈l,Ht (f x) (f y)=false)/\Rl f l
def WL{α:Type}(f:α->AV): ∀ {l:List α},Rl f l->Rm (LW f l)
 | [],_=>List.Pairwise.nil
 | x::l,h=>List.Pairwise.cons (λq hq=>by obtain ⟨y,hy,rfl⟩:=AP.1 hq;exact h.1 y hy) (WL f h.2)
def WM{α:Type}(f:α->AV)(x:α): ∀ {l:List α},Rl f l->(l.any λy=>Ht (f y) (f x))=false->Rl f (l++[x])
 | [],_,_=>⟨λy hy=>by simp at hy,trivial⟩
 | y::l,h,ha=>by
  rw [Au,Bool.or_eq_false_iff] at ha
  refine ⟨λz hz=>?_,WM f x h.2 ha.2⟩
  rcases As.1 hz with hz|hz
  ·exact h.1 z hz
  ·rcases Ac.1 hz with rfl
   exact ha.1
attribute [go_sem] sa AAw xB nY zy nP AFa AFc ACG AFb ACD ACE ACC ACF fA e8 sK lq sF lj sI lp sH sG sJ ll AAb lk sL sE lr lu eM ls oC ik n9 oA ij xa oB ig xb oD n8 oE il xL xJ nh xG nb xH ACT xI tO tN me tK tL ABP tM lm sD sO eJ ii nz ng nc ACU nf xF md ABQ tJ AVa AHt AHs lC rS ACs xe m6 AFN AFQ AFO AFP ABu zY AFi AFj ADH xm ADE AGF ADF AGE xl ADG oI Xp AFe ABz ABy ABx dL za rc ir ACt ACu xf ADd jd AEW AEV dR zt zm zn zj lM rR lB yA ADP oS ADN AGR ADQ xw bK ADL Xv yB jG AGP yE ATg ATf eu e7 ey ez Z6 XY ADB AC1 AC5 AC3 AC2 ADA AC4 AC6 AC7 AC8 AC9 xi xh xk xj Xu xz oT xn AGG AGM ri ADK xr ADJ ADS bL yD Wh xx AGN AGO AE4 AE5 jH Xt ATm ATl yF yC AGQ ADR jI AA3 AE8 AA2 rO gZ y6 gY zB rL rP rI yy nJ gk dB dA rN ky kw gd wu kv AES yw Zl re lI nN iq ip ay oF Zj dE rh xA iO al xd oG AF6 AF7 ATb ARi wr ACW AGj jJ ADT yI nM gt ATc jF xy ADO oR Xs
end Go.AI
