/- A part. -/
import Derived.Test.YtmejnbhofjcibaaGreatDoorLg
import Derived.ProofKit
import Derived.SizedLaws
set_option linter.unusedSimpArgs false
set_option linter.unusedVariables false
set_option linter.defProp false
open Go.AI renaming VRel->Eb,CRel->Ec,Hint->Ed,LoopRec->Ee
open Array renaming getElem?_eq_getElem->Ai,getElem?_toList->Ac,toList_append->DA
open Bool renaming and_eq_true->AM,and_true->Bp,false_eq_true->Bx,false_or->Bn,not_false->Aw,not_true->As,true_and->Be
open Eq renaming trans->AG
open List renaming all_eq_true->Am,any_cons->Au,append_nil->Af,contains_iff_mem->Dh,drop_drop->A9,drop_eq_getElem_cons->BG,drop_left'->Cr,drop_length->DD,drop_succ_cons->Cq,drop_zero->BC,flatMap_cons->A5,getElem?_append_left->AX,getElem?_append_right->AN,getElem?_cons_zero->A7,getElem?_eq_getElem->AH,getElem?_eq_some_iff->AC,getElem?_map->Aa,getElem?_of_mem->Ae,getElem?_take_of_lt->Bv,getElem?_toArray->Bb,getElem_mem->CV,length_cons->AD,length_nil->AJ,length_range->Di,mapM_cons->C6,map_cons->AS,map_nil->Ah,mem_append->Ar,mem_cons->AY,mem_flatMap->Bo,mem_map->AO,mem_of_getElem?->AB,mem_singleton->Ab,range->Ak,range_zero->EF,replicate->A0,replicate_succ->Cj,sum_cons->B2,take_add->DW,take_append_drop->A_,take_left'->Dj,take_succ_cons->B8
open Nat renaming add_assoc->Ay,add_comm->Bk,add_mul->Az,add_zero->BA,le_of_ble_eq_true->CM,le_of_eq->Df,le_trans->AL,one_mul->Cd,zero_add->AU,zero_le->BU,zero_mul->CJ
open Option renaming any_some->DC,bind_some->BY,map_some->BQ
open Or renaming inl->CE
open Go.Result renaming andThen_ok->AZ
open Go.Sem renaming run_bind->AK,run_pure->Ad
namespace Go.AI
mutual
def AV.pure:AV->Bool
 |.ptr _ _=>false
 |.msl _ _ _ _=>false
 |.mslc _ _ _ _ _=>false
 |.mapr _=>false
 |.it _=>false
 |.yld _ _=>false
 |.ifc _ a=>a.pure
 |.cptr cs _=>FW cs
 |.sl _ es=>FW es
 |.fn _ a b=>FW a&&FW b
 |.agg cs=>FW cs
 |.tup vs=>FW vs
 |_=>true
def FW:List AV->Bool
 |[]=>true
 |v::vs=>v.pure&&FW vs
end
def IG{vs:List AV}(h:FW vs=true): ∀v∈vs,v.pure=true:=by
 induction vs with
 |nil=>intro v hv;cases hv
 |cons x xs ih =>
  simp only[FW,AM]at h
  intro v hv
  rcases AY.1 hv with rfl|hv
  ·exact h.1
  ·exact ih h.2 v hv
def lu{v:AV}(h:v.pure=true): ∀c∈v.cells,c.pure=true:=by
 cases v<;>first|(intro c hc;simp only[AV.cells,Ab]at hc;subst hc;exact h)|skip
 simp only[AV.pure]at h
 exact IG h
def AAH{es:List AV}(h:FW es=true): ∀c∈HP es,c.pure=true:=by
 intro c hc
 obtain⟨e,he,hc⟩:=Bo.1 hc
 exact lu (IG h e he) c hc
def VRel.pure{G G':Gh}{w:World}(hk:G'.kind=G.kind){a:AV}{v:Value}(h:Eb G w a v)(hp:a.pure=true):Eb G' w a v:=by
 have hsafe:∀b o,G.safe b o->G'.safe b o:=λb o hs=>by unfold Gh.safe at *;rw[hk];exact hs
 induction h with
 |undef v=>exact .undef v
 |int k n=>exact .int k n
 |bool b=>exact .bool b
 |str s=>exact .str s
 |nilp=>exact .nilp
 |ptr o off b h hc=>cases hp
 |mapr o b h hb hk=>cases hp
 |it o b h hb hk=>cases hp
 |nilm=>exact .nilm
 |yld o b L h hb hk=>cases hp
 |ifc t a v hs h ih=>exact .ifc t a v hs (ih (by simpa [AV.pure]using hp))
 |nili=>exact .nili
 |cptr cs off b q u h hu ih =>
  simp only[AV.pure]at hp
  exact .cptr cs off b q u (λi c hi=>⟨(h i c hi).1,hsafe _ _ (h i c hi).2.1,(h i c hi).2.2⟩) λi c hi=>ih i c hi (IG hp c (AB hi))
 |slnil own=>exact .slnil own
 |slany own a=>exact .slany own a
 |sl own es sz b q cap u hsz hown hl hm h hu ih =>
  simp only[AV.pure]at hp
  exact .sl own es sz b q cap u hsz hown hl hm (λi c hi=>⟨(h i c hi).1,hsafe _ _ (h i c hi).2.1,(h i c hi).2.2⟩) λi c hi=>ih i c hi (AAH hp c (AB hi))
 |msl=>cases hp
 |mslc=>cases hp
 |fn f first captured fi ca h1 h2 h3 h4 ih1 ih2 =>
  simp only[AV.pure,AM]at hp
  exact .fn f first captured fi ca h1 h2 (λi c v hc hv=>ih1 i c v hc hv (IG hp.1 c (AB hc))) (λi c v hc hv=>ih2 i c v hc hv (IG hp.2 c (AB hc)))
 |nilf=>exact .nilf
 |agg cs vs hl hs h ih =>
  simp only[AV.pure]at hp
  exact .agg cs vs hl hs λi c v hc hv=>ih i c v hc hv (IG hp c (AB hc))
 |tup cs vs hl hs h ih =>
  simp only[AV.pure]at hp
  exact .tup cs vs hl hs λi c v hc hv=>ih i c v hc hv (IG hp c (AB hc))
def dw(P:Program)(n:Nat):List ResultVar->Fs->cj->(List AV->Fs->cj->Prop)->Prop
 |[],e,H,K=>K [] e H
 |.tmp t::rs,e,H,K=>t<n/\dw P n rs (NO P none true (.tmp t) e).2 H λvs=>K ((NO P none true (.tmp t) e).1::vs)
 | .cell t ty::rs,e,H,K=>t<n/\match Fr e t with
  | .ptr ob off=>match H[ob]? with
   |some (some cs)=>match Ll P ty cs off with
    |some v=>if v.owned=true then dw P n rs e (H.set ob (some (splice cs off (v.cells.map borrow1)))) λvs=>K (v::vs)else dw P n rs e H λvs=>K (v.borrow::vs)
    |none=>False
   |_=>False
  |_=>False
def Of(K:AV->cj->Prop)(vs:List AV)(H:cj):Prop :=
 match vs with
 |[v]=>K v H
 |vs=>(∀v∈vs,v.isVal=true)/\K (.tup vs) H
def TE(P:Program)(n:Nat)(rs:Array ResultVar)(K:AV->cj->Prop)(ex:Exit)(e:Fs)(H:cj):Prop :=
 match ex with
 |.normal | .ret=>dw P n rs.toList e H λvs _ H'=>Of K vs H'
 |_=>False
section
variable{P:Program}{F:Nat->Prop}{G:Gh}{w:World}{H:cj}{n:Nat}
def kZ(k:Nat):LRel F G (A0 k .undef) (A0 k Go.undef) w:=by
 refine⟨sm,λi a u h1 _=>?_,λi a u h1 _=>?_⟩<;>rw[List.getElem?_replicate]at h1<;>split at h1<;>cases h1
 ·exact .undef u
 ·exact Fj (Ha u) F G w
def dL(b k:Nat):HA b (A0 k .undef) (A0 k Go.undef)=0:=by
 induction k with
 |zero=>rfl
 |succ k ih=>rw[Cj,Cj,Fc,ih,Ha];rfl
def CRel.args{vs:List AV}{us:List Value}(h:Ec F G vs H us w)(k:Nat):Ec F G (vs++A0 k .undef) H (us++A0 k Go.undef) w:=by
 refine⟨h.l.append (kZ k),h.h,λb=>?_⟩
 rw[GV _ _ _ _ _ h.l.len,dL]
 exact h.cnt b
def Zw{v:AV}{u:Value}{vs:List AV}{us:List Value}(hv:v.isVal=true)(h:Eb G w v u):LG (.tup (v::vs)) (.tuple (u::us).toArray)=LG v u++LG (.tup vs) (.tuple us.toArray):=by
 rw[Pa hv h]
 simp only[LG,AV.flat,ID,A5]
 rw[List.zip_append]
 have:=(Jm hv h).2.2
 simpa using this
def dJ : ∀ (vs:List AV) (us:List Value),LRel F G vs us w->(∀ v∈vs,v.isVal=true) ->
  Eb G w (.tup vs) (.tuple us.toArray)/\(∀p∈LG (.tup vs) (.tuple us.toArray),GD F G w p) /\ ∀b,(Gs (.tup vs) (.tuple us.toArray)).count b=HA b vs us:=by
 intro vs us hl hv
 refine⟨.tup vs _ (by simpa using hl.len) hv (λi c u h1 h2=>hl.rel i c u h1 (by simpa using h2)), ?_⟩
 induction vs generalizing us with
 |nil =>
  match us,hl.len with
  |[],_=>exact⟨λp hp=>by simp[LG,AV.flat]at hp,λb=>by simp[Gs,LG,AV.flat,HA]⟩
 | cons v vs ih =>
  match us,hl.len with
  | u::us,_ =>
   obtain⟨h1,h2,h3⟩:=hl.uncons
   obtain⟨g1,g2⟩:=ih us h3 λx hx=>hv x (by simp[hx])
   have e:=Zw (vs:=vs) (us:=us) (hv v sm) h1
   refine⟨λp hp=>?_,λb=>?_⟩
   ·rw[e]at hp
    rcases Ar.1 hp with h|h
    ·exact h2 p h
    ·exact g1 p h
   ·have:=g2 b
    unfold Gs at this ⊢
    rw[e,List.filterMap_append,List.count_append,this,Fc]
    rfl
def CRel.comm{A B:List AV}{ua ub:List Value}(h:Ec F G (A++B) H (ua++ub) w)(hl:A.length=ua.length):Ec F G (B++A) H (ub++ua) w:=by
 obtain⟨h1,h2⟩:=h.l.split hl
 refine⟨h2.append h1,h.h,λb=>?_⟩
 have:=h.cnt b
 rw[GV b A ua B ub hl]at this
 rw[GV b B ub A ua h2.len]
 omega
def CRel.turn{A B:List AV}{v:AV}{ua ub:List Value}{u:Value}{R:AV->cj->Prop}{u':Value}{w':World}(h:Ec F G (A++v::B) H (ua++u::ub) w)(hl:A.length=ua.length)
  (hk:∀F',(∀b,F b->F' b)->Ec F' G [v] H [u] w->Fi F' G w R u' w'):∃v' H' G',R v' H'/\Ec F G' (A++v'::B) H' (ua++u'::ub) w'/\Ext F G w G' w':=by
 have h1:Ec F G ((v::B)++A) H ((u::ub)++ua) w:=h.comm hl
 have h2:Ec F G ([v]++(B++A)) H ([u]++(ub++ua)) w:=by simpa using h1
 have hB:=(h2.l.split (A:=[v]) rfl).2
 have hc:=h2.split (A:=[v]) rfl
 obtain⟨v',H',G',hr,hc',he⟩:=hk _ (λb hb=>CE hb) hc
 have hcb:∀b,HA b (B++A) (ub++ua)<=1:=λb=>by
  have:=h2.cnt b
  rw[GV b [v] [u] _ _ rfl]at this
  omega
 have hj:=TL (F:=F) hB hcb (λb hb=>CE hb) (λb hb=>Or.inr hb) he hc'
 refine⟨v',H',G',hr, ?_,he.mono λb hb=>CE hb⟩
 have hlB:B.length=ub.length:=by
  have:=hB.len
  simp at this
  omega
 have h3:Ec F G' ((v'::B)++A) H' ((u'::ub)++ua) w':=by simpa using hj
 exact h3.comm (by simp[hlB])
def IR(tm:Array Value):ResultVar->Sem Value
 |.tmp t=>pure (tm.getD t Go.undef)
 |.cell a t=>do loadVar t (<- asAddr (tm.getD a Go.undef))
def AA_{t:TypeId}{u:Value}{R:AV->cj->Prop}{w:World}(hu:∃a,u = .pointer (some a))(h:Fy P ((do let r<-Instr.loadAt t u;pure (Next.value r):Sem Next).run P w) (Fi F G w R)):
  ∃u' w',(do loadVar t (<- asAddr u):Sem Value).run P w = .ok u' w'/\Fi F G w R u' w':=by
 obtain⟨a,rfl⟩:=hu
 have e1:(Instr.loadAt t (.pointer (some a)):Sem Value).run P w=(loadVar t a).run P w:=by
  simp[Instr.loadAt,Instr.sureAddr]
 have e2:(do loadVar t (<- asAddr (.pointer (some a))):Sem Value).run P w=(loadVar t a).run P w:=by
  simp[asAddr]
 rw[e2]
 rw[AK,e1]at h
 cases hr:(loadVar t a).run P w with
 |ok u' w' =>
  rw[hr]at h
  simp only[AZ,Ad]at h
  exact⟨u',w',rfl,h⟩
 |_=>rw[hr]at h;exact h.elim
def Sa{a:Act}(hn:a.tmps.size=n): ∀ (rs:List ResultVar) (env:Fs) (H:cj) (G:Gh) (w:World) (pre:List AV) (upre:List Value) (K:List AV->Fs->cj->Prop),
  Ec F G (pre++Gn n env) H (upre++a.tmps.toList) w->pre.length=upre.length->(∀t,n<=t->Fr env t = .undef)->dw P n rs env H K ->
  ∃us,(rs.mapM (IR a.tmps)).run P w = .ok us w /\ ∃vs env' H' G',K vs env' H'/\vs.length=us.length/\Ec F G' (pre++vs++Gn n env') H' (upre++us++a.tmps.toList) w/\Ext F G w G' w
 |[],env,H,G,w,pre,upre,K,h,hp,ho,hr=>⟨[],sm,[],env,H,G,hr,rfl,by simpa using h,.refl F G w⟩
 |.tmp t::rs,env,H,G,w,pre,upre,K,h,hp,ho,hr=>by
  obtain⟨htn,hr⟩:=hr
  obtain⟨h1,ho1⟩:=WC (P:=P) none true (.tmp t) h hp hn ho
  obtain⟨us,hrun,vs,env',H',G',hK,hlen,hc,he⟩:=Sa hn rs (NO P none true (.tmp t) env).2 H G w (pre++[(NO P none true (.tmp t) env).1]) (upre++[a.eval (.tmp t)]) _ (by simpa using h1) (by simp[hp]) ho1 hr
  refine⟨a.eval (.tmp t)::us, ?_,_,env',H',G',hK,by simp[hlen],by simpa using hc,he⟩
  have e0:IR a.tmps (.tmp t)=pure (a.eval (.tmp t)):=rfl
  simp only[C6,AK,e0,Ad,AZ,hrun]
 | .cell t ty::rs,env,H,G,w,pre,upre,K,h,hp,ho,hr=>by
  obtain⟨htn,hr⟩:=hr
  split at hr
  ·rename_i ob off hlk
   split at hr
   ·rename_i cs hob
    split at hr
    ·rename_i v hv
     obtain⟨h1,ho1⟩:=WC (P:=P) none false (.tmp t) h hp hn ho
     have e1:NO P none false (.tmp t) env=(.ptr ob off,env):=by simp[NO,G6,hlk,AV.borrow,borrow0]
     rw[e1]at h1
     have key:∀R:AV->cj->Prop,(R v.borrow H\/R v (H.set ob (some (splice cs off (v.cells.map borrow1))))) -> ∃u',(IR a.tmps (.cell t ty)).run P w = .ok u' w /\
       ∃v' H' G',R v' H'/\Ec F G' (pre++v'::Gn n env) H' (upre++u'::a.tmps.toList) w/\Ext F G w G' w:=by
      intro R hR
      have hx:Eb G w (.ptr ob off) (a.eval (.tmp t)):=(((h1.l.split hp).2).uncons).1
      have hu:∃ad,a.eval (.tmp t) = .pointer (some ad):=by
       generalize a.eval (.tmp t)=u at hx
       cases hx;exact⟨_,rfl⟩
      have hone:Ec (λ_=>False) G [AV.ptr ob off] H [a.eval (.tmp t)] w:=by
       have h2:Ec F G ((AV.ptr ob off::Gn n env)++pre) H ((a.eval (.tmp t)::a.tmps.toList)++upre) w:=h1.comm hp
       have h3:Ec F G ([AV.ptr ob off]++(Gn n env++pre)) H ([a.eval (.tmp t)]++(a.tmps.toList++upre)) w:=by simpa using h2
       have h4:=h3.split (A:=[AV.ptr ob off]) rfl
       exact⟨h4.l.weaken λ_ h=>h.elim,h4.h.weaken λ_ h=>h.elim,h4.cnt⟩
      have hrun:∃u',(IR a.tmps (.cell t ty)).run P w = .ok u' w:=by
       have e0:IR a.tmps (.cell t ty)=(do loadVar ty (<- asAddr (a.eval (.tmp t)))):=rfl
       rw[e0]
       clear hone h1
       generalize a.eval (.tmp t)=u at hx
       cases hx with
       |ptr _ _ b hb hbc =>
        obtain⟨u',h1,_⟩:=aK (P:=P) hv (PD hbc.choose_spec.choose_spec (h.h.obj ob cs b hob hb))
        rw[AU]at h1
        exact⟨u',by simpa [asAddr]using h1⟩
      obtain⟨u',hrun⟩:=hrun
      refine⟨u',hrun, ?_⟩
      refine h1.turn hp λF' hF hc1=>?_
      obtain⟨u2,w2,hrun2,hk⟩:=AA_ (P:=P) hu (Ok (P:=P) hc1 hob hv hR)
      have e5:IR a.tmps (.cell t ty)=(do loadVar ty (<- asAddr (a.eval (.tmp t)))):=rfl
      rw[<- e5,hrun]at hrun2
      cases hrun2
      exact hk
     have fin:∀(v':AV) (H1:cj),(dw P n rs env H1 λvs=>K (v'::vs))->(∀R:AV->cj->Prop,R v' H1->R v.borrow H\/R v (H.set ob (some (splice cs off (v.cells.map borrow1))))) ->
       ∃us,((ResultVar.cell t ty::rs).mapM (IR a.tmps)).run P w = .ok us w /\ ∃vs env' H' G',K vs env' H'/\vs.length=us.length/\Ec F G' (pre++vs++Gn n env') H' (upre++us++a.tmps.toList) w/\Ext F G w G' w:=by
      intro v' H1 hrev hR
      obtain⟨u',hrun,v2,H2,G2,⟨rfl,rfl⟩,hc2,he2⟩:=key (λa b=>a=v'/\b=H1) (hR (λa b=>a=v'/\b=H1) ⟨rfl,rfl⟩)
      obtain⟨us,hrun',vs,env',H',G',hK,hlen,hc,he⟩:=Sa hn rs env H2 G2 w (pre++[v2]) (upre++[u']) _ (by simpa using hc2) (by simp[hp]) ho hrev
      refine⟨u'::us, ?_,_,env',H',G',hK,by simp[hlen],by simpa using hc,he2.trans he⟩
      simp only[C6,AK,hrun,Ad,AZ,hrun']
     by_cases hw:v.owned=true
     ·rw[iP hw]at hr
      exact fin _ _ hr λR h => .inr h
     ·rw[iN hw]at hr
      exact fin _ _ hr λR h => .inl h
    ·exact hr.elim
   ·exact hr.elim
  ·exact hr.elim
def dj{fn:Func}{tm:Array Value}{w w':World}{us:List Value}(h:(fn.results.toList.mapM (IR tm)).run P w = .ok us w'):
  (results fn tm).run P w = .ok (match (generalizing:=false) us with
   |[u]=>u
   |us => .tuple us.toArray) w':=by
 unfold results
 rw[Array.mapM_eq_mapM_toList]
 rw[AK,Sem.run_map]
 have e:∀(g g':ResultVar->Sem Value) (l:List ResultVar),(∀r,g r=g' r)->l.mapM g=l.mapM g':=λg g' l hg=>by rw[show g=g' from funext hg]
 rw[e _ (IR tm) fn.results.toList (λr=>by cases r<;>rfl),h]
 simp only[AZ,Ad]
 match us with
 |[]=>simp
 |[t]=>simp
 |t::t'::ts=>simp
def qN{env:Fs}{a:Act}{fn:Func}{K:AV->cj->Prop}{ex:Exit}(hs:SRel F G n env H a w)(hq:TE P n fn.results K ex env H):
  (ex = .normal\/ex = .ret) /\ ∃v u H' G',K v H'/\Ec F G' [v] H' [u] w/\Ext F G w G' w/\(results fn a.tmps).run P w = .ok u w:=by
 have main:(dw P n fn.results.toList env H λvs _ H'=>Of K vs H') -> ∃v u H' G',K v H'/\Ec F G' [v] H' [u] w/\Ext F G w G' w/\(results fn a.tmps).run P w = .ok u w:=by
  intro hq
  obtain⟨us,hrun,vs,env',H',G',hK,hlen,hc,he⟩:=Sa (pre:=[]) (upre:=[]) hs.size fn.results.toList env H G w _ hs.c rfl hs.out hq
  have hres:=dj hrun
  have hc1:Ec F G' vs H' us w:=by
   have h1:=hc.split (A:=[]++vs) (B:=Gn n env') (by simpa using hlen)
   have h2:Ec (λb=>F b\/0<HA b (Gn n env') a.tmps.toList) G' vs H' us w:=by simpa using h1
   exact⟨h2.l.weaken λ_ h => .inl h,h2.h.weaken λ_ h => .inl h,h2.cnt⟩
  match vs,us,hlen with
  |[v],[u],_=>exact⟨v,u,H',G',hK,hc1,he,hres⟩
  |[],[],_ =>
   obtain⟨h1,h2,h3⟩:=dJ _ _ hc1.l hK.1
   exact⟨_,_,H',G',hK.2,hc1.one h1 h2 λb=>Df (h3 b),he,hres⟩
  |v::v2::vs,u::u2::us,_ =>
   obtain⟨h1,h2,h3⟩:=dJ _ _ hc1.l hK.1
   exact⟨_,_,H',G',hK.2,hc1.one h1 h2 λb=>Df (h3 b),he,hres⟩
 cases ex with
 |normal=>exact⟨.inl rfl,main hq⟩
 |ret=>exact⟨.inr rfl,main hq⟩
 |_=>exact hq.elim
def CRel.shut{vs:List AV}{us:List Value}(h:Ec F G vs H us w){b:Nat}(hd:aZ w b)(hF:¬F b):Ec F G vs H us (w.putObj b (.deferred none))/\Ext F G w G (w.putObj b (.deferred none)):=by
 have he:Ext F G w G (w.putObj b (.deferred none)):=Ki hF hd (λ_ _ _ e=>by cases e)
 have hne:∀b',b'≠b->(w.putObj b (.deferred none)).heap[b']? =w.heap[b']?:=λb' hn=>World.putObj_heap_other hn
 have hcells:∀{b':Nat} {C:Array Value} {E:TypeId},w.heap[b']? =some (.cells C E (0,0))->b'≠b:=λh3 e=>by
  subst e;unfold aZ at hd;rw[hd]at h3;cases h3
 refine⟨⟨⟨h.l.len,λi a u h1 h2=>(h.l.rel i a u h1 h2).keep he.keeps,λi a u h1 h2 p hp=>(h.l.tok i a u h1 h2 p hp).keep λb' hb'=>?_⟩,h.h.ext he rfl λb' hb'=>⟨rfl, ?_⟩,λb'=>?_⟩,he⟩
 ·obtain⟨t1,_,C,E,t3⟩:=(h.l.tok i a u h1 h2 p hp).of_tok hb'
  exact⟨t1,rfl,hne b' (hcells t3)⟩
 ·refine hne b' ?_
  rcases hb' with⟨o,cs,h1,h2⟩|hb'
  ·intro e;subst e;exact(h.h.obj o cs _ h1 h2).not_isD hd
  ·obtain⟨_,_,C,E,t3⟩:=h.h.tok_of_pos hb'
   exact hcells t3
 ·rw[NG (G:=G) (w:=w) (G':=G) rfl λo cs b2 h1 h2=>hne b2 λe=>by subst e;exact(h.h.obj o cs _ h1 h2).not_isD hd]
  exact h.cnt b'
def Rh{fn:Func}{tm:Array Value}{R:Ending->World->Prop}{vs:List AV}{us:List Value}{G0:Gh}{w0:World}: ∀(bs:List Nat) {w:World},Ec F G vs H us w->bs.Nodup->(∀b∈bs,¬F b/\aZ w b)->Ext F G0 w0 G w ->
  (∀w',Ec F G vs H us w'->Ext F G0 w0 G w' -> ∃v,(results fn tm).run P w' = .ok v w'/\R (.returned v) w') ->
  LeavesInM Fence.wide 0 P fn tm R (bs.map λb=>{ target:=.collected b,args:=#[] }) .returning w
 |[],w,hc,_,_,he,hk=>hk w hc he
 |b::bs,w,hc,hn,hb,he,hk=>by
  obtain⟨h1,h2⟩:=List.nodup_cons.1 hn
  obtain⟨hF,hd⟩:=hb b sm
  obtain⟨hc',he'⟩:=hc.shut hd hF
  refine⟨sm,.inl ⟨b,_,rfl,run_takeDeferred (P:=P) hd,Rh bs hc' h2 (λb' hb'=>⟨(hb b' (by simp[hb'])).1, ?_⟩) (he.trans he') hk⟩⟩
  have h3:=(hb b' (by simp[hb'])).2
  unfold aZ at h3 ⊢
  rw[World.putObj_heap_other (λ(e:b'=b)=>h1 (by rw[<- e];exact hb'))];exact h3
def KD{f:FuncId}{fn:Func}{c:Code}{h:Ed}{vs:List AV}{us:List Value}{K:AV->cj->Prop}(hg:h.gc=[]\/G.obs=[])(hm:P.follows .mixedOrders=true)(hd:fn.body.any (Ga h)=true)(hf:P.funcs[f]? =some fn)(hb:fn.body=some c)
  (hn:vs.length<=fn.ntmps)(ha:JF P fn.ntmps h none c (TE P fn.ntmps fn.results K) (GR 0 vs) H)(hc:Ec F G vs H us w):
  Calls P f us.toArray w λe w' => ∃u,e = .returned u /\ ∃v H' G',K v H'/\Ec F G' [v] H' [u] w'/\Ext F G w G' w':=by
 have hlen:=hc.l.len
 have hs:SRel F G fn.ntmps (GR 0 vs) H { tmps:=us.toArray++Array.replicate (fn.ntmps - us.toArray.size) Go.undef,defers:=[] } w:=by
  refine⟨Hy,.nil F w,λt ht=>?_, ?_⟩
  ·rw[Kx,iP (BU _),List.getElem?_eq_none (by simp;exact AL hn ht)];rfl
  ·rw[WF vs hn]
   have:=hc.args (fn.ntmps - vs.length)
   simp only[DA,Array.toList_replicate,List.size_toArray]
   rw[<- hlen]
   exact this
 refine callsIn_wide.1 (callsIn_of_wp_marks (F:=Fence.wide) (n:=0) hf hb trivial (show c.wpIn (dA none) 0 P _ _ w from I' hm c none none F G w hg trivial (by rw[hb]at hd;exact hd) _ _ G _ H _ w hs (.refl F G w) ha λex a' w' hl=>?_))
 obtain⟨env',H',G',hq,hs',he⟩:=hl
 have hex:ex = .normal\/ex = .ret:=(qN hs' hq).1
 obtain⟨bs,hb1,hb2,hb3⟩:=hs'.defers
 have hfin:LeavesInM Fence.wide 0 P fn a'.tmps (λe w' => ∃u,e = .returned u /\ ∃v H' G',K v H'/\Ec F G' [v] H' [u] w'/\Ext F G w G' w') a'.defers .returning w':=by
  rw[hb1]
  refine Rh bs hs'.c hb2 hb3 he λw2 hc2 he2=>?_
  obtain⟨_,v,u,H2,G2,hK,hcr,he3,hrun⟩:=qN (a:={ tmps:=a'.tmps,defers:=[] }) ⟨hs'.size,.nil F w2,hs'.out,hc2⟩ hq
  exact⟨u,hrun,u,rfl,v,H2,G2,hK,hcr,he2.trans he3⟩
 rcases hex with rfl|rfl
 ·exact hfin
 ·exact hfin
def kz{f:FuncId}{fn:Func}{c:Code}{vs:List AV}{R:AV->cj->Prop}(h:Ed)(hg:h.gc=[])(hm:P.follows .mixedOrders=true)(hd:fn.body.any (Ga h)=true)(hf:P.funcs[f]? =some fn)(hb:fn.body=some c)(hcal:HS P f=true)
  (hn:vs.length<=fn.ntmps)(ha:JF P fn.ntmps h none c (TE P fn.ntmps fn.results R) (GR 0 vs) H):Fa P f vs H R :=
 ⟨hcal,λF G w us hc=>KD (.inl hg) hm hd hf hb hn ha hc⟩
def aa(F:Nat->Prop)(G:Gh)(H:cj)(w:World)(b:Nat):Prop :=
 F b\/(∃(o:Nat) (cs:List AV),H[o]? =some (some cs)/\G.obs[o]? =some b)\/0<IM G H w b
def CRel.hide{vs:List AV}{us:List Value}(hc:Ec F G vs H us w)(hp : ∀ v∈vs,v.pure=true):Ec (aa F G H w) ⟨[],G.kind⟩ vs [] us w:=by
 refine⟨⟨hc.l.len,λi a u h1 h2=>VRel.pure (G:=G) (G':=⟨[],G.kind⟩) rfl (hc.l.rel i a u h1 h2) (hp a (AB h1)),λi a u h1 h2 p hm=>?_⟩,
  ⟨rfl,λo cs b h1 _=>by simp at h1,λo o' cs cs' b h1 _ _ _=>by simp at h1,λb hb=>?_,hc.h.glob.same rfl⟩,λb=>?_⟩
 ·have ht:=hc.l.tok i a u h1 h2 p hm
  refine(Option.eq_none_or_eq_some (tok p)).elim GA λ⟨b,hb⟩=>?_
  have hx:=ht.of_tok hb
  have key:GD (aa F G H w) G w p:=ht.keep λb' hb'=>by
   rw[hb]at hb';cases hb'
   refine⟨?_,rfl,rfl⟩
   rintro (h|⟨o,cs,h3,h4⟩|h)
   ·exact hx.1 h
   ·obtain⟨_,⟨q,hq⟩,_⟩:=hx
    exact(hc.h.obj o cs b h3 h4).no_buf hq
   ·have h5:=MY h1 h2 hm hb
    have:=hc.cnt b
    omega
  exact key
 ·rcases hb with h|⟨o,cs,h3,h4⟩|h
  ·exact hc.h.fore b h
  ·exact hc.h.block_lt h3 h4
  ·obtain⟨_,_,C,E,hh⟩:=hc.h.tok_of_pos h
   exact(Array.getElem?_eq_some_iff.1 hh).1
 ·have:=hc.cnt b
  show HA b vs us+IM _ [] w b<=1
  simp only[IM,AJ,EF,Ah,List.sum_nil]
  omega
def CRel.unhide{vs:List AV}{us:List Value}(hc:Ec F G vs H us w){G':Gh}{H2:cj}{v:AV}{u:Value}{w':World}(hv:v.pure=true)
  (hr:Ec (aa F G H w) G' [v] H2 [u] w')(he:Ext (aa F G H w) ⟨[],G.kind⟩ w G' w'):
  Ec F ⟨G.obs,G'.kind⟩ [v] H [u] w'/\Ext F G w ⟨G.obs,G'.kind⟩ w':=by
 have hk:Keeps G w ⟨G.obs,G'.kind⟩ w':=⟨λ_ _ h=>h,he.keeps.shape,λb hb hs=>he.keeps.sp b hb hs,λb o x hs hcell=>he.keeps.safe b o x hs hcell⟩
 have hext:Ext F G w ⟨G.obs,G'.kind⟩ w':=⟨he.size,hk,λb hb=>he.kind b (.inl hb),λb hb=>he.cells b (.inl hb),he.io⟩
 obtain⟨h1,h2,_⟩:=hr.l.uncons
 refine⟨⟨.cons (VRel.pure (G:=G') (G':=⟨G.obs,G'.kind⟩) rfl h1 hv) (λp hp=>?_) (.nil F _ _), ?_,λb=>?_⟩,hext⟩
 ·have:=(h2 p hp).weaken (F:=F) λb hb => .inl hb
  exact this
 ·exact hc.h.ext hext rfl λb hb=>⟨he.kind b (.inr hb),he.cells b (.inr hb)⟩
 ·have e:IM ⟨G.obs,G'.kind⟩ H w' b=IM G H w b:=NG rfl (λo cs b' g1 g2=>he.cells b' (.inr (.inl ⟨o,cs,g1,g2⟩))) b
  rw[e,Fc,GS]
  by_cases h0:0<IM G H w b
  ·have h3:¬0<HA b [v] [u]:=λhp=>(hr.l.tok_of_pos hp).1 (.inr (.inr h0))
   rw[Fc,GS]at h3
   have:=hc.cnt b
   omega
  ·have:=hr.cnt b
   rw[Fc,GS]at this
   omega
def ADg{f:FuncId}{fn:Func}{c:Code}{vs:List AV}{Q:AV->Prop}(h:Ed)(hm:P.follows .mixedOrders=true)(hd:fn.body.any (Ga h)=true)(hf:P.funcs[f]? =some fn)(hb:fn.body=some c)(hcal:HS P f=true)
  (hn:vs.length<=fn.ntmps)(hp:FW vs=true)(ha:JF P fn.ntmps h none c (TE P fn.ntmps fn.results λv' _=>v'.pure=true/\Q v') (GR 0 vs) []):KL P f vs Q:=λH =>
 ⟨hcal,λF G w us hc=>Calls.mono (KD (.inr rfl) hm hd hf hb hn ha (hc.hide (IG hp))) λe w' he=>by
  obtain⟨u,rfl,v',H2,G',⟨hv,hq⟩,hcr,hext⟩:=he
  obtain⟨h1,h2⟩:=hc.unhide hv hcr hext
  exact⟨u,rfl,v',H,_,⟨hq,rfl⟩,h1,h2⟩⟩
def ADl{f:FuncId}{fn:Func}{c:Code}{vs:List AV}{v:AV}(h:Ed)(hm:P.follows .mixedOrders=true)(hd:fn.body.any (Ga h)=true)(hf:P.funcs[f]? =some fn)(hb:fn.body=some c)(hcal:HS P f=true)
  (hn:vs.length<=fn.ntmps)(hp:FW vs=true)(hv:v.pure=true)(ha:JF P fn.ntmps h none c (TE P fn.ntmps fn.results λv' _=>v'=v) (GR 0 vs) []):FT P f vs v:=λH =>
 ⟨hcal,λF G w us hc=>Calls.mono (KD (.inr rfl) hm hd hf hb hn ha (hc.hide (IG hp))) λe w' he=>by
  obtain⟨u,rfl,v',H2,G',rfl,hcr,hext⟩:=he
  obtain⟨h1,h2⟩:=hc.unhide hv hcr hext
  exact⟨u,rfl,_,H,_,⟨rfl,rfl⟩,h1,h2⟩⟩
end
end Go.AI
namespace Go.AI
abbrev Kt:=Fs->cj->Prop
def XB(x:Operand)(v:AV)(e:Fs):Fs :=
 match v.owned,x with
 |true,.tmp t=>(t,v.borrow)::e
 |_,_=>e
def bnd(r:Option AV)(d:Tmp)(K:Kt)(e:Fs)(H:cj):Prop :=
 match r with
 |some v=>K ((d,v)::e) H
 |none=>False
def AGB(r:Option (AV×cj))(d:Option Tmp)(K:Kt)(e:Fs):Prop :=
 match r with
 |some (v,H)=>K (put d v e) H
 |none=>False
def V5(c:AV)(b:Bool)(A B:Kt)(e:Fs)(H:cj):Prop :=
 match c with
 |.bool c=>if c=b then A e H else B e H
 |.tup _=>B e H
 |_=>False
def AB1(t:Option Tmp)(b:Bool)(A B:Kt)(e:Fs)(H:cj):Prop :=
 match t with
 |some t=>V5 (Fr e t) b A B e H
 |none=>False
def zn(n:Nat)(d:Option Tmp)(K:Kt)(e:Fs)(H:cj):Prop:=Gj n d/\K (put d (.tup []) e) H
def iq(c:AV)(A B:Kt)(e:Fs)(H:cj):Prop :=
 match c with
 |.bool t=>if t=true then A e H else B e H
 |_=>False
def zp(B:Kt)(Q:Exit->Kt)(ex:Exit):Kt:=λe H =>
 match ex with
 |.normal=>B e H
 |ex=>Q ex e H
def bL(id:Nat)(Q:Exit->Kt)(ex:Exit):Kt:=λe H =>
 match ex with
 |.exit j=>if j=id then Q .normal e H else Q (.exit j) e H
 |ex=>Q ex e H
def T_(zs:List (Tmp×Option Nat×Bool))(Q:Exit->Kt):Kt:=λe H=>Q .normal (Kf zs e H).1 (Kf zs e H).2
def gcK(g:Option Nat)(Q:Exit->Kt)(ex:Exit):Kt:=λe H =>
 match ex with
 |.normal=>Q .normal e (T9 g e H)
 |ex=>Q ex e H
def nj(live:List Tmp)(zs:List (Tmp×Option Nat×Bool))(Q:Exit->Kt):Kt:=λe H=>T_ zs Q (Hf live e) H
def qD(P:Program)(t:TypeId)(a:AV)(H:cj):Option (AV×cj) :=
 match a with
 | .ptr ob off=>match H[ob]? with
  |some (some cs)=>match Ll P t cs off with
   |some v=>if v.owned=true then some (v,H.set ob (some (splice cs off (v.cells.map borrow1))))else some (v.borrow,H)
   |none=>none
  |_=>none
 |_=>none
def rdK(r:Option (AV×cj))(K:AV->cj->Prop):Prop :=
 match r with
 |some (v,H)=>K v H
 |none=>False
def Wu(P:Program)(f:FuncId)(vs:List AV)(d:Option Tmp)(K:Kt)(e:Fs)(H:cj):Prop:=∃v,FT P f vs v/\K (put d v e) H
def Fu(P:Program)(f:FuncId)(vs:List AV)(d:Option Tmp)(K:Kt)(e:Fs)(H:cj):Prop:=Fa P f vs H λv H'=>K (put d v e) H'
section
variable{P:Program}{n:Nat}{h:Ed}{ops:Array Oper}{K:Kt}{p:Tmp×AV}{e:Fs}{H:cj}{d:Tmp}{ty:TypeId}{ps:String}{af:Array Edge}{Q:Exit->Kt}{ar:Option Nat}
def tG(t k:Tmp)(v:AV):Fr ((k,v)::e) t=if k=t then v else Fr e t:=rfl
def AA8(t:Tmp):Fr [] t = .undef:=rfl
def xR:Hf [] e=[]:=rfl
def ny(t:Tmp)(l:List Tmp):Hf (t::l) e=(t,Fr e t)::Hf l e:=rfl
def AAC(v:AV):put (some d) v e=(d,v)::e:=rfl
def nk:Gj n (some d)=(d<n):=rfl
def AFc(o:Option TypeId)(t:Tmp):G6 P o e (.tmp t)=Fr e t:=rfl
def AFe(o:Option TypeId)(k:IntKind)(m:Int):G6 P o e (.const (.int k m)) = .int k m:=rfl
def ACM(o:Option TypeId)(b:Bool):G6 P o e (.const (.bool b)) = .bool b:=rfl
def AFd(o:Option TypeId)(s:ByteArray):G6 P o e (.const (.string s)) = .str s:=rfl
def ACJ(o:Option TypeId):G6 P o e (.const (.pointer none)) = .nilp:=rfl
def ACK(o:Option TypeId):G6 P o e (.const .nilFunc) = .nilf:=rfl
def ACI(o:Option TypeId):G6 P o e (.const (.slice none 0 0)) = .sl (Sp P o) []:=rfl
def ACL(o:Option TypeId)(f:FuncId):G6 P o e (.func f) = .fn (.func f) [] []:=rfl
def fZ:Sp P none=none:=rfl
def fY(t:TypeId):Sp P (some t)=match P.underlying t with
  |some (.slice e)=>some (P.cellsOf e)
  |_=>none:=rfl
def sr(k:IntKind)(m:Int):(AV.int k m).owned=false:=rfl
def mJ(b:Bool):(AV.bool b).owned=false:=rfl
def sh(b:ByteArray):(AV.str b).owned=false:=rfl
def mE:AV.nilp.owned=false:=rfl
def so(a b:Nat):(AV.ptr a b).owned=false:=rfl
def mI(a:List AV)(b:Nat):(AV.cptr a b).owned=false:=rfl
def sk(es:List AV):(AV.sl none es).owned=false:=rfl
def sj(k:Nat)(es:List AV):(AV.sl (some k) es).owned=true:=rfl
def sq(a b c k:Nat):(AV.msl a b c k).owned=false:=rfl
def mG(a b c k m:Nat):(AV.mslc a b c k m).owned=false:=rfl
def AAn(f:Fn)(a b:List AV):(AV.fn f a b).owned=false:=rfl
def mF:AV.nilf.owned=false:=rfl
def sw(cs:List AV):(AV.agg cs).owned=cs.any GB:=rfl
def sg(cs:List AV):(AV.tup cs).owned=(cs.flatMap AV.cells).any GB:=rfl
def mK(k:Nat)(es:List AV):GB (AV.sl (some k) es)=true:=rfl
def mL(es:List AV):GB (AV.sl none es)=false:=rfl
def mN(k:IntKind)(m:Int):GB (AV.int k m)=false:=rfl
def ez(b:Bool):GB (AV.bool b)=false:=rfl
def mM(a b c k:Nat):GB (AV.msl a b c k)=false:=rfl
def oY(k:IntKind)(m:Int):(AV.int k m).borrow = .int k m:=rfl
def jL(b:Bool):(AV.bool b).borrow = .bool b:=rfl
def oV(b:ByteArray):(AV.str b).borrow = .str b:=rfl
def oW(a b:Nat):(AV.ptr a b).borrow = .ptr a b:=rfl
def jK(a:List AV)(b:Nat):(AV.cptr a b).borrow = .cptr a b:=rfl
def xn(o:Option Nat)(es:List AV):(AV.sl o es).borrow = .sl none es:=rfl
def oX(a b c k:Nat):(AV.msl a b c k).borrow = .msl a b c k:=rfl
def jI(a b c k m:Nat):(AV.mslc a b c k m).borrow = .mslc a b c k m:=rfl
def xo(f:Fn)(a b:List AV):(AV.fn f a b).borrow = .fn f a b:=rfl
def oZ(cs:List AV):(AV.agg cs).borrow = .agg (cs.map borrow1):=rfl
def oT(cs:List AV):(AV.tup cs).borrow = .tup (cs.map borrow0):=rfl
def oc(o:Option Nat)(es:List AV):borrow1 (AV.sl o es) = .sl none es:=rfl
def jM(k:IntKind)(m:Int):borrow1 (AV.int k m) = .int k m:=rfl
def xa(cs:List AV):(AV.agg cs).cells=cs:=rfl
def xZ(k:IntKind)(m:Int):(AV.int k m).cells=[.int k m]:=rfl
def oD(b:Bool):(AV.bool b).cells=[.bool b]:=rfl
def xW(b:ByteArray):(AV.str b).cells=[.str b]:=rfl
def n_:AV.nilp.cells=[.nilp]:=rfl
def xX(a b:Nat):(AV.ptr a b).cells=[.ptr a b]:=rfl
def ACX(o:Option Nat)(es:List AV):(AV.sl o es).cells=[.sl o es]:=rfl
def xY(a b c k:Nat):(AV.msl a b c k).cells=[.msl a b c k]:=rfl
def tw(cs:List AV):(AV.agg cs).isVal=true:=rfl
def tt(k:IntKind)(m:Int):(AV.int k m).isVal=true:=rfl
def nH(b:Bool):(AV.bool b).isVal=true:=rfl
def tn(b:ByteArray):(AV.str b).isVal=true:=rfl
def tp(a b:Nat):(AV.ptr a b).isVal=true:=rfl
def ABY(o:Option Nat)(es:List AV):(AV.sl o es).isVal=true:=rfl
def tq(a b c k:Nat):(AV.msl a b c k).isVal=true:=rfl
def mH(a:Nat):(AV.mapr a).owned=false:=rfl
def sf(a:Nat)(L:Ee):(AV.yld a L).owned=false:=rfl
def s4(f:Fn)(a b:List AV):GB (AV.fn f a b)=false:=rfl
def ey:GB AV.nilf=false:=rfl
def jJ(a:Nat):(AV.mapr a).borrow = .mapr a:=rfl
def oR(a:Nat)(L:Ee):(AV.yld a L).borrow = .yld a L:=rfl
def oC(a:Nat):(AV.mapr a).cells=[.mapr a]:=rfl
def oA:AV.nilm.cells=[.nilm]:=rfl
def ACY(f:Fn)(a b:List AV):(AV.fn f a b).cells=[.fn f a b]:=rfl
def oB:AV.nilf.cells=[.nilf]:=rfl
def xV(a:Nat)(L:Ee):(AV.yld a L).cells=[.yld a L]:=rfl
def nG(a:Nat):(AV.mapr a).isVal=true:=rfl
def ABZ(f:Fn)(a b:List AV):(AV.fn f a b).isVal=true:=rfl
def tl(a:Nat)(L:Ee):(AV.yld a L).isVal=true:=rfl
def zY(b:Bool)(x:Operand)(v:AV)(e:Fs):Fs :=
 match b,x with
 |true,.tmp t=>(t,v.borrow)::e
 |_,_=>e
def AXR(x:Operand)(v:AV):XB x v e=zY v.owned x v e:=rfl
def AH2(x:Operand)(v:AV):zY false x v e=e:=rfl
def AH1(t:Tmp)(v:AV):zY true (.tmp t) v e=(t,v.borrow)::e:=rfl
def lW(b:Bool)(c:Value)(v:AV):zY b (.const c) v e=e:=by cases b<;>rfl
def rv(b:Bool)(f:FuncId)(v:AV):zY b (.func f) v e=e:=by cases b<;>rfl
def ACv(v:AV):bnd (some v) d K e H=K ((d,v)::e) H:=AG rfl rfl
def xr(v:AV)(dd:Option Tmp):AGB (some (v,H)) dd K e=K (put dd v e) H:=AG rfl rfl
def nT(t:Tmp)(b:Bool)(A B:Kt):AB1 (some t) b A B e H=V5 (Fr e t) b A B e H:=AG rfl rfl
def AFO(A B:Kt):V5 (.bool true) true A B e H=A e H:=AG rfl rfl
def AFR(A B:Kt):V5 (.bool false) false A B e H=A e H:=AG rfl rfl
def AFP(A B:Kt):V5 (.bool true) false A B e H=B e H:=AG rfl rfl
def AFQ(A B:Kt):V5 (.bool false) true A B e H=B e H:=AG rfl rfl
def AB2(b:Bool)(vs:List AV)(A B:Kt):V5 (.tup vs) b A B e H=B e H:=by simp[V5]
def zm(dd:Option Tmp):zn n dd K e H=(Gj n dd/\K (put dd (.tup []) e) H):=AG rfl rfl
def AFl(A B:Kt):iq (.bool true) A B e H=A e H:=AG rfl rfl
def AFm(A B:Kt):iq (.bool false) A B e H=B e H:=AG rfl rfl
def Tl(t:Bool)(A B:Kt)(ht:t=true->A e H)(hf:t=false->B e H):iq (.bool t) A B e H:=by
 cases t
 ·exact hf rfl
 ·exact ht rfl
def nU(t b:Bool)(A B:Kt)(ht:t=b->A e H)(hf:t=(!b)->B e H):V5 (.bool t) b A B e H:=by
 cases t<;>cases b<;>first|exact ht rfl|exact hf rfl
def ADI:LO P n h ops [] K (p::e) H=K (p::e) H:=AG rfl rfl
def yA(o:Oper)(l:List Oper):LO P n h ops (o::l) K (p::e) H=Ie P n h ops o (LO P n h ops l K) (p::e) H:=AG rfl rfl
def ADF:JF P n h ar .skip Q (p::e) H=Q .normal (p::e) H:=AG rfl rfl
def AGG:JF P n h ar .ret Q (p::e) H=Q .ret (p::e) H:=AG rfl rfl
def ADG(id:Nat):JF P n h ar (.exit id) Q (p::e) H=Q (.exit id) (p::e) H:=AG rfl rfl
def AGF(a b:Code):JF P n h ar (.seq a b) Q (p::e) H=JF P n h ar a (zp (JF P n h ar b Q) Q) (p::e) H:=AG rfl rfl
def x_(id:Nat)(c:Code):JF P n h ar (.block id c) Q (p::e) H=JF P n h ar c (bL id Q) (p::e) H:=AG rfl rfl
def ADH(c:Operand)(a b:Code):JF P n h ar (.cond c a b) Q (p::e) H=iq (G6 P none (p::e) c) (JF P n h ar a Q) (JF P n h ar b Q) (p::e) H:=AG rfl rfl
def oq(id:Nat)(ops:Array Oper)(dr:Bool)(hd:h.dn id=false):JF P n h ar (.region id ops dr) Q (p::e) H=LO P n h ops ops.toList (nj (h.lv id) (h.at id) (gcK (h.ct id) Q)) (p::e) H:=by
 obtain⟨h1,h2⟩:=pj hd ops
 have e1:(λe H=>(h.da id=true->Jj P h ops e)/\Q .normal (Kf (h.at id) (Hf (h.lv id) e) H).1 (T9 (h.ct id) (Kf (h.at id) (Hf (h.lv id) e) H).1 (Kf (h.at id) (Hf (h.lv id) e) H).2))=nj (h.lv id) (h.at id) (gcK (h.ct id) Q):=by
  funext e H
  simp only[h1,Bx,false_implies,true_and]
  rfl
 show LO P n h ops (h.ord id ops) _ (p::e) H=_
 rw[<- e1,h2]
def Ae2(P:Program)(h:Ed)(ops:Array Oper)(K:Kt):Kt:=λe H=>Jj P h ops e/\K e H
def HT(id:Nat)(ops:Array Oper)(dr:Bool)(hd:h.dn id=true)(ha:h.da id=true)(hm:h.mv id=[]):JF P n h ar (.region id ops dr) Q (p::e) H=LO P n h ops ops.toList (Ae2 P h ops (nj (h.lv id) (h.at id) (gcK (h.ct id) Q))) (p::e) H:=by
 have e1:(λe H=>(h.da id=true->Jj P h ops e)/\Q .normal (Kf (h.at id) (Hf (h.lv id) e) H).1 (T9 (h.ct id) (Kf (h.at id) (Hf (h.lv id) e) H).1 (Kf (h.at id) (Hf (h.lv id) e) H).2))=Ae2 P h ops (nj (h.lv id) (h.at id) (gcK (h.ct id) Q)):=by
  funext e H
  simp only[ha,true_implies]
  rfl
 have h2:h.ord id ops=ops.toList:=by unfold Hint.ord;rw[hm]
 show LO P n h ops (h.ord id ops) _ (p::e) H=_
 rw[<- e1,h2]
def PK(id:Nat)(ops:Array Oper)(dr:Bool)(hd:h.dn id=true)(ha:h.da id=false):JF P n h ar (.region id ops dr) Q (p::e) H=LO P n h ops (h.ord id ops) (nj (h.lv id) (h.at id) (gcK (h.ct id) Q)) (p::e) H:=by
 have e1:(λe H=>(h.da id=true->Jj P h ops e)/\Q .normal (Kf (h.at id) (Hf (h.lv id) e) H).1 (T9 (h.ct id) (Kf (h.at id) (Hf (h.lv id) e) H).1 (Kf (h.at id) (Hf (h.lv id) e) H).2))=nj (h.lv id) (h.at id) (gcK (h.ct id) Q):=by
  funext e H
  simp only[ha,Bx,false_implies,true_and]
  rfl
 show LO P n h ops (h.ord id ops) _ (p::e) H=_
 rw[<- e1]
def rfK(P:Program)(n:Nat)(h:Ed)(ar:Option Nat)(g:Operand)(rs:Array Tmp)(assign body:Code)(Q:Exit->Kt):Kt:=JF P n h ar (.rangeFunc g rs assign body) Q
def Xr(g:Operand)(rs:Array Tmp)(assign body:Code):JF P n h ar (.rangeFunc g rs assign body) Q (p::e) H=rfK P n h ar g rs assign body Q (p::e) H:=AG rfl rfl
def AFh(live:List Tmp)(zs:List (Tmp×Option Nat×Bool)):nj live zs Q (p::e) H=T_ zs Q (Hf live (p::e)) H:=AG rfl rfl
def AB7:T_ [] Q e H=Q .normal e H:=AG rfl rfl
def Y9(z:Tmp×Option Nat×Bool)(zs:List (Tmp×Option Nat×Bool)):T_ (z::zs) Q e H=T_ zs Q (Xi z e H).1 (Xi z e H).2:=rfl
def AB6:gcK none Q=Q:=by
 funext ex e H
 cases ex<;>rfl
def AB5(k:Nat):gcK (some k) Q .normal e H=if k<=H.length/\Fo k (e.map (·.2))=true/\Uo (H.take k)=true then Q .normal e (H.take k)else Q .normal e H:=by
 simp only[gcK,T9]
 split<;>rfl
def xA{t k o off2 ob off len sz:Nat}{ag:Bool}{zs:List (Tmp×Option Nat×Bool)}{cs cs2:List AV}(hl:Fr e t = .ptr o off2)(h2:H[o]? =some (some cs2))(hc:cs2[off2+k]? =some (.msl ob off len sz))(hne:ob≠o)(ho:H[ob]? =some (some cs))(hle:off+len*sz<=cs.length)(hs:ag=true\/sz=1):
  T_ ((t,some k,ag)::zs) Q e H=T_ zs Q e ((H.set ob none).set o (some (cs2.set (off2+k) (.sl none (Ho ag sz len ((cs.drop off).map borrow1)))))):=by
 have e0:Xi (t,some k,ag) e H=(e,(H.set ob none).set o (some (cs2.set (off2+k) (.sl none (Ho ag sz len ((cs.drop off).map borrow1)))))):=by
  simp only[Xi,hl,h2,hc,KB,ho]
  rw[iP ⟨hle,hs⟩]
  simp only[List.getElem?_set_ne hne,h2]
 rw[Y9,e0]
def dh(B:Kt):zp B Q .normal=B:=AG rfl rfl
def zo(B:Kt):zp B Q .ret=Q .ret:=AG rfl rfl
def r_(B:Kt)(j:Nat):zp B Q (.exit j)=Q (.exit j):=AG rfl rfl
def jP(id:Nat):bL id Q .normal=Q .normal:=AG rfl rfl
def ACw(id:Nat):bL id Q .ret=Q .ret:=AG rfl rfl
def ACx(id:Nat):bL id Q (.exit id)=Q .normal:=by
 funext e H;simp[bL]
def xt(id j:Nat)(hj:(j==id)=false):bL id Q (.exit j)=Q (.exit j):=by
 funext e H
 have:j≠id:=by simpa using hj
 simp[bL,this]
def ADf(rs:Array ResultVar)(K:AV->cj->Prop):TE P n rs K .ret e H=dw P n rs.toList e H λvs _ H'=>Of K vs H':=AG rfl rfl
def j'(rs:Array ResultVar)(K:AV->cj->Prop):TE P n rs K .normal e H=dw P n rs.toList e H λvs _ H'=>Of K vs H':=AG rfl rfl
def AEb(K:List AV->Fs->cj->Prop):dw P n [] e H K=K [] e H:=AG rfl rfl
def AEa(t:Tmp)(rs:List ResultVar)(K:List AV->Fs->cj->Prop):dw P n (.tmp t::rs) e H K=(t<n/\dw P n rs (XB (.tmp t) (Fr e t) e) H λvs=>K (Fr e t::vs)):=by
 have e1:(NO P none true (.tmp t) e).2=XB (.tmp t) (Fr e t) e:=by
  simp only[NO,G6,XB]
  cases(Fr e t).owned<;>rfl
 simp only[dw,e1]
 rfl
def dq(t:Tmp)(ty:TypeId)(rs:List ResultVar)(K:List AV->Fs->cj->Prop):dw P n (.cell t ty::rs) e H K=(t<n/\rdK (qD P ty (Fr e t) H) λv H'=>dw P n rs e H' λvs=>K (v::vs)):=by
 simp only[dw,qD]
 congr 1
 cases Fr e t with
 | ptr ob off =>
  dsimp only
  cases H[ob]? with
  |none=>rfl
  | some c=>cases c with
   |none=>rfl
   | some cs =>
    dsimp only
    cases Ll P ty cs off with
    |none=>rfl
    |some v =>
     dsimp only
     by_cases hv:v.owned=true
     ·rw[iP hv,iP hv];rfl
     ·rw[iN hv,iN hv];rfl
 |_=>rfl
def z8(v:AV)(K:AV->cj->Prop):rdK (some (v,H)) K=K v H:=AG rfl rfl
def zy(v:AV)(K:AV->cj->Prop):Of K [v] H=K v H:=AG rfl rfl
def zz(K:AV->cj->Prop):Of K [] H=K (.tup []) H:=by simp[Of]
def zx(u v:AV)(K:AV->cj->Prop):Of K [u,v] H=(u.isVal=true/\v.isVal=true/\K (.tup [u,v]) H):=by simp[Of,and_assoc]
def ll(u v x:AV)(K:AV->cj->Prop):Of K [u,v,x] H=(u.isVal=true/\v.isVal=true/\x.isVal=true/\K (.tup [u,v,x]) H):=by simp[Of,and_assoc]
def sF(u v x y:AV)(K:AV->cj->Prop):Of K [u,v,x,y] H=(u.isVal=true/\v.isVal=true/\x.isVal=true/\y.isVal=true/\K (.tup [u,v,x,y]) H):=by simp[Of,and_assoc]
def Wu.intro{f:FuncId}{vs:List AV}{dd:Option Tmp}{v:AV}(hc:FT P f vs v)(hk:K (put dd v e) H):Wu P f vs dd K e H:=⟨v,hc,hk⟩
def Fu.intro{f:FuncId}{vs:List AV}{dd:Option Tmp}{R:AV->cj->Prop}(hc:Fa P f vs H R)(hk:∀v H',R v H'->K (put dd v e) H'):Fu P f vs dd K e H:=hc.mono hk
def Fu.pure{f:FuncId}{vs:List AV}{dd:Option Tmp}{v:AV}(hc:FT P f vs v)(hk:K (put dd v e) H):Fu P f vs dd K e H:=(hc H).mono λv' H' hq=>by obtain⟨rfl,rfl⟩:=hq;exact hk
def Jx{f:FuncId}{vs:List AV}{dd:Option Tmp}{Q:AV->Prop}(hc:KL P f vs Q)(hk:∀v,Q v->K (put dd v e) H):Fu P f vs dd K e H:=(hc H).mono λv' H' hq=>by obtain⟨h1,rfl⟩:=hq;exact hk v' h1
end
end Go.AI
namespace Go.AI
def JL(P:Program):List Operand->Fs->List AV×Fs
 |[],e=>([],e)
 |x::xs,e=>((G6 P none e x)::(JL P xs (XB x (G6 P none e x) e)).1,(JL P xs (XB x (G6 P none e x) e)).2)
def YW(P:Program)(tk:Bool)(t:TypeId)(a:AV)(H:cj):Option (AV×cj) :=
 match a with
 | .ptr ob off=>match H[ob]? with
  | some (some cs)=>match Ll P t cs off with
   |some v=>match tk with
    |true=>if v.owned=true/\v.scalar=true then some (v,H.set ob (some (splice cs off (v.cells.map borrow1))))else none
    |false=>some (v.borrow,H)
   |none=>none
  |_=>none
 |.cptr cs off=>match Ll P t cs off with
  |some v=>some (v.borrow,H)
  |none=>none
 |_=>none
def Uv(P:Program)(t:TypeId)(a v:AV)(H:cj):Option cj :=
 match a with
 |.ptr ob off=>match H[ob]? with
  |some (some cs)=>if v.isVal=true/\v.cells.length=P.cellsOf t/\0<P.cellsOf t/\off+P.cellsOf t<=cs.length then some (H.set ob (some (splice cs off v.cells)))else none
  |_=>none
 |_=>none
def stK(r:Option cj)(K:Kt)(e:Fs):Prop :=
 match r with
 |some H=>K e H
 |none=>False
def rl(a:AV)(k:Nat):Option AV :=
 match a with
 |.ptr ob off=>some (.ptr ob (off+k))
 |.cptr cs off=>some (.cptr cs (off+k))
 |_=>none
def fieldAt(P:Program)(s f:Nat):Option Field :=
 match P.underlying s with
 |some (.struct fs)=>fs[f]?
 |_=>none
def SS(P:Program)(fd:Option Field)(x:AV):Option AV :=
 match fd with
 |some fd=>if 0<P.cellsOf fd.type then rl x fd.offset else none
 |none=>none
def YV(P:Program)(fd:Option Field)(x:AV):Option AV :=
 match fd,x with
 |some fd,.agg cs=>Ll P fd.type cs fd.offset
 |_,_=>none
def zR(x:AV):Option AV :=
 match x with
 |.ptr ob off=>some (.ptr ob off)
 |.cptr cs off=>some (.cptr cs off)
 |.fn (.func f) a b=>some (.fn (.func f) a b)
 |.yld o L=>some (.yld o L)
 |_=>none
def zN(c a b:AV):Option AV :=
 match c with
 |.bool c=>some (if c=true then a else b)
 |_=>none
def OZ(x:AV)(i:Nat):Option AV :=
 match x with
 |.tup vs=>vs[i]?
 |_=>none
def zS(d:Option TypeDesc)(x:AV):Option AV :=
 match d,x with
 |some (.slice _),.sl _ es=>some (.int .i64 es.length)
 |some (.slice _),.msl _ _ len _=>some (.int .i64 len)
 |some (.slice _),.mslc _ _ len _ _=>some (.int .i64 len)
 |some .string,.str s=>some (.int .i64 s.size)
 |some (.array n _),_=>some (.int .i64 n)
 |_,_=>none
def vUn(op:UnOp)(x:AV):Option AV :=
 match op,x with
 |.neg,.int k m=>some (.int k (k.wrap (0 - m)))
 |.not,.bool b=>some (.bool !b)
 |_,_=>none
section
variable{P:Program}{n:Nat}{h:Ed}{ops:Array Oper}{K:Kt}{p:Tmp×AV}{e:Fs}{H:cj}{d:Tmp}{ty:TypeId}{ps:String}{af:Array Edge}{Q:Exit->Kt}
def NN:∀(xs:List Operand) (e:Fs),OX P none true xs e=JL P xs e
 |[],e=>rfl
 | x::xs,e=>by
  have:(NO P none true x e).2=XB x (G6 P none e x) e:=by
   simp only[NO,XB]
   cases x with
   |tmp t=>simp only[G6];cases(Fr e t).owned<;>rfl
   |_=>cases(G6 P none e _).owned<;>rfl
  simp only[OX,JL,this,NN xs]
  rfl
def GF(ty:Option TypeId): ∀(xs:List Operand) (e:Fs),OX P ty false xs e=(xs.map λx=>(G6 P ty e x).borrow,e)
 |[],e=>rfl
 |x::xs,e=>by simp only[OX,NO,GF ty xs,AS]
def ru:JL P [] e=([],e):=rfl
def lV(x:Operand)(xs:List Operand):JL P (x::xs) e=((G6 P none e x)::(JL P xs (XB x (G6 P none e x) e)).1,(JL P xs (XB x (G6 P none e x) e)).2):=rfl
def F_(o:Oper)(hg:o.guard=none):Ie P n h ops o K e H=(Gj n o.dst/\Fh P h o (OX P (HQ o) (F0 h o) o.op.operands.toList e).1 H λv H'=>K (put o.dst v (OX P (HQ o) (F0 h o) o.op.operands.toList e).2) H'):=by
 simp only[Ie,lD,hg]
def yM(op:Op)(j:Nat)(b:Bool)(dd:Option Tmp):Ie P n h ops ⟨dd,op,ty,ps,af,some (j,b)⟩ K (p::e) H =
  AB1 ((ops[j]?).bind Oper.dst) b (Ie P n h ops ⟨dd,op,ty,ps,af,none⟩ K) (zn n dd K) (p::e) H:=by
 simp only[Ie,lD,AB1,V5,zn]
 cases(ops[j]?).bind Oper.dst with
 |none=>rfl
 |some t =>
  simp only
  cases Fr (p::e) t with
  |bool c=>cases c<;>cases b<;>rfl
  |_=>rfl
def Zh(x:Operand)(o:Option TypeId):(NO P o true x e).2=XB x (G6 P o e x) e:=by
 simp only[NO,XB]
 cases x with
 |tmp t=>simp only[G6];cases(Fr e t).owned<;>rfl
 |_=>cases(G6 P o e _).owned<;>rfl
def ADQ(x:Operand):Ie P n h ops ⟨some d,.move x,ty,ps,af,none⟩ K (p::e) H =
  (d<n/\bif h.tk.contains d then K ((d,G6 P (some ty) (p::e) x)::XB x (G6 P (some ty) (p::e) x) (p::e)) H else K ((d,(G6 P (some ty) (p::e) x).borrow)::p::e) H):=by
 rw[F_ _ rfl]
 cases ht:h.tk.contains d
 ·simp only[F0,DC,ht,HQ,Op.operands,OX,Fh,put,Gj,cond_false];rfl
 ·simp only[F0,DC,ht,HQ,Op.operands,OX,Zh,Fh,put,Gj,cond_true];rfl
def pE(x:Operand):Ie P n h ops ⟨some d,.assign x,ty,ps,af,none⟩ K (p::e) H =
  (d<n/\K ((d,G6 P (some ty) (p::e) x)::XB x (G6 P (some ty) (p::e) x) (p::e)) H):=by
 rw[F_ _ rfl]
 simp only[F0,HQ,Op.operands,OX,Zh,Fh,put,Gj];rfl
def ADO(c a b:Operand):Ie P n h ops ⟨some d,.pick c a b,ty,ps,af,none⟩ K (p::e) H =
  (d<n/\bnd (zN (G6 P none (p::e) c).borrow (G6 P none (p::e) a).borrow (G6 P none (p::e) b).borrow) d K (p::e) H):=by
 rw[F_ _ rfl]
 simp only[F0,HQ,Op.operands,GF,AS,Ah,Fh,put,Gj,zN]
 cases(G6 P none (p::e) c).borrow<;>rfl
def AGS(el:TypeId)(x:Operand):Ie P n h ops ⟨some d,.box el x,ty,ps,af,none⟩ K (p::e) H =
  (d<n/\(G6 P none (p::e) x).isVal=true/\K ((d,.ptr H.length 0)::XB x (G6 P none (p::e) x) (p::e)) (H++[some (G6 P none (p::e) x).cells])):=by
 rw[F_ _ rfl]
 simp only[F0,HQ,Op.operands,OX,Zh,Fh,put,Gj];rfl
def ADR(t:TypeId)(x:Operand):Ie P n h ops ⟨some d,.load t x,ty,ps,af,none⟩ K (p::e) H =
  (d<n/\AGB (YW P (h.tk.contains d) t (G6 P none (p::e) x).borrow H) (some d) K (p::e)):=by
 rw[F_ _ rfl]
 simp only[F0,HQ,Op.operands,GF,AS,Ah,Fh,put,Gj,YW]
 congr 1
 cases(G6 P none (p::e) x).borrow with
 | ptr ob off =>
  simp only
  cases H[ob]? with
  |none=>rfl
  | some c=>cases c with
   |none=>rfl
   | some cs =>
    simp only
    cases Ll P t cs off with
    |none=>rfl
    | some v =>
     simp only[DC]
     cases h.tk.contains d
     ·rfl
     ·dsimp only
      by_cases hc:v.owned=true/\v.scalar=true
      ·rw[iP hc];simp[hc.1,hc.2,AGB,put]
      ·rw[iN hc]
       simp only[AGB,eq_iff_iff,iff_false]
       intro hx
       exact hc ⟨hx.1,hx.2.1⟩
 |cptr cs off =>
  simp only
  cases Ll P t cs off<;>rfl
 |_=>rfl
def yI(t:TypeId)(a v:Operand):Ie P n h ops ⟨none,.store t a v,ty,ps,af,none⟩ K (p::e) H =
  stK (Uv P t (G6 P (some t) (p::e) a) (G6 P (some t) (XB a (G6 P (some t) (p::e) a) (p::e)) v) H) K (XB v (G6 P (some t) (XB a (G6 P (some t) (p::e) a) (p::e)) v) (XB a (G6 P (some t) (p::e) a) (p::e))):=by
 rw[F_ _ rfl]
 have e1:∀(x:Operand) (e:Fs),(NO P (some t) true x e).1=G6 P (some t) e x:=λ_ _=>rfl
 simp only[F0,HQ,Op.operands,OX,Zh,e1,Fh,put,Gj,Uv,true_and]
 generalize G6 P (some t) (XB a (G6 P (some t) (p::e) a) (p::e)) v=vv
 generalize XB v vv (XB a (G6 P (some t) (p::e) a) (p::e))=e'
 cases G6 P (some t) (p::e) a with
 | ptr ob off =>
  simp only
  cases H[ob]? with
  |none=>rfl
  | some c=>cases c with
   |none=>rfl
   | some cs =>
    simp only
    by_cases hc:vv.isVal=true/\vv.cells.length=P.cellsOf t/\0<P.cellsOf t/\off+P.cellsOf t<=cs.length
    ·rw[iP hc]
     obtain⟨h1,h2,h3,h4⟩:=hc
     simp only[h1,h2,h3,h4,true_and,stK]
    ·rw[iN hc]
     simp only[stK,eq_iff_iff,iff_false]
     intro hx
     exact hc ⟨hx.1,hx.2.1,hx.2.2.1,hx.2.2.2.1⟩
 |_=>rfl
def bV(x:Operand):Ie P n h ops ⟨some d,.nilCheck x,ty,ps,af,none⟩ K (p::e) H=(d<n/\bnd (zR (G6 P none (p::e) x).borrow) d K (p::e) H):=by
 rw[F_ _ rfl]
 simp only[F0,HQ,Op.operands,GF,AS,Ah,Fh,put,Gj,zR]
 congr 1
 cases(G6 P none (p::e) x).borrow with
 |fn f a b=>cases f<;>rfl
 |_=>rfl
def ADM(op:UnOp)(t:TypeId)(x:Operand):Ie P n h ops ⟨some d,.unOp op t x,ty,ps,af,none⟩ K (p::e) H=(d<n/\bnd (vUn op (G6 P none (p::e) x).borrow) d K (p::e) H):=by
 rw[F_ _ rfl]
 simp only[F0,HQ,Op.operands,GF,AS,Ah,Fh,put,Gj,vUn]
 congr 1
 cases op<;>cases(G6 P none (p::e) x).borrow<;>rfl
def Xx(s f:Nat)(x:Operand):Ie P n h ops ⟨some d,.fieldAddr s x f,ty,ps,af,none⟩ K (p::e) H=(d<n/\bnd (SS P (fieldAt P s f) (G6 P none (p::e) x).borrow) d K (p::e) H):=by
 rw[F_ _ rfl]
 simp only[F0,HQ,Op.operands,GF,AS,Ah,Fh,put,Gj,SS,fieldAt]
 congr 1
 cases P.underlying s with
 |none=>rfl
 | some dd=>cases dd with
  | struct fs =>
   simp only
   cases fs[f]? with
   |none=>rfl
   | some fd =>
    simp only
    by_cases hc:0<P.cellsOf fd.type
    ·rw[iP hc]
     simp only[hc,true_and]
     cases(G6 P none (p::e) x).borrow<;>rfl
    ·rw[iN hc]
     simp only[hc,false_and,bnd]
  |_=>rfl
def yN(s f:Nat)(x:Operand):Ie P n h ops ⟨some d,.field s x f,ty,ps,af,none⟩ K (p::e) H=(d<n/\bnd (YV P (fieldAt P s f) (G6 P none (p::e) x).borrow) d K (p::e) H):=by
 rw[F_ _ rfl]
 simp only[F0,HQ,Op.operands,GF,AS,Ah,put,Gj,YV,fieldAt]
 congr 1
 generalize (G6 P none (p::e) x).borrow=a
 unfold Fh
 dsimp only
 cases hu:P.underlying s with
 |none=>cases a<;>simp[bnd,hu]
 | some dd=>cases dd with
  | struct fs =>
   dsimp only
   cases hf:fs[f]? with
   |none=>cases a<;>simp[bnd,hu,hf]
   |some fd=>cases a with
    |agg cs=>simp only[hu,hf];cases Ll P fd.type cs fd.offset<;>rfl
    |_=>simp[bnd]
  |_=>cases a<;>simp[bnd,hu]
def jc(x:Operand)(i:Nat):Ie P n h ops ⟨some d,.extract x i,ty,ps,af,none⟩ K (p::e) H=(d<n/\bnd (OZ (G6 P none (p::e) x).borrow i) d K (p::e) H):=by
 rw[F_ _ rfl]
 simp only[F0,HQ,Op.operands,GF,AS,Ah,Fh,put,Gj,OZ]
 congr 1
 cases(G6 P none (p::e) x).borrow with
 |tup vs=>simp only;cases vs[i]?<;>simp[bnd]
 |_=>rfl
def AGQ(x:Operand)(t:TypeId):Ie P n h ops ⟨some d,.call ⟨.builtin .len,#[x],#[t]⟩,ty,ps,af,none⟩ K (p::e) H=(d<n/\bnd (zS (P.underlying t) (G6 P none (p::e) x).borrow) d K (p::e) H):=by
 rw[F_ _ rfl]
 have e1:(#[]++#[x]:Array Operand).toList=[x]:=rfl
 simp only[F0,HQ,Op.operands,Call.operands,e1,GF,AS,Ah,Fh,put,Gj,zS]
 congr 1
 simp only[Bb,A7,BY]
 cases P.underlying t with
 |none=>cases(G6 P none (p::e) x).borrow<;>rfl
 |some dd=>cases dd<;>cases(G6 P none (p::e) x).borrow<;>rfl
end
end Go.AI
namespace Go.AI
def IC(P:Program)(op:BinOp)(t:TypeId)(a b:AV)(d:Tmp)(K:Kt)(e:Fs)(H:cj):Prop:=KI P op t a b λv=>K ((d,v)::e) H
def gU(P:Program)(t:TypeId):Bool:=match P.underlying t with|some (.slice _)=>true|_=>false
def tC(P:Program)(op:BinOp)(t:TypeId)(a:AV)(d:Tmp)(K:Kt)(e:Fs)(H:cj):Prop:=Np P op t a λv=>K ((d,v)::e) H
def AGD(P:Program)(op:BinOp)(t:TypeId)(z:Bool)(a b:AV)(d:Tmp)(K:Kt)(e:Fs)(H:cj):Prop :=
 match z with
 |true=>tC P op t a d K e H
 |false=>IC P op t a b d K e H
def Lv(P:Program)(u:Option TypeDesc)(x:AV)(i:AV):Option AV :=
 match i with
 |.int _ i=>match u,x with
  |some (.slice e),.sl _ es=>if 0<=i then(es[i.toNat]?).bind λv=>if v.cells.length=P.cellsOf e/\0<P.cellsOf e then some (.cptr v.cells 0)else none else none
  |some (.slice e),.msl ob off len sz=>if 0<=i/\i<len/\sz=P.cellsOf e/\0<sz then some (.ptr ob (off+i.toNat*sz))else none
  |some (.array n e),.ptr ob off=>if 0<=i/\i<n/\0<P.cellsOf e then some (.ptr ob (off+i.toNat*P.cellsOf e))else none
  |some (.array n e),.cptr cs off=>if 0<=i/\i<n/\0<P.cellsOf e then some (.cptr cs (off+i.toNat*P.cellsOf e))else none
  |_,_=>none
 |_=>none
def Uw(P:Program)(u:Option TypeDesc)(x:AV)(i:AV):Option AV :=
 match i with
 |.int _ i=>match u,x with
  |some .string,.str s=>if 0<=i/\i<s.size then some (.int .u8 ((s.data[i.toNat]?).getD 0).toNat)else none
  |some (.array n e),.agg cs=>if 0<=i/\i<n/\0<P.cellsOf e then Ll P e cs (i.toNat*P.cellsOf e)else none
  |_,_=>none
 |_=>none
def jY(P:Program)(el:TypeId)(mt ln:Bool)(H:cj)(a:AV)(xs:List AV)(d:Tmp)(K:Kt)(e:Fs):Prop:=N9 P el mt ln H a xs λv H'=>K ((d,v)::e) H'
def AfM(P:Program)(el:TypeId)(mt ln:Bool)(xs:Option (List AV))(a:AV)(d:Tmp)(K:Kt)(e:Fs)(H:cj):Prop :=
 match xs with
 |some xs=>jY P el mt ln H a xs d K e
 |none=>False
def AVO(P:Program)(mt tk ln:Bool)(t:TypeId)(vs:List AV)(d:Tmp)(K:Kt)(e:Fs)(H:cj):Prop :=
 match vs with
 |[a,b]=>match P.underlying t with
  |some (.slice el)=>0<P.cellsOf el/\GW P el=true/\AfM P el mt ln (S' P el (mt||tk) H b) a d K e H
  |_=>False
 |_=>False
def ADz(P:Program)(f:FuncId)(vs:List AV)(d:Option Tmp)(K:Kt)(e:Fs)(H:cj):Prop:=∃v ext,Fa P f vs H (λv2 H2=>v2=v/\H2=H++ext)/\K (put d v e) (H++ext)
def pY(P:Program)(f:FuncId)(vs:List AV)(d:Option Tmp)(K:Kt)(e:Fs)(H:cj):Prop:=∃v,(PP P f vs H v\/QP P f vs H v)/\K (put d v e) H
def N'(P:Program)(o:Nat)(L:Ee)(vs:List AV)(d:Option Tmp)(K:Kt)(e:Fs)(H:cj):Prop:=NR P o L vs H λv H'=>K (put d v e) H'
def N'.intro{P:Program}{o:Nat}{L:Ee}{vs:List AV}{d:Option Tmp}{K:Kt}{e:Fs}{H:cj}{R:AV->cj->Prop}(hc:NR P o L vs H R)(hk:∀v H',R v H'->K (put d v e) H'):N' P o L vs d K e H:=hc.mono hk
def AHJ(P:Program)(pc mt:Bool)(vs:List AV)(d:Option Tmp)(K:Kt)(e:Fs)(H:cj):Prop :=
 match vs with
 | .fn (.func f) first captured::args=>match pc with
  |true=>match mt with
   |true=>pY P f (first.map AV.borrow++args++captured.map AV.borrow) d K e H
   |false=>Wu P f (first.map AV.borrow++args++captured.map AV.borrow) d K e H
  |false=>match mt with
   |true=>ADz P f (first.map AV.borrow++args++captured.map AV.borrow) d K e H
   |false=>Fu P f (first.map AV.borrow++args++captured.map AV.borrow) d K e H
 |.yld o L::args=>(pc=false/\mt=false)/\N' P o L args d K e H
 |_=>False
def ST(P:Program)(t:TypeId)(is:List Nat)(vs:List AV):Option AV :=
 match P.underlying t with
 |some (.struct fs)=>if NL P fs=true then match Fk P t with
  |some (.agg z)=>(IJ ((Iw P fs)[·]?) z is vs).map .agg
  |_=>none
  else none
 |some (.array _ e)=>if(P.info? e).isSome=true then match Fk P t with
  |some (.agg z)=>(IJ (λi=>some (i*P.cellsOf e,P.cellsOf e)) z is vs).map .agg
  |_=>none
  else none
 |_=>none
def AIS(P:Program)(mt:Bool)(t len:Nat)(is:List Nat)(vs:List AV)(d:Tmp)(K:Kt)(e:Fs)(H:cj):Prop :=
 match P.underlying t with
 | some (.slice el)=>0<P.cellsOf el/\len*P.cellsOf el<=16777216/\is=Ak len/\(∀ v∈vs,v.isVal=true/\v.cells.length=P.cellsOf el)/\GW P el=true /\
   match mt with
   |true=>K ((d,.msl H.length 0 len (P.cellsOf el))::e) (H++[some (HP (vs.map AV.borrow))])
   |false=>K ((d,.sl (some (P.cellsOf el)) (vs.map AV.borrow))::e) H
 |_=>False
def zk(P:Program)(mt:Bool)(t:TypeId)(bl bh bm:Bool)(vs:List AV)(d:Tmp)(K:Kt)(e:Fs)(H:cj):Prop :=
 match vs with
 | x::rest=>match Pv bl bh bm rest with
  |some (l,hh,m)=>match mt with
   |true=>KF P t x l hh m H λv=>K ((d,v)::e) H
   |false=>N7 P t x l hh m λv=>K ((d,v)::e) H
  |none=>False
 |[]=>False
def mmK(mn:Bool)(vs:List AV)(d:Tmp)(K:Kt)(e:Fs)(H:cj):Prop :=
 match vs with
 |[.int k a,.int k' b]=>k=k'/\K ((d,.int k (if mn then(if b<a then b else a)else(if b>a then b else a)))::e) H
 |_=>False
def AHH(P:Program)(su du:Option TypeDesc)(x:AV)(d:Tmp)(K:Kt)(e:Fs)(H:cj):Prop :=
 match su,du,x with
 |some _,some (.int k),.int _ m=>K ((d,.int k (k.wrap m))::e) H
 |some .string,some .string,.str s=>K ((d,.str s)::e) H
 |some (.slice el),some .string,.sl _ es=>P.underlying el=some (.int .u8)/\(∀x∈es,Oz x=true)/\K ((d,.str (Pu es))::e) H
 |_,_,_=>False
def mkK(P:Program)(t:TypeId)(vs:List AV)(d:Tmp)(K:Kt)(e:Fs)(H:cj):Prop :=
 match vs with
 | [.int _ n,.int _ c]=>match P.underlying t with
  | some (.slice el)=>n=c/\0<=n/\n*P.bytesOf el<=140737488355328/\n<=9223372036854775807/\(P.info? el).isSome=true /\ ∃ z,Fk P el=some z/\z.cells.length=P.cellsOf el/\0<P.cellsOf el /\
    K ((d,.msl H.length 0 n.toNat (P.cellsOf el))::e) (H++[some (A0 n.toNat z.cells).flatten])
  |_=>False
 |_=>False
section
variable{P:Program}{n:Nat}{h:Ed}{ops:Array Oper}{K:Kt}{p:Tmp×AV}{e:Fs}{H:cj}{d:Tmp}{ty:TypeId}{ps:String}{af:Array Edge}{Q:Exit->Kt}
def yQ(op:BinOp)(t t':TypeId)(x y:Operand):Ie P n h ops ⟨some d,.binOp op t x y t',ty,ps,af,none⟩ K (p::e) H =
  (d<n/\AGD P op t (Kw y) (G6 P none (p::e) x).borrow (G6 P none (p::e) y).borrow d K (p::e) H):=by
 rw[F_ _ rfl]
 simp only[F0,HQ,Op.operands,GF,AS,Ah,Fh,put,Gj,AGD]
 cases Kw y<;>rfl
def AVN{op:BinOp}{t:TypeId}{a b:AV}:AGD P op t false a b d K e H=IC P op t a b d K e H:=AG rfl rfl
def AVM{op:BinOp}{t:TypeId}{a b:AV}:AGD P op t true a b d K e H=tC P op t a d K e H:=AG rfl rfl
def fT(t:Tmp):Kw (.tmp t)=false:=rfl
def fX(k:IntKind)(m:Int):Kw (.const (.int k m))=false:=rfl
def fU(s:ByteArray):Kw (.const (.string s))=false:=rfl
def fV:Kw (.const (.slice none 0 0))=true:=rfl
section
variable{t:TypeId}
def qk(hp:gU P t=true): ∃e,P.underlying t=some (.slice e):=by
 unfold gU at hp
 split at hp
 ·exact⟨_,‹_›⟩
 ·cases hp
def aF{o:Option Nat}(hp:gU P t=true):tC P .eql t (.sl o []) d K e H=(K ((d,.bool true)::e) H/\K ((d,.bool false)::e) H):=by
 obtain⟨el,hu⟩:=qk hp;simp[tC,Np,hu]
def XU{o:Option Nat}{x:AV}{xs:List AV}(hp:gU P t=true):tC P .eql t (.sl o (x::xs)) d K e H=K ((d,.bool false)::e) H:=by
 obtain⟨el,hu⟩:=qk hp;simp[tC,Np,hu]
end
def ADX(t:TypeId)(k k':IntKind)(x y:Int):KM P t (.int k x) (.int k' y)=none:=by
 unfold KM;split<;>simp_all
def ADW(t:TypeId)(x y:ByteArray):KM P t (.str x) (.str y)=none:=by
 unfold KM;split<;>simp_all
def HL{op:BinOp}{t:TypeId}{k k':IntKind}{x y:Int}:IC P op t (.int k x) (.int k' y) d K e H=KJ op (.int k x) (.int k' y) λv=>K ((d,v)::e) H:=by
 unfold IC KI
 rw[ADX]
 cases op<;>rfl
def PH{op:BinOp}{t:TypeId}{x y:ByteArray}:IC P op t (.str x) (.str y) d K e H=KJ op (.str x) (.str y) λv=>K ((d,v)::e) H:=by
 unfold IC KI
 rw[ADW]
 cases op<;>rfl
section
variable{t:TypeId}{k:IntKind}{x y:Int}
def ADC:IC P .add t (.int k x) (.int k y) d K e H=K ((d,.int k (k.wrap (x+y)))::e) H:=by rw[HL];simp[KJ]
def AC4:IC P .sub t (.int k x) (.int k y) d K e H=K ((d,.int k (k.wrap (x - y)))::e) H:=by rw[HL];simp[KJ]
def AC8:IC P .mul t (.int k x) (.int k y) d K e H=K ((d,.int k (k.wrap (x*y)))::e) H:=by rw[HL];simp[KJ]
def AC6:IC P .quo t (.int k x) (.int k y) d K e H=(y≠0/\K ((d,.int k (k.wrap (x.tdiv y)))::e) H):=by rw[HL];simp[KJ]
def AC5:IC P .rem t (.int k x) (.int k y) d K e H=(y≠0/\K ((d,.int k (x.tmod y))::e) H):=by rw[HL];simp[KJ]
def ADB:IC P .eql t (.int k x) (.int k y) d K e H=K ((d,.bool (x==y))::e) H:=by rw[HL];simp[KJ]
def AC7:IC P .neq t (.int k x) (.int k y) d K e H=K ((d,.bool (x !=y))::e) H:=by rw[HL];simp[KJ]
def AC9:IC P .lss t (.int k x) (.int k y) d K e H=K ((d,.bool (decide (x<y)))::e) H:=by rw[HL];simp[KJ]
def AC_:IC P .leq t (.int k x) (.int k y) d K e H=K ((d,.bool (decide (x<=y)))::e) H:=by rw[HL];simp[KJ]
def AC':IC P .gtr t (.int k x) (.int k y) d K e H=K ((d,.bool (decide (y<x)))::e) H:=by rw[HL];simp[KJ]
def ADA:IC P .geq t (.int k x) (.int k y) d K e H=K ((d,.bool (decide (y<=x)))::e) H:=by rw[HL];simp[KJ]
end
def xx{t:TypeId}{x y:ByteArray}:IC P .eql t (.str x) (.str y) d K e H=K ((d,.bool (x.toList==y.toList))::e) H:=by rw[PH];simp[KJ]
def xw{t:TypeId}{x y:ByteArray}:IC P .neq t (.str x) (.str y) d K e H=K ((d,.bool !(x.toList==y.toList))::e) H:=by rw[PH];simp[KJ]
def V1(P:Program)(t:TypeId):Bool:=match P.underlying t with|some .bool=>true|_=>false
def xz{t:TypeId}{x y:Bool}(hp:V1 P t=true):IC P .eql t (.bool x) (.bool y) d K e H=K ((d,.bool (x==y))::e) H:=by
 unfold V1 at hp
 split at hp
 ·rename_i hu;simp[IC,KI,KM,hu]
 ·cases hp
def xy{t:TypeId}{x y:Bool}(hp:V1 P t=true):IC P .neq t (.bool x) (.bool y) d K e H=K ((d,.bool !(x==y))::e) H:=by
 unfold V1 at hp
 split at hp
 ·rename_i hu;simp[IC,KI,KM,hu]
 ·cases hp
def Xw(t:TypeId)(x i:Operand):Ie P n h ops ⟨some d,.indexAddr t x i,ty,ps,af,none⟩ K (p::e) H =
  (d<n/\bnd (Lv P (P.underlying t) (G6 P none (p::e) x).borrow (G6 P none (p::e) i).borrow) d K (p::e) H):=by
 rw[F_ _ rfl]
 simp only[F0,HQ,Op.operands,GF,AS,Ah,put,Gj]
 congr 1
 generalize (G6 P none (p::e) x).borrow=a
 generalize (G6 P none (p::e) i).borrow=b
 unfold Fh
 dsimp only
 cases b with
 | int k i =>
  dsimp only[Lv]
  cases hu:P.underlying t with
  |none=>rfl
  | some dd=>cases dd with
   | slice el=>cases a with
    | sl own es =>
     dsimp only
     by_cases h0:0<=i
     ·simp only[h0,true_and,if_true]
      cases hi:es[i.toNat]? with
      |none=>simp[bnd]
      | some v =>
       by_cases hc:v.cells.length=P.cellsOf el/\0<P.cellsOf el
       ·obtain⟨h1,h2⟩:=hc
        simp only[BY,h1,h2,and_self,if_true,bnd]
        simp[h1]
       ·simp only[BY,iN hc,bnd,eq_iff_iff,iff_false]
        rintro ⟨v',hv,h1,h2,_⟩
        cases hv
        exact hc ⟨h1,h2⟩
     ·simp[h0,bnd]
    | msl ob off len sz =>
     dsimp only
     by_cases hc:0<=i/\i<len/\sz=P.cellsOf el/\0<sz
     ·rw[iP hc];simp only[hc.1,hc.2.1,hc.2.2.1,true_and,bnd]
      have:=hc.2.2.2
      rw[hc.2.2.1]at this
      simp[this]
     ·rw[iN hc];simp only[bnd,eq_iff_iff,iff_false]
      rintro ⟨h1,h2,h3,h4,_⟩
      exact hc ⟨h1,h2,h3,h4⟩
    |_=>rfl
   | array m el=>cases a with
    | ptr ob off =>
     dsimp only
     by_cases hc:0<=i/\i<m/\0<P.cellsOf el
     ·rw[iP hc];simp only[hc.1,hc.2.1,hc.2.2,true_and,bnd]
     ·rw[iN hc];simp only[bnd,eq_iff_iff,iff_false]
      rintro ⟨h1,h2,h3,_⟩
      exact hc ⟨h1,h2,h3⟩
    | cptr cs off =>
     dsimp only
     by_cases hc:0<=i/\i<m/\0<P.cellsOf el
     ·rw[iP hc];simp only[hc.1,hc.2.1,hc.2.2,true_and,bnd]
     ·rw[iN hc];simp only[bnd,eq_iff_iff,iff_false]
      rintro ⟨h1,h2,h3,_⟩
      exact hc ⟨h1,h2,h3⟩
    |_=>rfl
   |_=>cases a<;>rfl
 |_=>rfl
def yL(t:TypeId)(x i:Operand):Ie P n h ops ⟨some d,.index t x i,ty,ps,af,none⟩ K (p::e) H =
  (d<n/\bnd (Uw P (P.underlying t) (G6 P none (p::e) x).borrow (G6 P none (p::e) i).borrow) d K (p::e) H):=by
 rw[F_ _ rfl]
 simp only[F0,HQ,Op.operands,GF,AS,Ah,put,Gj]
 congr 1
 generalize (G6 P none (p::e) x).borrow=a
 generalize (G6 P none (p::e) i).borrow=b
 unfold Fh
 dsimp only
 cases b with
 | int k i =>
  dsimp only[Uw]
  cases hu:P.underlying t with
  |none=>rfl
  | some dd=>cases dd with
   | string=>cases a with
    | str s =>
     dsimp only
     by_cases hc:0<=i/\i<s.size
     ·rw[iP hc];simp only[hc.1,hc.2,true_and,bnd]
     ·rw[iN hc];simp only[bnd,eq_iff_iff,iff_false]
      rintro ⟨h1,h2,_⟩
      exact hc ⟨h1,h2⟩
    |_=>rfl
   | array m el=>cases a with
    | agg cs =>
     dsimp only
     by_cases hc:0<=i/\i<m/\0<P.cellsOf el
     ·rw[iP hc];simp only[hc.1,hc.2.1,hc.2.2,true_and]
      cases Ll P el cs (i.toNat*P.cellsOf el)<;>simp[bnd]
     ·rw[iN hc];simp only[bnd,eq_iff_iff,iff_false]
      rintro ⟨h1,h2,h3,_⟩
      exact hc ⟨h1,h2,h3⟩
    |_=>rfl
   |_=>cases a<;>rfl
 |_=>rfl
def Gy(xs:Array Operand):((#[]:Array Operand)++xs).toList=xs.toList:=sm
def pF(x y:Operand)(t:TypeId):Ie P n h ops ⟨some d,.call ⟨.builtin .append,#[x,y],#[t,t]⟩,ty,ps,af,none⟩ K (p::e) H =
  (d<n/\AVO P (h.mt.contains d) (h.tk.contains d) (h.pc.contains d) t (JL P [x,y] (p::e)).1 d K (JL P [x,y] (p::e)).2 H):=by
 rw[F_ _ rfl]
 simp only[F0,HQ,Op.operands,Call.operands,Gy,NN,put,Gj]
 congr 1
 generalize hg:JL P [x,y] (p::e)=r
 unfold Fh AVO
 dsimp only
 generalize r.1=vs
 cases vs with
 |nil=>rfl
 | cons v vs=>cases vs with
  |nil=>rfl
  | cons v2 vs=>cases vs with
   |nil =>
    dsimp only
    rw[iP rfl]
    cases P.underlying t with
    |none=>rfl
    |some dd=>cases dd<;>rfl
   |cons v3 vs=>rfl
def yB(el:TypeId)(mt ln:Bool)(xs:List AV)(a:AV):AfM P el mt ln (some xs) a d K e H=jY P el mt ln H a xs d K e:=AG rfl rfl
def AGH(el:TypeId)(rd:Bool)(o:Option Nat)(xs:List AV):S' P el rd H (.sl o xs)=some xs:=rfl
def jT{el:TypeId}{ob off len sz:Nat}{cs:List AV}(ho:H[ob]? =some (some cs))(h1:off+len*sz<=cs.length)(h2:sz=P.cellsOf el)(h3:R6 P el=true\/sz=1):S' P el true H (.msl ob off len sz)=some (Ho (R6 P el) sz len ((cs.drop off).map borrow1)):=by
 simp only[S',ho]
 rw[iP ⟨h1,h2,h3⟩]
def AGN(el:TypeId)(ln:Bool)(o:Option Nat)(es xs:List AV):jY P el false ln H (.sl o es) xs d K e=((∀x∈xs,x.cells.length=P.cellsOf el)/\o=some (P.cellsOf el)/\(es.length+xs.length)*P.bytesOf el<=140737488355328/\es.length+xs.length<=9223372036854775807/\K ((d,.sl (bif ln then none else some (P.cellsOf el)) (es++xs))::e) H):=AG rfl rfl
def zt(o:Option (Option (List AV)))(F:List AV->Prop):Prop:=match o with
 |some (some cs)=>F cs
 |_=>False
def sE(cs:List AV)(F:List AV->Prop):zt (some (some cs)) F=F cs:=AG rfl rfl
def ADL(el:TypeId)(ln:Bool)(ob off len sz:Nat)(xs:List AV):jY P el true ln H (.msl ob off len sz) xs d K e=((∀x∈xs,x.cells.length=P.cellsOf el)/\off=0/\sz=P.cellsOf el/\(len+xs.length)*P.bytesOf el<=140737488355328/\len+xs.length<=9223372036854775807 /\
  zt H[ob]? λcs=>cs.length=len*sz/\cs.map borrow1=cs/\K ((d,.msl H.length 0 (len+xs.length) (P.cellsOf el))::e) (H.set ob none++[some (cs++(HP xs).map borrow1)])):=by
 unfold jY N9 zt
 rfl
def yF(el:TypeId)(ln:Bool)(ob off len sz c:Nat)(xs:List AV):jY P el true ln H (.mslc ob off len sz c) xs d K e=((∀x∈xs,x.cells.length=P.cellsOf el)/\off=0/\sz=P.cellsOf el/\(len+xs.length)*P.bytesOf el<=140737488355328/\len+xs.length<=9223372036854775807 /\
  zt H[ob]? λcs=>cs.length=len*sz/\cs.map borrow1=cs/\K ((d,.msl H.length 0 (len+xs.length) (P.cellsOf el))::e) (H.set ob none++[some (cs++(HP xs).map borrow1)])):=by
 unfold jY N9 zt
 rfl
def ADK(el:TypeId)(ln:Bool)(xs:List AV):jY P el true ln H (.sl (some 0) []) xs d K e=((∀x∈xs,x.cells.length=P.cellsOf el)/\0<xs.length/\xs.length*P.bytesOf el<=140737488355328/\xs.length<=9223372036854775807/\K ((d,.msl H.length 0 xs.length (P.cellsOf el))::e) (H++[some ((HP xs).map borrow1)])):=AG rfl rfl
def ADT(f:Operand)(xs:Array Operand)(ts:Array TypeId)(dd:Option Tmp):Ie P n h ops ⟨dd,.call ⟨.value f,xs,ts⟩,ty,ps,af,none⟩ K (p::e) H =
  (Gj n dd/\AHJ P (dd.any h.pc.contains) (dd.any h.mt.contains) (JL P (f::xs.toList) (p::e)).1 dd K (JL P (f::xs.toList) (p::e)).2 H):=by
 rw[F_ _ rfl]
 have e1:(#[f]++xs:Array Operand).toList=f::xs.toList:=sm
 simp only[F0,HQ,Op.operands,Call.operands,e1,NN]
 congr 1
def bW(fn:Fn)(xs ys:Array Operand):Ie P n h ops ⟨some d,.makeFunc fn xs ys,ty,ps,af,none⟩ K (p::e) H =
  (d<n/\K ((d,.fn fn (xs.toList.map λx=>(G6 P none (p::e) x).borrow) (ys.toList.map λx=>(G6 P none (p::e) x).borrow))::p::e) H):=by
 rw[F_ _ rfl]
 simp only[F0,HQ,Op.operands,DA,GF,List.map_append,Fh,put,Gj]
 congr 3
 rw[show xs.size=(xs.toList.map λx=>(G6 P none (p::e) x).borrow).length by simp,List.take_left,List.drop_left]
def ACG{z:List AV}{f:List AV->Option (List AV)}:(∃z' cs,some (AV.agg z)=some (AV.agg z')/\f z'=some cs/\K ((d,.agg cs)::e) H)=bnd ((f z).map .agg) d K e H:=by
 cases hf:f z<;>simp[bnd,hf]
def yP(t:TypeId)(qs:Array (Nat×Operand)):Ie P n h ops ⟨some d,.build t qs,ty,ps,af,none⟩ K (p::e) H =
  (d<n/\bnd (ST P t (qs.toList.map (·.1)) (JL P (qs.toList.map (·.2)) (p::e)).1) d K (JL P (qs.toList.map (·.2)) (p::e)).2 H):=by
 rw[F_ _ rfl]
 simp only[F0,HQ,Op.operands,NN,put,Gj]
 congr 1
 generalize hg:JL P (qs.toList.map (·.2)) (p::e)=r
 unfold Fh ST
 dsimp only
 cases P.underlying t with
 |none=>rfl
 | some dd=>cases dd with
  | struct fs =>
   dsimp only
   by_cases hf:NL P fs=true
   ·simp only[hf,true_and,if_true]
    cases Fk P t with
    |none=>simp[bnd]
    | some z=>cases z with
     |agg z =>
      exact ACG
     |_=>simp[bnd]
   ·simp[hf,bnd]
  | array m el =>
   dsimp only
   by_cases hf:(P.info? el).isSome=true
   ·simp only[hf,true_and,if_true]
    cases Fk P t with
    |none=>simp[bnd]
    | some z=>cases z with
     |agg z =>
      exact ACG
     |_=>simp[bnd]
   ·simp[hf,bnd]
  |_=>rfl
def We(t len:Nat)(qs:Array (Nat×Operand)):Ie P n h ops ⟨some d,.buildSlice t len qs,ty,ps,af,none⟩ K (p::e) H =
  (d<n/\AIS P (h.mt.contains d) t len (qs.toList.map (·.1)) (qs.toList.map λq=>(G6 P none (p::e) q.2).borrow) d K (p::e) H):=by
 rw[F_ _ rfl]
 simp only[F0,HQ,Op.operands,GF,put,Gj]
 congr 1
 unfold Fh AIS
 dsimp only
 rw[show((qs.toList.map (·.2)).toArray.toList.map λx=>(G6 P none (p::e) x).borrow)=qs.toList.map λq=>(G6 P none (p::e) q.2).borrow by simp]
 cases P.underlying t with
 |none=>rfl
 |some dd=>cases dd<;>rfl
def yJ(t:TypeId)(x:Operand)(lo hi mx:Option Operand):Ie P n h ops ⟨some d,.slice t x lo hi mx,ty,ps,af,none⟩ K (p::e) H =
  (d<n/\zk P (h.mt.contains d) t lo.isSome hi.isSome mx.isSome (JL P (x::(lo.toList++hi.toList++mx.toList)) (p::e)).1 d K (JL P (x::(lo.toList++hi.toList++mx.toList)) (p::e)).2 H):=by
 rw[F_ _ rfl]
 have e1:(#[x]++lo.toArray++hi.toArray++mx.toArray:Array Operand).toList=x::(lo.toList++hi.toList++mx.toList):=by
  cases lo<;>cases hi<;>cases mx<;>simp
 simp only[F0,HQ,Op.operands,e1,NN,put,Gj]
 congr 1
def AGO(x y:Operand)(ts:Array TypeId):Ie P n h ops ⟨some d,.call ⟨.builtin .min,#[x,y],ts⟩,ty,ps,af,none⟩ K (p::e) H =
  (d<n/\mmK true [(G6 P none (p::e) x).borrow,(G6 P none (p::e) y).borrow] d K (p::e) H):=by
 rw[F_ _ rfl]
 simp only[F0,HQ,Op.operands,Call.operands,Gy,GF,AS,Ah,put,Gj]
 congr 1
def AGP(x y:Operand)(ts:Array TypeId):Ie P n h ops ⟨some d,.call ⟨.builtin .max,#[x,y],ts⟩,ty,ps,af,none⟩ K (p::e) H =
  (d<n/\mmK false [(G6 P none (p::e) x).borrow,(G6 P none (p::e) y).borrow] d K (p::e) H):=by
 rw[F_ _ rfl]
 simp only[F0,HQ,Op.operands,Call.operands,Gy,GF,AS,Ah,put,Gj]
 congr 1
def AE7(k:IntKind)(a b:Int):mmK true [.int k a,.int k b] d K e H=K ((d,.int k (if b<a then b else a))::e) H:=by simp[mmK]
def AE8(k:IntKind)(a b:Int):mmK false [.int k a,.int k b] d K e H=K ((d,.int k (if b>a then b else a))::e) H:=by simp[mmK]
def jd(s t:TypeId)(x:Operand):Ie P n h ops ⟨some d,.convert s t x,ty,ps,af,none⟩ K (p::e) H =
  (d<n/\AHH P (P.underlying s) (P.underlying t) (G6 P none (p::e) x).borrow d K (p::e) H):=by
 rw[F_ _ rfl]
 simp only[F0,HQ,Op.operands,GF,AS,Ah,put,Gj]
 congr 1
def Xv(t:TypeId)(x y:Operand):Ie P n h ops ⟨some d,.makeSlice t x y,ty,ps,af,none⟩ K (p::e) H =
  (d<n/\mkK P t [(G6 P none (p::e) x).borrow,(G6 P none (p::e) y).borrow] d K (p::e) H):=by
 rw[F_ _ rfl]
 simp only[F0,HQ,Op.operands,GF,AS,Ah,put,Gj]
 congr 1
 unfold Fh mkK
 dsimp only
 cases(G6 P none (p::e) x).borrow<;>cases(G6 P none (p::e) y).borrow<;>rfl
def AVT(P:Program)(mt:Bool)(el:TypeId)(d:Tmp)(K:Kt)(e:Fs)(H:cj):Prop:=match mt with
 |true=>AA1 P el=true/\K ((d,.ptr H.length 0)::e) (H++[some [.sl (some 0) []]])
 |false => ∃z,Fk P el=some z/\K ((d,.ptr H.length 0)::e) (H++[some z.cells])
def AVS(el:TypeId):AVT P false el d K e H = ∃z,Fk P el=some z/\K ((d,.ptr H.length 0)::e) (H++[some z.cells]):=AG rfl rfl
def AVR(el:TypeId):AVT P true el d K e H=(AA1 P el=true/\K ((d,.ptr H.length 0)::e) (H++[some [.sl (some 0) []]])):=AG rfl rfl
def yR(el:TypeId):Ie P n h ops ⟨some d,.alloc el,ty,ps,af,none⟩ K (p::e) H =
  (d<n/\AVT P (h.mt.contains d) el d K (p::e) H):=by
 rw[F_ _ rfl]
 have e1:(#[]:Array Operand).toList=[]:=rfl
 simp only[F0,HQ,Op.operands,e1,GF,Ah,put,Gj]
 rfl
def AFn(P:Program)(t:TypeId)(x:AV)(K:Kt)(e:Fs)(H:cj):Prop :=
 match x with
 | .msl ob off len sz=>match P.underlying t with
  |some (.slice el)=>match H[ob]? with
   |some (some cs) => ∃z,Fk P el=some z/\sz=z.cells.length/\0<len/\off+len*sz<=cs.length/\K e (H.set ob (some (splice cs off (Gb z len))))
   |_=>False
  |_=>False
 |_=>False
def yO(x:Operand)(t:TypeId):Ie P n h ops ⟨none,.call ⟨.builtin .clear,#[x],#[t]⟩,ty,ps,af,none⟩ K (p::e) H =
  AFn P t (G6 P none (p::e) x).borrow K (p::e) H:=by
 rw[F_ _ rfl]
 simp only[F0,HQ,Op.operands,Call.operands,Gy,GF,AS,Ah,put,Gj]
 rw[true_and]
 unfold Fh AFn
 dsimp only
 generalize (G6 P none (p::e) x).borrow=v
 cases v<;>rfl
def AFq(P:Program)(t:TypeId)(x:AV)(d:Tmp)(K:Kt)(e:Fs)(H:cj):Prop :=
 match x with
 |.mslc _ _ _ _ c=>match P.underlying t with
  |some (.slice _)=>K ((d,.int .i64 c)::e) H
  |_=>False
 |_=>False
def AGR(x:Operand)(t:TypeId):Ie P n h ops ⟨some d,.call ⟨.builtin .cap,#[x],#[t]⟩,ty,ps,af,none⟩ K (p::e) H =
  (d<n/\AFq P t (G6 P none (p::e) x).borrow d K (p::e) H):=by
 rw[F_ _ rfl]
 simp only[F0,HQ,Op.operands,Call.operands,Gy,GF,AS,Ah,put,Gj]
 congr 1
 unfold Fh AFq
 dsimp only
 generalize (G6 P none (p::e) x).borrow=v
 cases v<;>rfl
def AFk(P:Program)(t:TypeId)(a b:AV)(d:Tmp)(K:Kt)(e:Fs)(H:cj):Prop:=To P t a b H λv H'=>K ((d,v)::e) H'
def ADS(x y:Operand)(t t':TypeId):Ie P n h ops ⟨some d,.call ⟨.builtin .copy,#[x,y],#[t,t']⟩,ty,ps,af,none⟩ K (p::e) H =
  (d<n/\AFk P t (G6 P none (p::e) x).borrow (G6 P none (p::e) y).borrow d K (p::e) H):=by
 rw[F_ _ rfl]
 simp only[F0,HQ,Op.operands,Call.operands,Gy,GF,AS,Ah,put,Gj]
 congr 1
def AGM(P:Program)(t t':TypeId)(mt:Bool)(vs:List AV)(d:Tmp)(K:Kt)(e:Fs)(H:cj):Prop :=
 match vs with
 |[a,b]=>apz P t t' mt a b H λv H'=>K ((d,v)::e) H'
 |_=>False
def je(x y:Operand)(t t':TypeId)(hn:(t==t')=false):Ie P n h ops ⟨some d,.call ⟨.builtin .append,#[x,y],#[t,t']⟩,ty,ps,af,none⟩ K (p::e) H =
  (d<n/\AGM P t t' (h.mt.contains d) (JL P [x,y] (p::e)).1 d K (JL P [x,y] (p::e)).2 H):=by
 rw[F_ _ rfl]
 simp only[F0,HQ,Op.operands,Call.operands,Gy,NN,put,Gj]
 congr 1
 generalize hg:JL P [x,y] (p::e)=r
 unfold Fh AGM
 dsimp only
 generalize r.1=vs
 cases vs with
 |nil=>rfl
 | cons v vs=>cases vs with
  |nil=>rfl
  | cons v2 vs=>cases vs with
   |nil =>
    dsimp only
    rw[iN (by simpa using hn)]
    rfl
   |cons v3 vs=>rfl
def xK{f:FuncId}{vs:List AV}{dd:Option Tmp}{v:AV}(hc:QP P f vs H v)(hk:K (put dd v e) H):pY P f vs dd K e H:=⟨v,.inr hc,hk⟩
def ACW{t el:TypeId}{a b:AV}{ob off len sz m:Nat}{gr:Bool}{cs X:List AV}(hu:P.underlying t=some (.slice el))(hrow:nq a=some (ob,off,len,sz,gr))(hm:zl b=some m)(ho:H[ob]? =some (some cs))(h1:sz=P.cellsOf el)
  (h2:(P.info? el).isSome=true)(h3:cs.map borrow1=cs)(h4:off<=cs.length)(h5:gr=true\/off+Nat.min m len*sz<=cs.length)(hs:ip P el H (Nat.min m len) b=some X)
  (hk:K ((d,.int .i64 (Nat.min m len:Nat))::e) (H.set ob (some (cs.take off++X.map borrow1++cs.drop (off+Nat.min m len*sz))))):AFk P t a b d K e H:=by
 unfold AFk To
 simp only[hu,hrow,hm,ho,hs]
 exact⟨⟨h1,h2,h3,h4,h5⟩,hk⟩
end
end Go.AI
namespace Go.AI
attribute [go_sem] Option.getD_some Option.getD_none true_and and_true false_and and_false
 dT dF Au List.any_nil Bool.or_false Bool.or_true Bool.true_or Bn Bp Be Bool.and_false Bool.false_and As Aw
 List.contains_cons List.contains_nil cond_true cond_false List.nil_append AJ AD AS Ah Bool.or_self Bool.and_self Bb List.getElem?_cons_succ A7
 BY Option.bind_none BQ Option.map_none Option.some.injEq List.set_cons_zero List.set_cons_succ List.cons_append List.append_assoc DC Option.any_none
 Af Int.toNat_natCast B8 List.take_zero Cq BC A5 List.flatMap_nil beq_iff_eq bne_iff_ne ne_eq not_true_eq_false not_false_eq_true
 List.getElem?_nil Option.isSome_some Option.isSome_none Option.toList_some Option.toList_none if_true if_false Bx AU BA
 Nat.mul_zero Nat.mul_one Cd CJ GR
def JH(P:Program)(t:TypeId):Option (Option Nat) :=
 match P.underlying t with
 |some (.struct _)=>some (some (P.cellsOf t))
 |some (.array _ _)=>some (some (P.cellsOf t))
 |some _=>some none
 |none=>none
def ldx(k:Option (Option Nat))(cs:List AV)(off:Nat):Option AV :=
 match k with
 |some (some n)=>if off+n<=cs.length then some (.agg ((cs.drop off).take n))else none
 |some none=>cs[off]?
 |none=>none
def Fb(P:Program)(s f:Nat):Option (TypeId×Nat):=(fieldAt P s f).map λfd=>(fd.type,fd.offset)
def na(P:Program)(fp:Option (TypeId×Nat))(x:AV):Option AV :=
 match fp with
 |some (t,o)=>if 0<P.cellsOf t then rl x o else none
 |none=>none
def nZ(P:Program)(fp:Option (TypeId×Nat))(x:AV):Option AV :=
 match fp,x with
 |some (t,o),.agg cs=>ldx (JH P t) cs o
 |_,_=>none
inductive BK where
 |none
 |struct (ps:List (Nat×Nat))
 |array (c:Nat)
def KE(P:Program)(t:TypeId):BK :=
 match P.underlying t with
 |some (.struct fs)=>if NL P fs=true then .struct (Iw P fs).toList else .none
 |some (.array _ e)=>if(P.info? e).isSome=true then .array (P.cellsOf e)else .none
 |_ => .none
def vb(k:BK)(z:Option AV)(is:List Nat)(vs:List AV):Option AV :=
 match k,z with
 |.struct ps,some (.agg z)=>(IJ (λi=>ps[i]?) z is vs).map .agg
 |.array c,some (.agg z)=>(IJ (λi=>some (i*c,c)) z is vs).map .agg
 |_,_=>Option.none
section
variable{P:Program}
def ABD(t:TypeId)(cs:List AV)(off:Nat):Ll P t cs off=ldx (JH P t) cs off:=by
 unfold Ll ldx JH
 cases P.underlying t with
 |none=>rfl
 |some d=>cases d<;>rfl
def AE'(cs:List AV)(off:Nat):ldx (some none) cs off=cs[off]?:=rfl
def ABC(n:Nat)(cs:List AV)(off:Nat):ldx (some (some n)) cs off=if off+n<=cs.length then some (.agg ((cs.drop off).take n))else none:=rfl
def rn(s f:Nat)(x:AV):SS P (fieldAt P s f) x=na P (Fb P s f) x:=by
 unfold SS na Fb
 cases fieldAt P s f<;>rfl
def iQ(t o:Nat)(x:AV):na P (some (t,o)) x=if 0<P.cellsOf t then rl x o else none:=rfl
def zO(s f:Nat)(x:AV):YV P (fieldAt P s f) x=nZ P (Fb P s f) x:=by
 unfold YV nZ Fb
 cases fieldAt P s f with
 |none=>rfl
 |some fd=>cases x<;>first|rfl|exact ABD _ _ _
def iO(t o:Nat)(cs:List AV):nZ P (some (t,o)) (.agg cs)=ldx (JH P t) cs o:=rfl
def zQ(a b k:Nat):rl (.ptr a b) k=some (.ptr a (b+k)):=rfl
def rk(cs:List AV)(b k:Nat):rl (.cptr cs b) k=some (.cptr cs (b+k)):=rfl
def rq(t:TypeId)(is:List Nat)(vs:List AV):ST P t is vs=vb (KE P t) (Fk P t) is vs:=by
 unfold ST KE
 cases P.underlying t with
 |none=>rfl
 | some d=>cases d with
  | struct fs =>
   dsimp only
   by_cases hf:NL P fs=true
   ·rw[iP hf,iP hf]
    cases Fk P t with
    |none=>rfl
    |some z=>cases z<;>first|rfl|(dsimp only[vb];simp only[Ac])
   ·rw[iN hf,iN hf];rfl
  | array m e =>
   dsimp only
   by_cases hf:(P.info? e).isSome=true
   ·rw[iP hf,iP hf]
    cases Fk P t with
    |none=>rfl
    |some z=>cases z<;>rfl
   ·rw[iN hf,iN hf];rfl
  |_=>rfl
def ri(ps:List (Nat×Nat))(z:List AV)(is:List Nat)(vs:List AV):vb (.struct ps) (some (.agg z)) is vs=(IJ (λi=>ps[i]?) z is vs).map .agg:=rfl
def zL(c:Nat)(z:List AV)(is:List Nat)(vs:List AV):vb (.array c) (some (.agg z)) is vs=(IJ (λi=>some (i*c,c)) z is vs).map .agg:=rfl
def nc(place:Nat->Option (Nat×Nat))(cells:List AV):IJ place cells [] []=some cells:=rfl
def iX(place:Nat->Option (Nat×Nat))(cells:List AV)(i:Nat)(is:List Nat)(v:AV)(vs:List AV):IJ place cells (i::is) (v::vs)=match place i with
  |some (off,size)=>if v.isVal=true/\v.cells.length=size/\off+size<=cells.length then IJ place (splice cells off v.cells) is vs else none
  |none=>none:=rfl
def dV(a:AV)(cs:List AV)(o:Nat)(xs:List AV):splice (a::cs) (o+1) xs=a::splice cs o xs:=by
 unfold splice
 rw[Nat.add_right_comm,B8,Cq]
 rfl
def dW{cs xs:List AV}(h:cs.length=xs.length):splice cs 0 xs=xs:=by
 unfold splice
 rw[AU,<- h,DD]
 simp
def Hq(cs xs:List AV):List AV:=splice cs 0 xs
def dU{cs xs:List AV}:splice cs 0 xs=if cs.length=xs.length then xs else Hq cs xs:=by
 by_cases h:cs.length=xs.length
 ·rw[iP h,dW h]
 ·rw[iN h];rfl
def rm{P:Program}{H:cj}(tk:Bool)(t:TypeId)(ob off:Nat):YW P tk t (.ptr ob off) H=match H[ob]? with
  | some (some cs)=>match Ll P t cs off with
   |some v=>match tk with
    |true=>if v.owned=true/\v.scalar=true then some (v,H.set ob (some (splice cs off (v.cells.map borrow1))))else none
    |false=>some (v.borrow,H)
   |none=>none
  |_=>none:=rfl
def lS{P:Program}{H:cj}(tk:Bool)(t:TypeId)(cs:List AV)(off:Nat):YW P tk t (.cptr cs off) H=match Ll P t cs off with
  |some v=>some (v.borrow,H)
  |none=>none:=rfl
def lQ{P:Program}{H:cj}(t:TypeId)(ob off:Nat)(v:AV):Uv P t (.ptr ob off) v H=match H[ob]? with
  |some (some cs)=>if v.isVal=true/\v.cells.length=P.cellsOf t/\0<P.cellsOf t/\off+P.cellsOf t<=cs.length then some (H.set ob (some (splice cs off v.cells)))else none
  |_=>none:=rfl
attribute [go_sem] stK zR zN OZ zS vUn Lv Uw Pv AHH mkK qD AVO AIS zk N7 KF AHJ
end
end Go.AI
namespace Go.AI
section
variable{P:Program}{F:Nat->Prop}{G:Gh}{w:World}
def Fa.gc{f:FuncId}{vs:List AV}{H:cj}{R:AV->cj->Prop}(hn:∀v H1,R v H1->H.length<=H1.length)
  (h:Fa P f vs H λv H' => ∃H1 junk,H'=H1++junk/\v.bnd H1.length=true/\R0 H1/\R v H1):Fa P f vs H R :=
 ⟨h.1,λF G w us hc=>Calls.mono (h.2 F G w us hc) λe w' he=>by
  obtain⟨u,rfl,v,H',G',⟨H1,junk,rfl,h1,h2,h3⟩,hcr,hext⟩:=he
  refine⟨u,rfl,v,H1,G'.cut H1.length,h3,hcr.cut h1 h2,hext.size,⟨λo b ho=>?_,hext.keeps.shape,hext.keeps.sp,hext.keeps.safe⟩,hext.kind,hext.cells,hext.io⟩
  have hlt:o<H.length:=by rw[<- hc.h.len];exact(AC.1 ho).1
  have:=hn v H1 h3
  show(G'.obs.take H1.length)[o]? =some b
  rw[Bv FR]
  exact hext.keeps.obs o b ho⟩
def CRel.lend{vs:List AV}{H:cj}{us:List Value}(h:Ec F G vs H us w):Ec F G (vs.map AV.borrow) H us w:=by
 refine⟨⟨by simpa using h.l.len,λi a u h1 h2=>?_,λi a u h1 h2=>?_⟩,h.h,λb=>?_⟩
 ·rw[Aa]at h1
  cases hi:vs[i]? with
  |none=>rw[hi]at h1;cases h1
  |some x=>rw[hi]at h1;cases h1;exact(h.l.rel i x u hi h2).borrow
 ·rw[Aa]at h1
  cases hi:vs[i]? with
  |none=>rw[hi]at h1;cases h1
  |some x=>rw[hi]at h1;cases h1;exact Fj (Gc _ _) F G w
 ·have h0:HA b (vs.map AV.borrow) us=0:=by
   have:∀(l:List AV) (us:List Value),HA b (l.map AV.borrow) us=0:=by
    intro l
    induction l with
    |nil=>intro us;exact GS b us
    |cons x xs ih =>
     intro us
     cases us with
     |nil=>simp[HA]
     |cons u us=>rw[AS,Fc,Gc,ih];rfl
   exact this vs us
  have:=h.cnt b
  omega
def Fa.lend{f:FuncId}{vs:List AV}{H:cj}{R:AV->cj->Prop}(h:Fa P f (vs.map AV.borrow) H R):Fa P f vs H R :=
 ⟨h.1,λF G w us hc=>h.2 F G w us hc.lend⟩
def KL.lend{f:FuncId}{vs:List AV}{Q:AV->Prop}(h:KL P f (vs.map AV.borrow) Q):KL P f vs Q:=λH=>(h H).lend
def FT.lend{f:FuncId}{vs:List AV}{v:AV}(h:FT P f (vs.map AV.borrow) v):FT P f vs v:=λH=>(h H).lend
end
end Go.AI
namespace Go.AI
inductive Rd (P:Program):TypeId->AV->Prop where
 |bool {t:TypeId} (b:Bool) (h:P.underlying t=some .bool):Rd P t (.bool b)
 |int {t:TypeId} {k:IntKind} {n:Int} (h:P.underlying t=some (.int k)) (hw:k.min<=n/\n<=k.max):Rd P t (.int k n)
 |str {t:TypeId} {s:ByteArray} (h:P.underlying t=some .string) (hs:s.size<=reachBytes):Rd P t (.str s)
 |slice {t e:TypeId} {es:List AV} (h:P.underlying t=some (.slice e)) (hl:es.length<=maxLen) (hb:es.length*P.bytesOf e<=reachBytes) (he:∀x∈es,Rd P e x):Rd P t (.sl none es)
 | struct {t:TypeId} {fs:Array Field} {parts:List AV} (h:P.underlying t=some (.struct fs)) (hl:parts.length=fs.size)
   (hp:∀(i:Nat) (f:Field) (x:AV),fs[i]? =some f->parts[i]? =some x->Rd P f.type x):Rd P t (.agg (HP parts))
 |array {t e:TypeId} {n:Nat} {parts:List AV} (h:P.underlying t=some (.array n e)) (hl:parts.length=n) (hp:∀x∈parts,Rd P e x):Rd P t (.agg (HP parts))
def Js(P:Program):Nat->List Field->Nat->Bool
 |off,[],total=>off==total
 |off,f::fs,total=>f.offset==off&&Js P (off+P.cellsOf f.type) fs total
def zW(P:Program)(S:List TypeId):Bool:=S.all λt=>match P.underlying t with
 |some .bool|some (.int _)|some .string=>P.cellsOf t==1
 |some (.slice e)=>P.cellsOf t==1&&S.contains e&&decide (0<P.cellsOf e)
 |some (.struct fs)=>Js P 0 fs.toList (P.cellsOf t)&&fs.toList.all λf=>S.contains f.type
 |some (.array n e)=>S.contains e&&P.cellsOf t==n*P.cellsOf e
 |_=>false
mutual
def AV.bulk:AV->Nat
 |.str s=>s.size+1
 |.sl _ es=>1+FU es
 |.agg cs=>FU cs
 |.tup cs=>FU cs
 |_=>1
def FU:List AV->Nat
 |[]=>0
 |a::l=>a.bulk+FU l
end
structure BulkOk {H:Type} (μ:DataW H->Nat):Prop where
 one:∀d,1<=μ d
 str:∀s:List UInt8,s.length+1<=μ (.lit (.string s))
 sl:∀es sp,1+(es.map μ).sum<=μ (.slice es sp)
 agg:∀ps,(ps.map μ).sum<=μ (.agg ps)
def N2(l l':List AV):FU (l++l')=FU l+FU l':=by
 induction l with
 |nil=>simp[FU]
 |cons a l ih=>simp[FU,ih];omega
def jG(a:AV):FU a.cells=a.bulk:=by
 cases a<;>simp[AV.cells,FU,AV.bulk]
def ZQ(es:List AV):FU (HP es)=FU es:=by
 induction es with
 |nil=>rfl
 |cons e es ih =>
  have:HP (e::es)=e.cells++HP es:=by simp[HP]
  rw[this,N2,jG,ih];rfl
def WV{D:Type}{μ:D->Nat}: ∀{es:List AV} {ds:List D},es.length=ds.length->(∀(i:Nat) (x:AV) (d:D),es[i]? =some x->ds[i]? =some d->x.bulk<=μ d)->FU es<=(ds.map μ).sum
 |[],_,_,_=>by simp[FU]
 |e::es,[],h,_=>by simp at h
 |e::es,d::ds,hl,h=>by
  have h0:=h 0 e d rfl rfl
  have h1:=WV (es:=es) (ds:=ds) (by simpa using hl) λi x y hx hy=>h (i+1) x y (by simpa using hx) (by simpa using hy)
  simp only[FU,AS,B2]
  omega
structure FitL (G:Gh) (w:World) (as:List AV) (cs:List Value):Prop where
 len:as.length=cs.length
 sc:∀c∈as,c.scalar=true/\GB c=false
 rel:∀(i:Nat) (c:AV) (v:Value),as[i]? =some c->cs[i]? =some v->Eb G w c v
section
variable{P:Program}{G:Gh}{w:World}
def FitL.nil:FitL G w [] []:=⟨rfl,λc hc=>by simp at hc,λi c v h=>by simp at h⟩
def FitL.append{as bs:List AV}{cs ds:List Value}(h:FitL G w as cs)(h':FitL G w bs ds):FitL G w (as++bs) (cs++ds):=by
 refine⟨by simp[h.len,h'.len],λc hc=>?_,λi c v h1 h2=>?_⟩
 ·rcases Ar.1 hc with hc|hc
  ·exact h.sc c hc
  ·exact h'.sc c hc
 ·have:=h.len
  by_cases hi:i<as.length
  ·rw[AX hi]at h1
   rw[AX FR]at h2
   exact h.rel i c v h1 h2
  ·rw[AN FR]at h1
   rw[AN FR]at h2
   exact h'.rel (i - as.length) c v h1 (by rw[h.len];exact h2)
def FitL.one{c:AV}{v:Value}(hs:c.scalar=true)(ho:GB c=false)(h:Eb G w c v):FitL G w [c] [v]:=by
 refine⟨rfl,λd hd=>by simp at hd;subst hd;exact⟨hs,ho⟩,λi d u h1 h2=>?_⟩
 cases i with
 |zero=>simp at h1 h2;subst h1;subst h2;exact h
 |succ i=>simp at h1
def O7{α:Type}{p:Nat->α->Prop}: ∀ (n:Nat),(∀ i,i<n -> ∃ x,p i x) -> ∃ l:List α,l.length=n /\ ∀ (i:Nat) (x:α),l[i]? =some x->p i x
 | 0,_=>⟨[],rfl,λi x h=>by simp at h⟩
 | n+1,h=>by
  obtain⟨l,h1,h2⟩:=O7 n λi hi=>h i FR
  obtain⟨x,hx⟩:=h n FR
  refine⟨l++[x],by simp[h1],λi y hy=>?_⟩
  by_cases hi:i<l.length
  ·rw[AX hi]at hy;exact h2 i y hy
  ·rw[AN FR]at hy
   have h0:i - l.length=0:=by
    have:=(AC.1 hy).1
    simp at this;omega
   rw[h0]at hy
   simp at hy
   have:i=n:=FR
   subst this;subst hy;exact hx
def AFp{es:List AV}{n i:Nat}{c:AV}(hn:∀e∈es,e.cells.length=n)(h:(HP es)[i]? =some c): ∃(k j:Nat) (x:AV),i=k*n+j/\j<n/\es[k]? =some x/\x.cells[j]? =some c:=by
 induction es generalizing i with
 |nil=>simp[HP]at h
 | cons e es ih =>
  simp only[HP,A5]at h
  have he:=hn e sm
  by_cases hi:i<n
  ·rw[AX FR]at h
   exact⟨0,i,e,FR,hi,rfl,h⟩
  ·rw[AN FR,he]at h
   obtain⟨k,j,x,h1,h2,h3,h4⟩:=ih (λe he=>hn e (by simp[he])) h
   exact⟨k+1,j,x,by rw[Az];omega,h2,by simpa using h3,h4⟩
section
variable{H:Type}{enc:TypeId×Value->H}{base:Nat}{held:Bool}
def Lt{e:TypeId}: ∀{ds:List (DataW H)} {d:DataW H},d∈ds -> ∀m∈d.weights P e,m∈DataW.weightsAll P e ds
 |x::ds,d,hd,m,hm=>by
  simp only[DataW.weightsAll,Ar]
  rcases AY.1 hd with rfl|hd
  ·exact .inl hm
  ·exact .inr (Lt hd m hm)
def Yc{a:Addr}{v:Value}(h:w.cell? a=some v):a.spot=none:=by
 unfold World.cell? at h
 split at h
 ·split at h
  ·cases h
  ·rename_i hs;simpa using hs
 ·cases h
def fit_fields {S:List TypeId} {rec:TypeId->List Value->Option (DataW H×List MemPlace)} {cs:List Value}
  (hrec:∀t cs d ps,t∈S->rec t cs=some (d,ps)->(∀m∈d.weights P t,m<=reachBytes) -> ∃a,Rd P t a/\FitL G w a.cells cs /\ ∀μ:DataW H->Nat,BulkOk μ->a.bulk<=μ d) :
  ∀(fs:List Field) (off:Nat) (xs:List (DataW H×List MemPlace)),Js P off fs cs.length=true->(∀f∈fs,f.type∈S)->off<=cs.length ->
   fs.mapM (λf=>rec f.type ((cs.drop f.offset).take (P.cellsOf f.type)))=some xs->(∀m∈DataW.weightsEach P (fs.map (·.type)) (xs.map (·.1)),m<=reachBytes) ->
   ∃parts,parts.length=fs.length/\(∀(i:Nat) (f:Field) (x:AV),fs[i]? =some f->parts[i]? =some x->Rd P f.type x)/\FitL G w (HP parts) (cs.drop off) /\ ∀μ:DataW H->Nat,BulkOk μ->FU parts<=((xs.map (·.1)).map μ).sum
 |[],off,xs,hf,_,hle,hm,_=>by
  simp only[Js,beq_iff_eq]at hf
  subst hf
  exact⟨[],rfl,λi f x h=>by simp at h,by simpa [HP]using FitL.nil,fun μ _=>by simp[FU]⟩
 | f::fs,off,xs,hf,hS,hle,hm,hw=>by
  simp only[Js,AM,beq_iff_eq]at hf
  obtain⟨hoff,hf⟩:=hf
  subst hoff
  simp only[C6,Option.bind_eq_bind]at hm
  cases h1:rec f.type ((cs.drop f.offset).take (P.cellsOf f.type))with
  |none=>rw[h1]at hm;simp at hm
  | some x =>
   rw[h1]at hm
   simp only[BY]at hm
   cases h2:fs.mapM (λf=>rec f.type ((cs.drop f.offset).take (P.cellsOf f.type)))with
   |none=>rw[h2]at hm;simp at hm
   | some ys =>
    rw[h2]at hm
    simp only[BY]at hm
    cases hm
    simp only[AS,DataW.weightsEach,Ar]at hw
    have hle':∀(fs:List Field) (o:Nat),Js P o fs cs.length=true->o<=cs.length:=by
     intro fs
     induction fs with
     |nil=>intro o h;simp only[Js,beq_iff_eq]at h;omega
     |cons g gs ih=>intro o h;simp only[Js,AM,beq_iff_eq]at h;have:=ih _ h.2;omega
    have hle2:=hle' fs _ hf
    obtain⟨a,ha,hfa,hba⟩:=hrec _ _ x.1 x.2 (hS f sm) h1 λm hm=>hw m (.inl hm)
    obtain⟨parts,p1,p2,p3,p4⟩:=fit_fields hrec fs (f.offset+P.cellsOf f.type) ys hf (λg hg=>hS g (by simp[hg])) hle2 h2 λm hm=>hw m (.inr hm)
    refine⟨a::parts,by simp[p1],λi g y hg hy=>?_, ?_,fun μ hμ=>?_⟩
    ·cases i with
     |zero=>simp at hg hy;subst hg;subst hy;exact ha
     |succ i=>exact p2 i g y (by simpa using hg) (by simpa using hy)
    ·have e:cs.drop f.offset=(cs.drop f.offset).take (P.cellsOf f.type)++cs.drop (f.offset+P.cellsOf f.type):=by
      rw[<- A9,A_]
     rw[e]
     simp only[HP,A5]
     exact hfa.append p3
    ·have h1:=hba μ hμ
     have h2:=p4 μ hμ
     simp only[FU,AS,B2]
     omega
def xD{n:Nat}{parts:List AV}{cs:List Value}(hp:∀(i:Nat) (x:AV),parts[i]? =some x->FitL G w x.cells ((cs.drop (i*n)).take n))(hc:cs.length=parts.length*n):FitL G w (HP parts) cs:=by
 induction parts generalizing cs with
 |nil=>simp at hc;subst hc;simpa [HP]using FitL.nil
 | cons x xs ih =>
  have h0:=hp 0 x rfl
  simp only[CJ,BC]at h0
  have h1:=ih (cs:=cs.drop n) (λi y hy=>by
   have:=hp (i+1) y (by simpa using hy)
   rw[A9]
   rw[Az,Cd,Bk]at this
   exact this) (by simp at hc ⊢;rw[Az]at hc;omega)
  have:=h0.append h1
  rw[A_]at this
  simpa [HP]using this
def U_{S:List TypeId}(hS:zW P S=true)(hG : ∀ b,G.kind b = .imm): ∀ (fuel:Nat) (t:TypeId) (cs:List Value) (d:DataW H) (ps:List MemPlace),t∈S ->
  DataW.trod enc P w base (λ_=>true) held fuel t cs=some (d,ps)->(∀m∈d.weights P t,m<=reachBytes) -> ∃a,Rd P t a/\FitL G w a.cells cs /\ ∀μ:DataW H->Nat,BulkOk μ->a.bulk<=μ d
 | 0,t,cs,d,ps,_,h,_=>by simp[DataW.trod]at h
 | fuel+1,t,cs,d,ps,ht,h,hw=>by
  have ih:=U_ hS hG fuel
  have hst:=Am.1 hS t ht
  unfold DataW.trod at h
  cases hu:P.underlying t with
  |none=>rw[hu]at hst;cases hst
  | some dd =>
   rw[hu]at hst h
   cases dd<;>try (cases hst;done)
   case bool =>
    dsimp only at h
    split at h
    case h_1=>rename_i b hd;exact⟨.bool b,.bool b hu,.one rfl rfl (.bool b),fun μ hμ=>hμ.one _⟩
    all_goals first|(simp at *;done)|(rename_i heq _;cases heq)
   case int k =>
    dsimp only at h
    split at h
    case h_2 =>
     rename_i k1 k2 n hd
     cases hd
     split at h
     ·rename_i hk
      obtain⟨rfl,hk⟩:=hk
      simp only[Lit.wf,AM,decide_eq_true_eq]at hk
      exact⟨.int k2 n,.int hu hk,.one rfl rfl (.int _ _),fun μ hμ=>hμ.one _⟩
     ·cases h
    all_goals first|(simp at *;done)|(rename_i heq _;cases heq)
   case string =>
    dsimp only at h
    split at h
    case h_4 =>
     rename_i s hd
     split at h
     ·cases h
      simp only[DataW.weights,Ab,forall_eq]at hw
      exact⟨.str s,.str hu (by simpa using hw),.one rfl rfl (.str s),fun μ hμ=>by have:=hμ.str s.data.toList;simpa [AV.bulk]using this⟩
     ·cases h
    all_goals first|(simp at *;done)|(rename_i heq _;cases heq)
   case slice e =>
    simp only[AM,beq_iff_eq,Dh,decide_eq_true_eq]at hst
    obtain⟨⟨_,he⟩,hpos⟩:=hst
    dsimp only at h
    split at h
    case h_7=>exact⟨.sl none [],.slice hu sm sm  (λx hx=>by simp at hx),.one rfl rfl (.slnil _),fun μ hμ=>by have:=hμ.one d;simpa [AV.bulk,FU]using this⟩
    case h_8 =>
     rename_i e' a len cap hd
     cases hd
     split at h
     case isFalse=>cases h
     rename_i hcond
     cases hm:(Ak len).mapM λi=>(w.cells? base (a.add (i*P.cellsOf e)) (P.cellsOf e)).bind (DataW.trod enc P w base (λ_=>true) held fuel e)with
     |none=>rw[hm]at h;simp at h
     | some elems =>
      rw[hm]at h
      simp only[BY,if_true]at h
      cases hr:(Ak (cap - len)).mapM λj=>(w.cells? base (a.add ((len+j)*P.cellsOf e)) (P.cellsOf e)).bind (DataW.trod enc P w base (λ_=>true) held fuel e)with
      |none=>rw[hr]at h;simp at h
      | some rest =>
       rw[hr]at h
       simp only[BQ,Option.some.injEq,Prod.mk.injEq]at h
       obtain⟨rfl,_⟩:=h
       simp only[DataW.weights,hu,AY,Ar,List.length_map]at hw
       have hel:=mapM_some_length hm
       simp only[Di]at hel
       have hb:(elems.length+rest.length)*P.bytesOf e<=reachBytes:=hw _ (.inl rfl)
       have hb2:len*P.bytesOf e<=reachBytes:=AL (Nat.mul_le_mul_right _ FR) hb
       have hat:∀i,i<len -> ∃x,Rd P e x/\(∃ci,w.cells? base (a.add (i*P.cellsOf e)) (P.cellsOf e)=some ci/\FitL G w x.cells ci) /\ ∀y,elems[i]? =some y -> ∀μ:DataW H->Nat,BulkOk μ->x.bulk<=μ y.1:=by
        intro i hi
        have hg:=mapM_some_get hm i i (by simp[hi])
        have hlt:i<elems.length:=FR
        rw[AH hlt]at hg
        cases hc:w.cells? base (a.add (i*P.cellsOf e)) (P.cellsOf e)with
        |none=>rw[hc]at hg;simp at hg
        |some ci =>
         rw[hc]at hg
         simp only[BY]at hg
         obtain⟨x,hx,hf,hbx⟩:=ih e ci elems[i].1 elems[i].2 he hg λm hm=>hw m (.inr (.inl (Lt (AO.2 ⟨elems[i],CV hlt,rfl⟩) m hm)))
         exact⟨x,hx,⟨ci,rfl,hf⟩,λy hy μ hμ=>by rw[AH hlt]at hy;cases hy;exact hbx μ hμ⟩
       have hspot:0<cap->a.spot=none:=by
        intro hc0
        by_cases h0:0<len
        ·obtain⟨x,_,⟨ci,hci,_⟩,_⟩:=hat 0 h0
         obtain⟨_,h1,h2⟩:=World.cells?_some hci
         have h3:=h2 0 hpos
         rw[CJ,show(a.add 0).add 0=a from rfl]at h3
         have hlt:0<ci.length:=FR
         rw[AH hlt]at h3
         exact Yc h3
        ·have hg:=mapM_some_get hr 0 0 (by rw[List.getElem?_range FR])
         have hrl:=mapM_some_length hr
         simp only[Di]at hrl
         have hlt:0<rest.length:=FR
         rw[AH hlt]at hg
         have hl0:len=0:=FR
         subst hl0
         cases hc:w.cells? base (a.add ((0+0)*P.cellsOf e)) (P.cellsOf e)with
         |none=>rw[hc]at hg;simp at hg
         |some ci =>
          obtain⟨_,h1,h2⟩:=World.cells?_some hc
          have h3:=h2 0 hpos
          rw[BA,CJ,show(a.add 0).add 0=a from rfl]at h3
          have hlt:0<ci.length:=FR
          rw[AH hlt]at h3
          exact Yc h3
       obtain⟨es,hes,hes2⟩:=O7 len hat
       have hrd:∀x∈es,Rd P e x:=λx hx=>by
        obtain⟨i,hi⟩:=Ae hx
        exact(hes2 i x hi).1
       refine⟨.sl none es,.slice hu FR (by rw[hes];exact hb2) hrd,.one rfl rfl ?_,fun μ hμ=>AL (Nat.add_le_add_left (WV (ds:=elems.map (·.1)) Hy λi x d hx hd=>by
        rw[Aa]at hd
        cases hy:elems[i]? with
        |none=>rw[hy]at hd;cases hd
        |some y=>rw[hy]at hd;cases hd;exact(hes2 i x hx).2.2 y hy μ hμ) 1) (hμ.sl _ _)⟩
       by_cases hc0:0<cap
       ·have hsp:=hspot hc0
        have hsz:∀x∈es,x.cells.length=P.cellsOf e:=λx hx=>by
         obtain⟨i,hi⟩:=Ae hx
         obtain⟨_,⟨ci,hci,hf⟩,_⟩:=hes2 i x hi
         rw[hf.len];exact(World.cells?_some hci).2.1
        have haddr:a=⟨a.block,a.off,none⟩:=by cases a;simp at hsp;subst hsp;rfl
        have key:∀(i:Nat) (c:AV),(HP es)[i]? =some c->c.scalar=true /\ ∃v,w.cell? ⟨a.block,a.off+i,none⟩=some v/\Eb G w c v:=by
         intro i c hi
         obtain⟨k,j,x,h1,h2,h3,h4⟩:=AFp hsz hi
         obtain⟨_,⟨ci,hci,hf⟩,_⟩:=hes2 k x h3
         obtain⟨_,g1,g2⟩:=World.cells?_some hci
         have g3:=g2 j h2
         have hlt:j<ci.length:=FR
         rw[AH hlt]at g3
         rw[haddr,G7,G7]at g3
         refine⟨(hf.sc c (AB h4)).1,ci[j], ?_,hf.rel j c _ h4 (AH hlt)⟩
         rw[h1,<- Ay];exact g3
        rw[haddr]
        have:=VRel.sl (G:=G) (w:=w) none es (P.cellsOf e) a.block a.off cap (λi=>(w.cell? ⟨a.block,a.off+i,none⟩).getD Go.undef) hsz (λn hn=>by cases hn) FR hcond.2.2
         (λi c hi=>by
          obtain⟨s,v,hv,_⟩:=key i c hi
          exact⟨s,by simp[Gh.safe,hG],by rw[hv];rfl⟩)
         (λi c hi=>by
          obtain⟨_,v,hv,hr⟩:=key i c hi
          rw[hv];exact hr)
        rw[hes]at this
        exact this
       ·have h0:cap=0:=FR
        have h1:len=0:=FR
        subst h0;subst h1
        have:es=[]:=List.eq_nil_of_length_eq_zero hes
        subst this
        exact .slany none a
    all_goals first|(simp at *;done)|(rename_i heq _;cases heq)
   case struct fs =>
    simp only[AM,Am,Dh]at hst
    dsimp only at h
    split at h
    case isFalse=>cases h
    rename_i hlen
    cases hm:fs.toList.mapM λf=>DataW.trod enc P w base (λ_=>true) held fuel f.type ((cs.drop f.offset).take (P.cellsOf f.type))with
    |none=>rw[hm]at h;simp at h
    | some xs =>
     rw[hm]at h
     simp only[BQ,Option.some.injEq,Prod.mk.injEq]at h
     obtain⟨rfl,_⟩:=h
     simp only[DataW.weights,hu]at hw
     obtain⟨parts,p1,p2,p3,p4⟩:=fit_fields (G:=G) (w:=w) (P:=P) (S:=S) ih fs.toList 0 xs (by rw[hlen];exact hst.1) hst.2 (BU _) hm hw
     exact⟨.agg (HP parts),.struct hu (by simpa using p1) (λi f x hf hx=>p2 i f x (by simpa using hf) hx),by simpa [AV.cells]using p3,fun μ hμ=>by
      have h1:=p4 μ hμ
      have h2:=hμ.agg (xs.map (·.1))
      simp only[AV.bulk,ZQ]
      omega⟩
   case array n e =>
    simp only[AM,beq_iff_eq,Dh]at hst
    dsimp only at h
    split at h
    case isFalse=>cases h
    rename_i hlen
    cases hm:(Ak n).mapM λi=>DataW.trod enc P w base (λ_=>true) held fuel e ((cs.drop (i*P.cellsOf e)).take (P.cellsOf e))with
    |none=>rw[hm]at h;simp at h
    | some xs =>
     rw[hm]at h
     simp only[BQ,Option.some.injEq,Prod.mk.injEq]at h
     obtain⟨rfl,_⟩:=h
     simp only[DataW.weights,hu]at hw
     have hxl:=mapM_some_length hm
     simp only[Di]at hxl
     obtain⟨parts,q1,q2⟩:=O7 (p:=λi x=>Rd P e x/\FitL G w x.cells ((cs.drop (i*P.cellsOf e)).take (P.cellsOf e)) /\ ∀y,xs[i]? =some y -> ∀μ:DataW H->Nat,BulkOk μ->x.bulk<=μ y.1) n λi hi=>by
      have hg:=mapM_some_get hm i i (by simp[hi])
      have hlt:i<xs.length:=FR
      rw[AH hlt]at hg
      obtain⟨x,hx1,hx2,hx3⟩:=ih e _ xs[i].1 xs[i].2 hst.1 hg λm hm=>hw m (Lt (AO.2 ⟨xs[i],CV hlt,rfl⟩) m hm)
      exact⟨x,hx1,hx2,λy hy μ hμ=>by rw[AH hlt]at hy;cases hy;exact hx3 μ hμ⟩
     refine⟨.agg (HP parts),.array hu q1 (λx hx=>?_), ?_,fun μ hμ=>?_⟩
     ·obtain⟨i,hi⟩:=Ae hx
      exact(q2 i x hi).1
     ·exact xD (λi x hx=>(q2 i x hx).2.1) (by rw[q1,hlen,hst.2])
     ·have h1:=WV (μ:=μ) (es:=parts) (ds:=xs.map (·.1)) Hy λi x d hx hd=>by
       rw[Aa]at hd
       cases hy:xs[i]? with
       |none=>rw[hy]at hd;cases hd
       |some y=>rw[hy]at hd;cases hd;exact(q2 i x hx).2.2 y hy μ hμ
      have h2:=hμ.agg (xs.map (·.1))
      simp only[AV.bulk,ZQ]
      omega
end
end
end Go.AI
namespace Go.AI
open Go.RowKit Go.ChangeShapes
def Gg(P:Program):List TypeId->List AV->Prop
 |[],[]=>True
 |t::ts,a::as=>Rd P t a/\Gg P ts as
 |_,_=>False
section
variable{P:Program}{G:Gh}{w:World}{H:Type}{enc:TypeId×Value->H}{base:Nat}
def Oi{a:AV}(hv:a.isVal=true)(h:∀c∈a.cells,GB c=false):a.owned=false:=by
 unfold AV.owned
 rw[List.any_eq_false]
 intro c hc
 have:a.flat=a.cells:=by cases a<;>first|rfl|cases hv
 rw[this]at hc
 simp[h c hc]
def AGI{t:TypeId}{a:AV}{v:Value}(hr:Rd P t a)(hf:FitL G w a.cells v.cells.toList)(hok:Value.okWide P w .any base t v):Eb G w a v/\a.owned=false:=by
 have one:∀(a:AV) (v:Value),a.scalar=true->a.cells=[a]->(∀cs,v ≠ .agg cs)->FitL G w a.cells v.cells.toList->Eb G w a v:=by
  intro a v h1 h2 h3 h4
  have h5:v.cells=#[v]:=by cases v<;>first|rfl|exact absurd rfl (h3 _)
  rw[h2,h5]at h4
  exact h4.rel 0 a v rfl rfl
 have noAgg:∀(u:TypeDesc),P.underlying t=some u->(u = .bool\/(∃k,u = .int k)\/u = .string \/ ∃e,u = .slice e) -> ∀cs,v ≠ .agg cs:=by
  intro u hu hk cs hv
  subst hv
  rcases hk with rfl|⟨k,rfl⟩|rfl|⟨e,rfl⟩<;>simp[Value.okWide,hu,Cell.okWide,Cell.ok]at hok
 cases hr with
 |bool b h=>exact⟨one _ _ rfl rfl (noAgg _ h (.inl rfl)) hf,rfl⟩
 |int h hw=>exact⟨one _ _ rfl rfl (noAgg _ h (.inr (.inl ⟨_,rfl⟩))) hf,rfl⟩
 |str h hs=>exact⟨one _ _ rfl rfl (noAgg _ h (.inr (.inr (.inl rfl)))) hf,rfl⟩
 |slice h hl hb he=>exact⟨one _ _ rfl rfl (noAgg _ h (.inr (.inr (.inr ⟨_,rfl⟩)))) hf,rfl⟩
 |struct h hl hp =>
  refine⟨?_,Oi rfl λc hc=>(hf.sc c hc).2⟩
  simp only[Value.okWide,h]at hok
  obtain⟨cs,rfl,_⟩:=hok
  exact .agg _ _ (by simpa [AV.cells,Value.cells]using hf.len) (λc hc=>(hf.sc c hc).1) λi c x h1 h2=>hf.rel i c x h1 (by simpa [Value.cells]using h2)
 |array h hl hp =>
  refine⟨?_,Oi rfl λc hc=>(hf.sc c hc).2⟩
  simp only[Value.okWide,h]at hok
  obtain⟨cs,rfl,_⟩:=hok
  exact .agg _ _ (by simpa [AV.cells,Value.cells]using hf.len) (λc hc=>(hf.sc c hc).1) λi c x h1 h2=>hf.rel i c x h1 (by simpa [Value.cells]using h2)
def jV{S:List TypeId}(hS:zW P S=true)(hG : ∀ b,G.kind b = .imm): ∀ (ts:List TypeId) (vs:List Value) (ds:List (DataW H)) (ps:List MemPlace),(∀ t∈ts,t∈S) ->
  DataW.TrodAll enc P w 0 (λ_=>true) true ts vs ds ps->(∀m∈DataW.weightsEach P ts ds,m<=reachBytes)->(∀(j:Nat) t v,ts[j]? =some t->vs[j]? =some v->Value.okWide P w .any base t v) ->
  ∃as,Gg P ts as/\as.length=vs.length/\(∀(i:Nat) (a:AV) (v:Value),as[i]? =some a->vs[i]? =some v->Eb G w a v/\a.owned=false) /\ ∀μ:DataW H->Nat,BulkOk μ->FU as<=(ds.map μ).sum
 |[],vs,ds,ps,_,h,_,_=>by
  obtain⟨rfl,rfl,rfl⟩:=trodAll_nil h
  exact⟨[],trivial,rfl,λi a v h=>by simp at h,fun μ _=>by simp[FU]⟩
 | t::ts,vs,ds,ps,hin,h,hw,hok=>by
  obtain⟨v,vs',d,ds',p,q,rfl,rfl,rfl,⟨fuel,h1⟩,h2⟩:=trodAll_cons h
  simp only[DataW.weightsEach,Ar]at hw
  obtain⟨a,ha,hf,hba⟩:=U_ hS hG fuel t _ d p (hin t sm) h1 λm hm=>hw m (.inl hm)
  obtain⟨as,g1,g2,g3,g4⟩:=jV hS hG ts vs' ds' q (λt ht=>hin t (by simp[ht])) h2 (λm hm=>hw m (.inr hm)) λj t v h1 h2=>hok (j+1) t v (by simpa using h1) (by simpa using h2)
  refine⟨a::as,⟨ha,g1⟩,by simp[g2],λi x y hx hy=>?_,fun μ hμ=>?_⟩
  ·cases i with
   |zero =>
    simp at hx hy
    subst hx;subst hy
    exact AGI ha hf (hok 0 t v rfl rfl)
   |succ i=>exact g3 i x y (by simpa using hx) (by simpa using hy)
  ·have h1:=hba μ hμ
   have h2:=g4 μ hμ
   simp only[FU,AS,B2]
   omega
def QC(hl:laidOutB P=true){W W':World}(hb:Below W.heap.size W W'): ∀(ts:List TypeId) (vs:List Value) (ds:List (DataW H)) (ps:List MemPlace),(∀t∈ts,P.readableRec t=true/\t<P.types.size) ->
  DataW.TrodAll enc P W 0 (λ_=>true) true ts vs ds ps->(∀x∈ps,x.block<W.heap.size)->DataW.TrodAll enc P W' 0 (λb=>decide (b<W.heap.size)) true ts vs ds ps
 |[],vs,ds,ps,_,h,_=>by
  obtain⟨rfl,rfl,rfl⟩:=trodAll_nil h
  rfl
 | t::ts,vs,ds,ps,hr,h,hlt=>by
  obtain⟨v,vs',d,ds',p,q,rfl,rfl,rfl,h1,h2⟩:=trodAll_cons h
  exact⟨p,q,Below.trod hl (hr t sm).1 (hr t sm).2 h1 hb λx hx=>hlt x (by simp[hx]),
   QC hl hb ts vs' ds' q (λt ht=>hr t (by simp[ht])) h2 λx hx=>hlt x (by simp[hx]),rfl⟩
def r7{as:List AV}{us:List Value}(hg:yy ⟨[],λ_ => .imm⟩ w)(hlen:as.length=us.length)(hrel:∀(i:Nat) (a:AV) (v:Value),as[i]? =some a->us[i]? =some v->Eb ⟨[],λ_ => .imm⟩ w a v/\a.owned=false):
  Ec (λb=>b<w.heap.size) ⟨[],λ_ => .imm⟩ as [] us w:=by
 refine⟨⟨hlen,λi a u h1 h2=>(hrel i a u h1 h2).1,λi a u h1 h2=>Fj (GP (hrel i a u h1 h2).2 u) _ _ _⟩,⟨rfl,λo cs b h=>by simp at h,λo o' cs cs' b h=>by simp at h,λb h=>h,hg⟩,λb=>?_⟩
 have h0:HA b as us=0:=by
  have:¬0<HA b as us:=λhp=>by
   obtain⟨i,a,u,h1,h2,p,hp,ht⟩:=RQ as us hp
   have h3:=GP (hrel i a u h1 h2).2 u
   have:b∈Gs a u:=List.mem_filterMap.2 ⟨p,hp,ht⟩
   rw[h3]at this
   cases this
  omega
 rw[h0]
 simp[IM]
def aL{C:Checked}{f:FuncId}{fn:Func}{s:ChangeSpec}{apart handsOn:Bool}{tb:TypeId}(S:List TypeId)
  (hl:laidOutB C.prog=true)(hS:zW C.prog S=true)(hpar:∀t∈fn.params.toList,t∈S/\C.prog.readableRec t=true/\t<C.prog.types.size)
  (hres:fn.resultTypes=#[tb])(htb:C.prog.underlying tb=some .bool)(hv:s.vars=[])
  (hs:∀(H:Type) (ds:List (DataW H)),ds.length=fn.params.size->s.fn H ds={ results:=[.lit (.bool true)],args:=ds })
  (W:World)(hglob:yy ⟨[],λ_ => .imm⟩ W)(base:Nat)(args:Array Value)(ds gs:List (DataW H))(before:List MemPlace)
  (law:∀as,Gg C.prog fn.params.toList as->(∀μ:DataW H->Nat,BulkOk μ->FU as<=(ds.map μ).sum)->FT C.prog f as (.bool true))
  (hval:∀(j:Nat) t v,fn.params[j]? =some t->args[j]? =some v->Value.okWide C.prog W .any base t v)
  (hW:DataW.Whole enc C.prog fn.params.toList s.vars apart W args.toList ds gs before)
  (hwt:(DataW.weightsEach C.prog (fn.params.toList++s.plain.varTypes C.prog) (ds++gs)).all (· <= reachBytes)=true):
  Calls C.prog f args W λe W' => ∃v,e = .returned v/\s.post enc C.prog fn apart true handsOn false W args v W':=by
 have hW':=hW
 obtain⟨p,q,hA,hV,rfl,hfz,hnd⟩:=hW
 rw[hv]at hV
 have hg:gs=[]/\q=[]:=by
  cases gs with
  |nil=>simp[DataW.TrodVars]at hV;exact⟨rfl,hV⟩
  |cons g gs=>simp[DataW.TrodVars]at hV
 obtain⟨rfl,rfl⟩:=hg
 have hwt':∀m∈DataW.weightsEach C.prog fn.params.toList ds,m<=reachBytes:=by
  intro m hm
  have e:s.plain.varTypes C.prog=[]:=by
   have:s.plain.vars=[]:=by rw[<- hv];rfl
   simp[DataSpec.varTypes,this]
  rw[e,Af,Af]at hwt
  have:=Am.1 hwt m hm
  simpa using this
 obtain⟨as,h1,h2,h3,h4⟩:=jV (G:=⟨[],λ_ => .imm⟩) (base:=base) hS (λ_=>rfl) fn.params.toList args.toList ds p (λt ht=>(hpar t ht).1) hA hwt' λj t v hj hv=>hval j t v (by simpa using hj) (by simpa using hv)
 have hc:=r7 hglob h2 h3
 have hcall:=(law as h1 h4 []).2 _ _ W args.toList hc
 rw[Array.toArray_toList]at hcall
 refine hcall.mono λe W' he=>?_
 obtain⟨u,rfl,v,H',G',⟨rfl,rfl⟩,hcr,hext⟩:=he
 obtain⟨hu,_,_⟩:=hcr.l.uncons
 have hu':u = .bool true:=by cases hu;rfl
 subst hu'
 have hb:Below W.heap.size W W':=⟨hext.io.1,hext.io.2.1,hext.io.2.2,hext.size,λk hk=>hext.cells k hk⟩
 have hdl:ds.length=fn.params.size:=by
  have:∀(ts:List TypeId) (vs:List Value) (ds:List (DataW H)) (ps:List MemPlace),DataW.TrodAll enc C.prog W 0 (λ_=>true) true ts vs ds ps->ds.length=ts.length:=by
   intro ts
   induction ts with
   |nil=>intro vs ds ps h;obtain⟨_,rfl,_⟩:=trodAll_nil h;rfl
   |cons t ts ih=>intro vs ds ps h;obtain⟨v,vs',d,ds',p,q,_,rfl,_,_,h2⟩:=trodAll_cons h;simp[ih _ _ _ h2]
  simpa using this _ _ _ _ hA
 refine⟨_,rfl,ds,[],p++[],[],p,[],hW', ?_, ?_, ?_,hb.frame _,λh=>by cases h⟩
 ·rw[Af,hs H ds hdl,hres]
  exact trodAll_mk1 ⟨1,by simp[DataW.trod,Value.cells,htb]⟩
 ·rw[Af,hs H ds hdl]
  exact QC hl hb _ _ _ _ (λt ht=>(hpar t ht).2) hA λx hx=>hW'.lt x (by simp[hx])
 ·rw[Af,hs H ds hdl,hv]
  rfl
end
end Go.AI
namespace Go.AI
section
variable{P:Program}{m:Nat}{h:Ed}{ops:Array Oper}{e:Fs}{H:cj}{Q:Exit->Kt}{ar:Option Nat}
def Q_:∀(l:List Oper) (K K':Fs->cj->Prop) (e:Fs) (H:cj),(∀e H,K e H->K' e H)->LO P m h ops l K e H->LO P m h ops l K' e H
 |[],K,K',e,H,hk,ha=>hk e H ha
 |o::l,K,K',e,H,hk,ha=>LF (λe H=>Q_ l K K' e H hk) ha
def GZ : ∀ (c:Code) {ar:Option Nat} (Q Q':Exit->Kt) (e:Fs) (H:cj),(∀ ex e H,Q ex e H->Q' ex e H)->JF P m h ar c Q e H->JF P m h ar c Q' e H
 |.skip,ar,Q,Q',e,H,hq,ha=>hq _ _ _ ha
 |.exit id,ar,Q,Q',e,H,hq,ha=>hq _ _ _ ha
 |.ret,ar,Q,Q',e,H,hq,ha=>hq _ _ _ ha
 |.region id ops draw,ar,Q,Q',e,H,hq,ha=>Q_ _ _ _ _ _ (λ_ _ h=>⟨h.1,hq _ _ _ h.2⟩) ha
 | .seq a b,ar,Q,Q',e,H,hq,ha=>GZ a _ _ e H (λex e H h=>by
   cases ex with
   |normal=>exact GZ b Q Q' e H hq h
   |_=>exact hq _ _ _ h) ha
 | .cond c a b,ar,Q,Q',e,H,hq,ha=>by
  simp only[JF]at ha ⊢
  split at ha
  ·rename_i t ht
   cases t with
   |true=>exact GZ a Q Q' e H hq ha
   |false=>exact GZ b Q Q' e H hq ha
  ·exact ha.elim
 | .block id c,ar,Q,Q',e,H,hq,ha=>GZ c _ _ e H (λex e H h=>by
   cases ex with
   |exit j =>
    dsimp only at h ⊢
    split at h
    ·rename_i hj;rw[iP hj];exact hq _ _ _ h
    ·rename_i hj;rw[iN hj];exact hq _ _ _ h
   |_=>exact hq _ _ _ h) ha
 | .loop c,ar,Q,Q',e,H,hq,ha=>by
  obtain⟨I,μ,h0,hr⟩:=ha
  exact⟨I,μ,h0,λe H hi=>GZ c _ _ e H (λex e H h=>by
   cases ex with
   |normal=>exact h
   |_=>exact hq _ _ _ h) (hr e H hi)⟩
 |.rangeFunc g ps assign body,ar,Q,Q',e,H,hq,ha=>by
  obtain⟨h1,tag,f,first,captured,h2,h3⟩:=ha
  refine⟨h1,tag,f,first,captured,h2,h3.mono λv H2 hp=>?_⟩
  obtain⟨st,av,g1,g2⟩:=hp
  refine⟨st,av,g1, ?_⟩
  rcases g2 with⟨a,b⟩|⟨a,b⟩|⟨k,a,b⟩
  ·exact .inl ⟨a,hq _ _ _ b⟩
  ·exact .inr (.inl ⟨a,hq _ _ _ b⟩)
  ·exact .inr (.inr ⟨k,a,hq _ _ _ b⟩)
 |.scope _,ar,_,_,_,_,_,ha=>ha.elim
 |.label _,ar,_,_,_,_,_,ha=>ha.elim
 |.goto _,ar,_,_,_,_,_,ha=>ha.elim
 |.refuse _,ar,_,_,_,_,_,ha=>ha.elim
def Af4(J:Nat->Kt)(r:Nat)(Q:Exit->Kt)(ex:Exit):Kt:=λe H =>
 match ex with
 |.normal => ∃r',r'<r/\J r' e H
 |ex=>Q ex e H
def N6{c:Code}(J:Nat->Kt)(h0:∃r,J r e H)(round:∀r e H,J r e H->JF P m h ar c (Af4 J r Q) e H):JF P m h ar (.loop c) Q e H:=by
 have hl:∀(e:Fs) (H:cj),∃r,(∃r,J r e H)->J r e H /\ ∀k,J k e H->r<=k:=λe H=>by
  by_cases he:∃r,J r e H
  ·obtain⟨r,h1,h2⟩:=Ru he
   exact⟨r,λ_=>⟨h1,h2⟩⟩
  ·exact⟨0,λh=>absurd h he⟩
 refine⟨λe H => ∃r,J r e H,λe H=>Classical.choose (hl e H),h0,λe H hI=>?_⟩
 obtain⟨h1,h2⟩:=Classical.choose_spec (hl e H) hI
 refine GZ c _ _ e H (λex e' H' hq=>?_) (round _ e H h1)
 cases ex with
 |normal =>
  obtain⟨r',hr,hJ⟩:=hq
  refine⟨⟨r',hJ⟩, ?_⟩
  obtain⟨_,h4⟩:=Classical.choose_spec (hl e' H') ⟨r',hJ⟩
  exact Nat.lt_of_le_of_lt (h4 r' hJ) hr
 |_=>exact hq
end
end Go.AI
namespace Go.AI
def AC3(m:Nat):List Nat:=(Ak (m.log2+1)).filter λi=>m.testBit i
def lvM:Nat->List Nat->List (Nat×List Tmp)
 |_,[]=>[]
 |k,m::l=>(k,AC3 m)::lvM (k+1) l
def hm(l:List Nat)(tk mt pc:List Tmp):Ed:=⟨lvM 0 l,tk,mt,[],pc,[],[]⟩
def hx(l:List Nat)(tk mt:List Tmp)(fz:List (Nat×List (Tmp×Option Nat×Bool)))(pc:List Tmp)(gc:List (Nat×Nat))(dy:List Nat):Ed:=⟨lvM 0 l,tk,mt,fz,pc,gc,dy⟩
def OY{n:Int}(h1 : -9223372036854775808<=n)(h2:n<=9223372036854775807):IntKind.i64.wrap n=n:=IntWalk.i64_in _ ⟨h1,h2⟩
def Mg{k:Nat}(h:k<9223372036854775807):IntKind.i64.wrap ((k:Int)+1)=((k+1:Nat):Int):=by
 rw[OY FR FR];rfl
section
variable{P:Program}{m:Nat}{h:Ed}{e:Fs}{H:cj}{Q:Exit->Kt}{ops:Array Oper}{ar:Option Nat}
def At(e e':Fs)(H H':cj):Prop:=e=e'/\H=H'
def ATI(n:Nat)(E:Nat->Fs)(HH:Nat->cj)(k:Nat)(Q:Exit->Kt)(ex:Exit):Kt:=λe H =>
 match ex with
 |.normal=>k<n/\At e (E (k+1)) H (HH (k+1))
 |ex=>Q ex e H
def iR(n:Nat)(E:Nat->Fs)(HH:Nat->cj)(k:Nat):ATI n E HH k Q .normal e H=(k<n/\At e (E (k+1)) H (HH (k+1))):=AG rfl rfl
def xC(n:Nat)(E:Nat->Fs)(HH:Nat->cj)(k j:Nat):ATI n E HH k Q (.exit j)=Q (.exit j):=AG rfl rfl
def bO{c:Code}(n:Nat)(E:Nat->Fs)(HH:Nat->cj)(he:e=E 0)(hH:H=HH 0)(round:∀k,k<=n->JF P m h ar c (ATI n E HH k Q) (E k) (HH k)):JF P m h ar (.loop c) Q e H:=by
 subst he;subst hH
 refine N6 (λr e H => ∃k,k+r=n/\e=E k/\H=HH k) ⟨n,0,FR,rfl,rfl⟩ λr e H hJ=>?_
 obtain⟨k,hk,rfl,rfl⟩:=hJ
 refine GZ c _ _ _ _ (λex e H hq=>?_) (round k FR)
 cases ex with
 |normal =>
  obtain⟨h1,rfl,rfl⟩:=hq
  exact⟨r - 1,FR,k+1,FR,rfl,rfl⟩
 |_=>exact hq
def whK{σ:Type}(E:σ->Fs)(HH:σ->cj)(I:σ->Prop)(μ:σ->Nat)(s:σ)(Q:Exit->Kt)(ex:Exit):Kt:=λe H =>
 match ex with
 |.normal => ∃s',I s'/\μ s'<μ s/\At e (E s') H (HH s')
 |ex=>Q ex e H
section
variable{σ:Type}
def lP(E:σ->Fs)(HH:σ->cj)(I:σ->Prop)(μ:σ->Nat)(s:σ):whK E HH I μ s Q .normal e H = ∃s',I s'/\μ s'<μ s/\At e (E s') H (HH s'):=AG rfl rfl
def AEU(E:σ->Fs)(HH:σ->cj)(I:σ->Prop)(μ:σ->Nat)(s:σ):whK E HH I μ s Q .ret=Q .ret:=AG rfl rfl
def zI(E:σ->Fs)(HH:σ->cj)(I:σ->Prop)(μ:σ->Nat)(s:σ)(j:Nat):whK E HH I μ s Q (.exit j)=Q (.exit j):=AG rfl rfl
def Ku{c:Code}(E:σ->Fs)(HH:σ->cj)(I:σ->Prop)(μ:σ->Nat)(s:σ)(h0:I s)(he:e=E s)(hH:H=HH s)(round:∀s,I s->JF P m h ar c (whK E HH I μ s Q) (E s) (HH s)):JF P m h ar (.loop c) Q e H:=by
 subst he;subst hH
 refine N6 (λr e H => ∃s,I s/\μ s=r/\e=E s/\H=HH s) ⟨μ s,s,h0,rfl,rfl,rfl⟩ λr e H hJ=>?_
 obtain⟨s,hs,rfl,rfl,rfl⟩:=hJ
 refine GZ c _ _ _ _ (λex e H hq=>?_) (round s hs)
 cases ex with
 |normal =>
  obtain⟨s',h1,h2,rfl,rfl⟩:=hq
  exact⟨μ s',h2,s',h1,rfl,rfl,rfl⟩
 |_=>exact hq
end
section
variable{α σ ρ:Type}
def qJ(F:σ->List α->ρ)(E:Nat->σ->Fs)(HH:Nat->σ->cj)(I:Nat->σ->Prop)(k:Nat)(s:σ)(x:α)(xs:List α)(Q:Exit->Kt)(ex:Exit):Kt:=λe H =>
 match ex with
 |.normal => ∃s',F s (x::xs)=F s' xs/\I (k+1) s'/\At e (E (k+1) s') H (HH (k+1) s')
 |ex=>Q ex e H
def Zs(F:σ->List α->ρ)(E:Nat->σ->Fs)(HH:Nat->σ->cj)(I:Nat->σ->Prop)(k:Nat)(s:σ)(x:α)(xs:List α):qJ F E HH I k s x xs Q .normal e H = ∃s',F s (x::xs)=F s' xs/\I (k+1) s'/\At e (E (k+1) s') H (HH (k+1) s'):=AG rfl rfl
def sC(F:σ->List α->ρ)(E:Nat->σ->Fs)(HH:Nat->σ->cj)(I:Nat->σ->Prop)(k:Nat)(s:σ)(x:α)(xs:List α):qJ F E HH I k s x xs Q .ret=Q .ret:=AG rfl rfl
def lh(F:σ->List α->ρ)(E:Nat->σ->Fs)(HH:Nat->σ->cj)(I:Nat->σ->Prop)(k:Nat)(s:σ)(x:α)(xs:List α)(j:Nat):qJ F E HH I k s x xs Q (.exit j)=Q (.exit j):=AG rfl rfl
def qz(Q:Exit->Kt)(ex:Exit):Kt:=λe H =>
 match ex with
 |.normal=>False
 |ex=>Q ex e H
def ni(j:Nat):qz Q (.exit j)=Q (.exit j):=AG rfl rfl
def Fg{c:Code}(l:List α)(F:σ->List α->ρ)(I:Nat->σ->Prop)(E:Nat->σ->Fs)(HH:Nat->σ->cj)(s0:σ)(hl:l.length<=9223372036854775807)(h0:I 0 s0)(he:e=E 0 s0)(hH:H=HH 0 s0)
  (round:∀k s x xs,l.drop k=x::xs->l[k]? =some x->I k s->F s0 l=F s (x::xs)->0<=(k:Int)->(k:Int)<(l.length:Int)->IntKind.i64.wrap ((k:Int)+1)=((k+1:Nat):Int)->JF P m h ar c (qJ F E HH I k s x xs Q) (E k s) (HH k s))
  (fin:∀s,I l.length s->F s0 l=F s []->JF P m h ar c (qz Q) (E l.length s) (HH l.length s)):JF P m h ar (.loop c) Q e H:=by
 subst he;subst hH
 refine N6 (λr e H => ∃k s,k+r=l.length/\I k s/\F s0 l=F s (l.drop k)/\e=E k s/\H=HH k s) ⟨l.length,0,s0,FR,h0,sm,rfl,rfl⟩ λr e H hJ=>?_
 obtain⟨k,s,hk,hI,hF,rfl,rfl⟩:=hJ
 by_cases hlt:k<l.length
 ·have hx:=AH hlt
  have hd:l.drop k=l[k]::l.drop (k+1):=BG hlt
  rw[hd]at hF
  refine GZ c _ _ _ _ (λex e H hq=>?_) (round k s _ _ hd hx hI hF FR FR  (Mg FR))
  cases ex with
  |normal =>
   obtain⟨s',h1,h2,rfl,rfl⟩:=hq
   exact⟨r - 1,FR,k+1,s',FR,h2,hF.trans h1,rfl,rfl⟩
  |_=>exact hq
 ·have hk':k=l.length:=FR
  subst hk'
  rw[DD]at hF
  refine GZ c _ _ _ _ (λex e H hq=>?_) (fin s hI hF)
  cases ex with
  |normal=>exact hq.elim
  |_=>exact hq
end
end
section
variable{P:Program}{t:TypeId}{a b:AV}{r:Bool}{d:Tmp}{K:Kt}{e:Fs}{H:cj}
def Jw(ha:KM P t a b=some r):IC P .neq t a b d K e H=K ((d,.bool !r)::e) H:=by simp[IC,KI,ha]
end
mutual
def AV.fit:AV->Prop
 |.sl _ es=>es.length<=9223372036854775807/\HU es
 |.agg cs=>HU cs
 |.tup vs=>HU vs
 |_=>True
def HU:List AV->Prop
 |[]=>True
 |v::vs=>v.fit/\HU vs
end
def Fx{vs:List AV}:HU vs ↔ ∀v∈vs,v.fit:=by
 induction vs with
 |nil=>simp[HU]
 |cons x xs ih=>simp[HU,ih]
def ai{a:AV}(h:∀c∈a.cells,c.fit):a.fit:=by
 cases a with
 |agg cs=>exact Fx.2 h
 |_=>exact h _ (by simp[AV.cells])
def VRel.fit{G:Gh}{w:World}{a:AV}{v:Value}(h:Eb G w a v):a.fit:=by
 induction h with
 |sl own es sz b q cap u hsz hown hl hm h hu ih =>
  refine⟨AL hl hm,Fx.2 λx hx=>ai λc hc=>?_⟩
  have:c∈HP es:=Bo.2 ⟨x,hx,hc⟩
  obtain⟨i,hi⟩:=Ae this
  exact ih i c hi
 |slnil own=>exact⟨sm,trivial⟩
 |slany own a=>exact⟨sm,trivial⟩
 |agg cs vs hl hs h ih =>
  refine Fx.2 λc hc=>?_
  obtain⟨i,hi⟩:=Ae hc
  have hlt:=(AC.1 hi).1
  exact ih i c _ hi (Ai FR)
 |tup cs vs hl hs h ih =>
  refine Fx.2 λc hc=>?_
  obtain⟨i,hi⟩:=Ae hc
  have hlt:=(AC.1 hi).1
  exact ih i c _ hi (Ai FR)
 |_=>exact trivial
def CRel.fit{F:Nat->Prop}{G:Gh}{w:World}{vs:List AV}{H:cj}{us:List Value}(h:Ec F G vs H us w):HU vs:=by
 refine Fx.2 λa ha=>?_
 obtain⟨i,hi⟩:=Ae ha
 have hlt:=(AC.1 hi).1
 have:=h.l.len
 exact(h.l.rel i a _ hi (AH FR)).fit
def Fa.fit{P:Program}{f:FuncId}{vs:List AV}{H:cj}{R:AV->cj->Prop}(hcal:HS P f=true)(h:HU vs->Fa P f vs H R):Fa P f vs H R :=
 ⟨hcal,λF G w us hc=>(h hc.fit).2 F G w us hc⟩
def FT.fit{P:Program}{f:FuncId}{vs:List AV}{v:AV}(hcal:HS P f=true)(h:HU vs->FT P f vs v):FT P f vs v:=λH =>
 ⟨hcal,λF G w us hc=>(h hc.fit H).2 F G w us hc⟩
def KL.fit{P:Program}{f:FuncId}{vs:List AV}{Q:AV->Prop}(hcal:HS P f=true)(h:HU vs->KL P f vs Q):KL P f vs Q:=λH =>
 ⟨hcal,λF G w us hc=>(h hc.fit H).2 F G w us hc⟩
section
variable{P:Program}{t e:TypeId}{a:AV}
def yc{k:IntKind}(hu:P.underlying t=some (.int k))(h:Rd P t a): ∃n,a = .int k n/\(k.min<=n/\n<=k.max):=by
 cases h with
 |int h hw=>rw[hu]at h;cases h;exact⟨_,rfl,hw⟩
 |bool b h=>rw[hu]at h;cases h
 |str h=>rw[hu]at h;cases h
 |slice h=>rw[hu]at h;cases h
 |struct h=>rw[hu]at h;cases h
 |array h=>rw[hu]at h;cases h
def Wr(hu:P.underlying t=some .bool)(h:Rd P t a): ∃b,a = .bool b/\True:=by
 cases h with
 |int h hw=>rw[hu]at h;cases h
 |bool b h=>exact⟨_,rfl,trivial⟩
 |str h=>rw[hu]at h;cases h
 |slice h=>rw[hu]at h;cases h
 |struct h=>rw[hu]at h;cases h
 |array h=>rw[hu]at h;cases h
def yb(hu:P.underlying t=some .string)(h:Rd P t a): ∃s,a = .str s/\s.size<=reachBytes:=by
 cases h with
 |int h hw=>rw[hu]at h;cases h
 |bool b h=>rw[hu]at h;cases h
 |str h hs=>exact⟨_,rfl,hs⟩
 |slice h=>rw[hu]at h;cases h
 |struct h=>rw[hu]at h;cases h
 |array h=>rw[hu]at h;cases h
def IW{α:Type}{f:α->AV}{ok:α->Prop}(hu:P.underlying t=some (.slice e))(hd : ∀ x,Rd P e x -> ∃ y,x=f y/\ok y)(h:Rd P t a):
  ∃l:List α,a = .sl none (l.map f)/\l.length*P.bytesOf e<=reachBytes /\ ∀x∈l,ok x:=by
 cases h with
 | slice h hl hb he =>
  rw[hu]at h;cases h
  rename_i es
  have:∃l:List α,es=l.map f /\ ∀x∈l,ok x:=by
   clear hl hb
   induction es with
   |nil=>exact⟨[],rfl,λx hx=>by simp at hx⟩
   | cons x xs ih =>
    obtain⟨y,rfl,hy⟩:=hd x (he x sm)
    obtain⟨l,rfl,hl⟩:=ih λx hx=>he x (by simp[hx])
    exact⟨y::l,rfl,λz hz=>by
     rcases AY.1 hz with rfl|hz
     ·exact hy
     ·exact hl z hz⟩
  obtain⟨l,rfl,hok⟩:=this
  exact⟨l,rfl,by simpa using hb,hok⟩
 |int h hw=>rw[hu]at h;cases h
 |bool b h=>rw[hu]at h;cases h
 |str h=>rw[hu]at h;cases h
 |struct h=>rw[hu]at h;cases h
 |array h=>rw[hu]at h;cases h
def PO(hu:P.underlying t=some (.slice e))(h:Rd P t a): ∃es:List AV,a = .sl none es/\es.length*P.bytesOf e<=reachBytes /\ ∀x∈es,Rd P e x:=by
 cases h with
 |slice h hl hb he =>
  rw[hu]at h;cases h
  exact⟨_,rfl,hb,he⟩
 |int h hw=>rw[hu]at h;cases h
 |bool b h=>rw[hu]at h;cases h
 |str h=>rw[hu]at h;cases h
 |struct h=>rw[hu]at h;cases h
 |array h=>rw[hu]at h;cases h
def aH{α:Type}{f:α->AV}{ok:α->Prop}{es:List AV}(h:∀x∈es,∃y,x=f y/\ok y): ∃l:List α,es=l.map f /\ ∀x∈l,ok x:=by
 induction es with
 |nil=>exact⟨[],rfl,λx hx=>by simp at hx⟩
 | cons x xs ih =>
  obtain⟨y,rfl,hy⟩:=h x sm
  obtain⟨l,rfl,hl⟩:=ih λx hx=>h x (by simp[hx])
  exact⟨y::l,rfl,λz hz=>by
   rcases AY.1 hz with rfl|hz
   ·exact hy
   ·exact hl z hz⟩
def Zr{o:Option Nat}{es cs:List AV}(h:AV.sl o es∈cs):SizeOf.sizeOf es<SizeOf.sizeOf (AV.agg cs):=by
 have h1:=List.sizeOf_lt_of_mem h
 have h2:SizeOf.sizeOf (AV.agg cs)=1+SizeOf.sizeOf cs:=sm
 have h3:SizeOf.sizeOf (AV.sl o es)=1+SizeOf.sizeOf o+SizeOf.sizeOf es:=sm
 omega
def Fw{a:AV}{l:List AV}(h:a∈l):a.bulk<=FU l:=by
 induction l with
 |nil=>cases h
 |cons x l ih =>
  simp only[FU]
  rcases AY.1 h with rfl|h
  ·omega
  ·have:=ih h;omega
def Hc(l:List AV)(a n:Nat):FU ((l.drop a).take n)<=FU l:=by
 have h1:=N2 ((l.drop a).take n) ((l.drop a).drop n)
 have h2:=N2 (l.take a) (l.drop a)
 rw[A_]at h1 h2
 omega
def HK{α:Type}{f:α->AV}(hf:∀x,1<=(f x).bulk)(l:List α):l.length<=FU (l.map f):=by
 induction l with
 |nil=>simp
 |cons x l ih =>
  have:=hf x
  simp only[AD,AS,FU]
  omega
def HD{s:ByteArray}{l:List AV}{B:Nat}(h:AV.str s∈l)(hb:FU l<=B):s.size<=B:=by
 have:=Fw h
 simp only[AV.bulk]at this
 omega
def Gr{o:Option Nat}{es l:List AV}{B:Nat}(h:AV.sl o es∈l)(hb:FU l<=B):FU es<=B:=by
 have:=Fw h
 simp only[AV.bulk]at this
 omega
def AGq(P:Program)(t:TypeId):Option (List TypeId) :=
 match P.underlying t with
 |some (.struct fs)=>some (fs.toList.map (·.type))
 |some (.array n e)=>some (A0 n e)
 |_=>none
def Ye{ts:List TypeId}{ps:List AV}(hl:ps.length=ts.length)(h:∀(i:Nat) (t:TypeId) (x:AV),ts[i]? =some t->ps[i]? =some x->Rd P t x):Gg P ts ps:=by
 induction ts generalizing ps with
 |nil=>cases ps with
  |nil=>trivial
  |cons=>simp at hl
 |cons t ts ih=>cases ps with
  |nil=>simp at hl
  |cons p ps=>exact⟨h 0 t p rfl rfl,ih (by simpa using hl) λi t x h1 h2=>h (i+1) t x (by simpa using h1) (by simpa using h2)⟩
def GJ{ts:List TypeId}(hs:AGq P t=some ts)(h:Rd P t a): ∃ps,a = .agg (HP ps)/\Gg P ts ps:=by
 unfold AGq at hs
 cases h with
 |struct h hl hp =>
  rw[h]at hs;cases hs
  refine⟨_,rfl,Ye (by simpa using hl) λi t x h1 h2=>?_⟩
  rw[Aa]at h1
  rename_i fs _
  cases hf:fs.toList[i]? with
  |none=>rw[hf]at h1;cases h1
  |some f=>rw[hf]at h1;cases h1;exact hp i f x (by simpa using hf) h2
 |array h hl hp =>
  rw[h]at hs;cases hs
  refine⟨_,rfl,Ye (by simpa using hl) λi t x h1 h2=>?_⟩
  have:=List.eq_of_mem_replicate (AB h1)
  subst this
  exact hp x (AB h2)
 |int h hw=>rw[h]at hs;cases hs
 |bool b h=>rw[h]at hs;cases hs
 |str h=>rw[h]at hs;cases hs
 |slice h=>rw[h]at hs;cases hs
end
end Go.AI
namespace Go.AI
def nL(h:Ed)(a:h.gc=[])(b:h.fz=[])(c:h.dy=[]):(∀k,h.ct k=none)/\(∀k,h.at k=[])/\(∀k,h.dn k=false):=by
 refine⟨λk=>?_,λk=>?_,λk=>?_⟩
 ·simp[Hint.ct,a]
 ·simp[Hint.at,b]
 ·simp[Hint.dn,Hint.da,Hint.mv,c]
structure FK (P:Program) (f:FuncId) (fn:Func) (h:Ed):Prop where
 m:P.follows .mixedOrders=true
 d:fn.body.any (Ga h)=true
 g:P.funcs[f]? =some fn
 c:HS P f=true
def Zu(c:AV):(borrow1 c).pure=c.pure:=by cases c<;>rfl
def QH(cs:List AV):FW (cs.map borrow1)=FW cs:=by
 induction cs with
 |nil=>rfl
 |cons c cs ih=>simp[FW,Zu,ih]
def Zv(a:AV):(borrow0 a).pure=a.pure:=by
 cases a<;>first|rfl|exact QH _
def eD(a:AV):a.borrow.pure=a.pure:=by
 cases a with
 |tup vs =>
  show FW (vs.map borrow0)=FW vs
  induction vs with
  |nil=>rfl
  |cons c cs ih=>simp[FW,Zv,ih]
 |agg cs=>exact QH _
 |_=>rfl
def yg{P:Program}{f:FuncId}{fn:Func}{c:Code}{vs:List AV}{v:AV}(h:Ed)(hm:P.follows .mixedOrders=true)(hd:fn.body.any (Ga h)=true)(hf:P.funcs[f]? =some fn)(hb:fn.body=some c)(hcal:HS P f=true)
  (hn:vs.length<=fn.ntmps)(hp:FW vs=true)(hv:v.pure=true)(ha:JF P fn.ntmps h none c (TE P fn.ntmps fn.results λv' _=>v'.borrow=v) (GR 0 vs) []):FT P f vs v:=λH =>
 ⟨hcal,λF G w us hc=>Calls.mono (KD (.inr rfl) hm hd hf hb hn ha (hc.hide (IG hp))) λe w' he=>by
  obtain⟨u,rfl,v',H2,G',rfl,hcr,hext⟩:=he
  obtain⟨h1,h2⟩:=hc.unhide (by rw[eD]at hv;exact hv) hcr hext
  exact⟨u,rfl,_,H,_,⟨rfl,rfl⟩,by simpa using h1.lend,h2⟩⟩
def jO(cs:List AV):borrow0 (.agg cs) = .agg (cs.map borrow1):=rfl
def jN(k:IntKind)(n:Int):borrow0 (.int k n) = .int k n:=rfl
def bJ(b:Bool):borrow0 (.bool b) = .bool b:=rfl
def oe(o:Option Nat)(es:List AV):borrow0 (.sl o es) = .sl none es:=rfl
def Zq(c x:AV)(cs xs:List AV):Hq (c::cs) (x::xs)=x::Hq cs xs:=by
 simp[Hq,splice]
def dY(cs:List AV):Hq cs []=cs:=by simp[Hq,splice]
def sD(o:Option Nat)(es:List AV):(AV.sl o es).scalar=true:=rfl
def Kz(n:Nat):cj->Bool
 |[]=>true
 |some cs::r=>Fo n cs&&Kz n r
 |none::r=>Kz n r
def nv(n:Nat)(H:cj):Kz n H=H.all λo=>match o with
 |some cs=>Fo n cs
 |none=>true:=by
 induction H with
 |nil=>rfl
 |cons o r ih=>cases o<;>simp[Kz,ih]
def xQ(H:cj):Uo H=Kz H.length H:=(nv _ _).symm
def iw(n:Nat):Kz n []=true:=rfl
def az(n:Nat)(cs:List AV)(r:cj):Kz n (some cs::r)=(Fo n cs&&Kz n r):=rfl
def a_(n:Nat)(r:cj):Kz n (none::r)=Kz n r:=rfl
def xq(k:Nat):Fo k []=true:=rfl
def og(k:Nat)(v:AV)(vs:List AV):Fo k (v::vs)=(v.bnd k&&Fo k vs):=rfl
def AF8(k a b:Nat):(AV.ptr a b).bnd k=decide (a<k):=rfl
def AF9(k a b c d:Nat):(AV.msl a b c d).bnd k=decide (a<k):=rfl
def AF_(k:Nat)(i:IntKind)(n:Int):(AV.int i n).bnd k=true:=rfl
def AVI(k:Nat)(o:Option Nat)(es:List AV):(AV.sl o es).bnd k=Fo k es:=rfl
def AGA(k:Nat)(es:List AV):(AV.agg es).bnd k=Fo k es:=rfl
def AFX(r:Option (AV×cj))(t:Tmp)(zs:List (Tmp×Option Nat×Bool))(Q:Exit->Kt)(e:Fs)(H:cj):Prop :=
 match r with
 |some (v,H')=>T_ zs Q ((t,v)::e) H'
 |none=>T_ zs Q e H
def ATH(t:Tmp)(ag:Bool)(zs:List (Tmp×Option Nat×Bool))(Q:Exit->Kt)(e:Fs)(H:cj):T_ ((t,none,ag)::zs) Q e H=AFX (KB ag (Fr e t) H) t zs Q e H:=by
 rw[Y9]
 unfold Xi AFX
 dsimp only
 cases KB ag (Fr e t) H with
 |none=>rfl
 |some p=>rfl
def w_(v:AV)(H':cj)(t:Tmp)(zs:List (Tmp×Option Nat×Bool))(Q:Exit->Kt)(e:Fs)(H:cj):AFX (some (v,H')) t zs Q e H=T_ zs Q ((t,v)::e) H':=AG rfl rfl
def ACa:HP []=[]:=rfl
section
variable{α:Type}{f:α->List AV}{n:Nat}
def fm(hf:∀x,(f x).length=n)(l:List α):(l.flatMap f).length=l.length*n:=by
 induction l with
 |nil=>simp
 |cons x xs ih=>simp[hf,ih,Az];omega
def ZE(hf:∀x,(f x).length=n)(l:List α)(k:Nat):(l.flatMap f).drop (k*n)=(l.drop k).flatMap f:=by
 induction l generalizing k with
 |nil=>simp
 | cons x xs ih =>
  cases k with
  |zero=>simp
  |succ k =>
   rw[A5,Az,Cd,Bk,<- A9,Cr (hf x),ih,Cq]
def ry(hf:∀x,(f x).length=n)(l:List α)(k:Nat):(l.flatMap f).take (k*n)=(l.take k).flatMap f:=by
 induction l generalizing k with
 |nil=>simp
 | cons x xs ih =>
  cases k with
  |zero=>simp
  |succ k =>
   rw[A5,B8,A5,Az,Cd,Bk,DW,Dj (hf x),Cr (hf x),ih]
def Ps{l:List α}{k:Nat}{x:α}(hx:l[k]? =some x):l.drop k=x::l.drop (k+1):=by
 obtain⟨h,rfl⟩:=AC.1 hx
 exact BG h
def ap(hf:∀x,(f x).length=n){l:List α}{k:Nat}{x:α}(hx:l[k]? =some x){o:Nat}(ho:o<=n):(l.flatMap f).drop (k*n+o)=(f x).drop o++(l.drop (k+1)).flatMap f:=by
 rw[<- A9,ZE hf,Ps hx,A5,List.drop_append_of_le_length (by rw[hf];exact ho)]
def AAD(hf:∀x,(f x).length=n){l:List α}{k:Nat}{x y:α}(hx:l[k]? =some x){o:Nat}{v:List AV}(ho:o+v.length<=n)(hy:splice (f x) o v=f y):splice (l.flatMap f) (k*n+o) v=(l.set k y).flatMap f:=by
 have hlt:=(AC.1 hx).1
 have e1:(l.flatMap f).take (k*n+o)=(l.take k).flatMap f++(f x).take o:=by
  rw[DW,ry hf,ZE hf,Ps hx,A5,List.take_append_of_le_length (by rw[hf];omega)]
 have e2:(l.flatMap f).drop (k*n+o+v.length)=(f x).drop (o+v.length)++(l.drop (k+1)).flatMap f:=by
  rw[Ay];exact ap hf hx ho
 rw[List.set_eq_take_append_cons_drop,iP hlt,List.flatMap_append,A5,<- hy]
 unfold splice
 rw[e1,e2]
 simp
def n9(hf:∀x,(f x).length=n)(l:List α):Ho true n l.length (l.flatMap f)=l.map λx => .agg (f x):=by
 induction l with
 |nil=>rfl
 |cons x xs ih =>
  simp only[AD,Ho,A5,if_true,Dj (hf x),Cr (hf x),ih,AS]
def n8(cs:List AV):Ho false 1 cs.length cs=cs:=by
 induction cs with
 |nil=>rfl
 |cons x xs ih=>simp[Ho,ih]
def xU(hf:∀x,(f x).length=n){l:List α}{m:Nat}(hm:m=l.length):Ho true n m (l.flatMap f)=l.map λx => .agg (f x):=by
 subst hm;exact n9 hf l
end
end Go.AI
namespace Go.AI
attribute [go_sem] Nat.reduceEqDiff Nat.reduceLT Nat.reduceAdd Nat.reduceSub Nat.reduceMul Nat.reduceBEq Nat.reduceLeDiff Nat.reduceDvd reduceCtorEq Int.reduceToNat Int.reduceLT Int.reduceLE
attribute [go_sem] Nat.le_refl Int.le_refl false_implies implies_true KB List.take_length AY List.not_mem_nil or_false forall_eq_or_imp forall_eq List.range_succ EF exists_eq_left' Option.some.injEq
attribute [go_sem ↓] reduceIte
attribute [go_sem] As Aw
section
variable{P:Program}{f:FuncId}{fn:Func}{h:Ed}{c:Code}{vs:List AV}{v:AV}{Q:AV->Prop}{R:AV->cj->Prop}{H:cj}
def pC(k:FK P f fn h)(hb:fn.body=some c)(ha:JF P fn.ntmps h none c (TE P fn.ntmps fn.results λv' _=>v'=v) (GR 0 vs) [])(hn:vs.length.ble fn.ntmps=true:=by rfl)(hp:FW vs=true:=by simp[FW,AV.pure,go_sem])(hv:v.pure=true:=by rfl):FT P f vs v :=
 ADl h k.m k.d k.g hb k.c (CM hn) hp hv ha
def pB(k:FK P f fn h)(hb:fn.body=some c)(ha:JF P fn.ntmps h none c (TE P fn.ntmps fn.results λv' _=>v'.borrow=v) (GR 0 vs) [])(hn:vs.length.ble fn.ntmps=true:=by rfl)(hp:FW vs=true:=by simp[FW,AV.pure,go_sem])(hv:v.pure=true:=by simp[FW,AV.pure,go_sem]):FT P f vs v :=
 yg h k.m k.d k.g hb k.c (CM hn) hp hv ha
def qC(k:FK P f fn h)(hb:fn.body=some c)(ha:JF P fn.ntmps h none c (TE P fn.ntmps fn.results λv' _=>v'.pure=true/\Q v') (GR 0 vs) [])(hn:vs.length.ble fn.ntmps=true:=by rfl)(hp:FW vs=true:=by simp[FW,AV.pure,go_sem]):KL P f vs Q :=
 ADg h k.m k.d k.g hb k.c (CM hn) hp ha
def aC(k:FK P f fn h)(hb:fn.body=some c)(ha:JF P fn.ntmps h none c (TE P fn.ntmps fn.results R) (GR 0 vs) H)(hg:h.gc=[]:=by rfl)(hn:vs.length.ble fn.ntmps=true:=by rfl):Fa P f vs H R :=
 kz h hg k.m k.d k.g hb k.c (CM hn) ha
def aN(k:FK P f fn h)(hb:fn.body=some c)(ha:JF P fn.ntmps h none c (TE P fn.ntmps fn.results R) (GR 0 vs) [])(hn:vs.length.ble fn.ntmps=true:=by rfl):Fa P f vs [] R :=
 ⟨k.c,λF G w us hc=>KD (.inr (List.length_eq_zero_iff.1 hc.h.len)) k.m k.d k.g hb (CM hn) ha hc⟩
end
section
variable{P:Program}{f:FuncId}{vs:List AV}{d:Option Tmp}{K A B:Kt}{e:Fs}{H:cj}{v:AV}{t b:Bool}
def pK(hc:FT P f vs v)(hk:K (put d v e) H):Wu P f vs d K e H:=⟨v,hc,hk⟩
def cS(ht:t=true->A e H)(hf:t=false->B e H):iq (.bool t) A B e H:=Tl _ _ _ ht hf
def gS(ht:t=b->A e H)(hf:t=(!b)->B e H):V5 (.bool t) b A B e H:=nU _ _ _ _ ht hf
class cG (X:Prop) (p q Y Z:outParam Prop):Prop where s : (p->Y)->(q->Z)->X
instance : cG (iq (.bool t) A B e H) (t=true) (t=false) (A e H) (B e H):=⟨cS⟩
instance : cG (V5 (.bool t) b A B e H) (t=b) (t=(!b)) (A e H) (B e H):=⟨gS⟩
theorem cg{X p q Y Z:Prop}[i:cG X p q Y Z](h:p->Y)(k:q->Z):X:=i.s h k
end
def S9(s:ByteArray):s.data.toList.length=s.size:=by
 have:s.size=s.data.size:=rfl
 rw[this,Array.length_toList]
def Fq{α:Type}{l:List α}{k:Nat}{x:α}{xs:List α}(h:l.drop k=x::xs):l.length=k+xs.length+1:=by
 have:=congrArg List.length h
 simp at this;omega
def AGl(e:Fs)(H:cj):At e e H H=True:=by simp[At]
section
variable{P:Program}{m:Nat}{h:Ed}{e:Fs}{H:cj}{Q:Exit->Kt}{ops:Array Oper}{ar:Option Nat}{α σ ρ:Type}
def ADV(F:List α->ρ)(E:Nat->Fs)(HH:cj)(k:Nat)(x:α)(xs:List α)(Q:Exit->Kt)(ex:Exit):Kt:=λe H =>
 match ex with
 |.normal=>F (x::xs)=F xs/\At e (E (k+1)) H HH
 |ex=>Q ex e H
def jf(F:List α->ρ)(E:Nat->Fs)(HH:cj)(k:Nat)(x:α)(xs:List α):ADV F E HH k x xs Q .normal e H=(F (x::xs)=F xs/\At e (E (k+1)) H HH):=AG rfl rfl
def ADU(F:List α->ρ)(E:Nat->Fs)(HH:cj)(k:Nat)(x:α)(xs:List α):ADV F E HH k x xs Q .ret=Q .ret:=AG rfl rfl
def yU(F:List α->ρ)(E:Nat->Fs)(HH:cj)(k:Nat)(x:α)(xs:List α)(j:Nat):ADV F E HH k x xs Q (.exit j)=Q (.exit j):=AG rfl rfl
def Fe{c:Code}(l:List α)(F:List α->ρ)(E:Nat->Fs)(hl:l.length<=9223372036854775807)(he:e=E 0)
  (round:∀k x xs,l.drop k=x::xs->l[k]? =some x->F l=F (x::xs)->0<=(k:Int)->(k:Int)<(l.length:Int)->IntKind.i64.wrap ((k:Int)+1)=((k+1:Nat):Int)->JF P m h ar c (ADV F E H k x xs Q) (E k) H)
  (fin:F l=F [] -> ¬(l.length:Int)<(l.length:Int)->JF P m h ar c (qz Q) (E l.length) H):JF P m h ar (.loop c) Q e H:=by
 refine Fg l (λ(_:Unit) l=>F l) (λ_ _=>True) (λk _=>E k) (λ_ _=>H) () hl trivial he rfl (λk _ x xs h1 h2 _ h4 h5 h6 h7=>?_) λ_ _ h1=>fin h1 (Int.lt_irrefl _)
 refine GZ c _ _ _ _ (λex e H hq=>?_) (round k x xs h1 h2 h4 h5 h6 h7)
 cases ex with
 |normal=>exact⟨(),hq.1,trivial,hq.2⟩
 |_=>exact hq
def Wc{c:Code}(s:ByteArray)(F:List UInt8->ρ)(E:Nat->Fs)(hl:s.size<=9223372036854775807)(he:e=E 0)
  (round:∀k x xs,s.data.toList.drop k=x::xs->(s.data[k]?).getD 0=x->F s.data.toList=F (x::xs)->0<=(k:Int)->(k:Int)<(s.size:Int)->IntKind.i64.wrap ((k:Int)+1)=((k+1:Nat):Int)->s.size=k+xs.length+1->JF P m h ar c (ADV F E H k x xs Q) (E k) H)
  (fin:F s.data.toList=F [] -> ¬(s.size:Int)<(s.size:Int)->JF P m h ar c (qz Q) (E s.size) H):JF P m h ar (.loop c) Q e H:=by
 refine Fe s.data.toList F E (by rw[S9];exact hl) he (λk x xs h1 h2 h4 h5 h6 h7=>round k x xs h1 ?_ h4 h5 (by rw[S9]at h6;exact h6) h7 (by have:=Fq h1;rw[S9]at this;exact this)) ?_
 ·rw[Ac]at h2;rw[h2];rfl
 ·rw[S9];exact fin
end
section
variable{P:Program}{n:Nat}{h:Ed}{H:cj}{Q:Exit->Kt}{ops:Array Oper}{ar:Option Nat}{K:Fs->cj->Prop}
end
theorem FV(a b:ByteArray):(a.toList==b.toList)=decide (a=b):=by
 rw[Bool.eq_iff_iff,beq_iff_eq,decide_eq_true_eq,ByteArray.toList_eq,ByteArray.toList_eq]
 exact⟨λh=>ByteArray.ext (Array.toList_inj.1 h),λh=>by rw[h]⟩
end Go.AI
namespace Go.AI
def bK{k:Nat}{v:AV}(h:∀c∈v.cells,c.bnd k=true):v.bnd k=true:=by
 cases v<;>first|exact h _ (Ab.2 rfl)|skip
 simp only[AV.bnd]
 exact GO.2 h
def VRel.bnd{G:Gh}{w:World}{a:AV}{v:Value}(h:Eb G w a v):a.bnd G.obs.length=true:=by
 induction h with
 |ptr o off b h hc=>simpa [AV.bnd]using(AC.1 h).1
 |cptr cs off b q u h hu ih =>
  simp only[AV.bnd]
  refine GO.2 λc hc=>?_
  obtain⟨i,hi⟩:=Ae hc
  exact ih i c hi
 |sl own es sz b q cap u hsz hown hl hm h hu ih =>
  simp only[AV.bnd]
  refine GO.2 λe he=>bK λc hc=>?_
  obtain⟨i,hi⟩:=Ae (Bo.2 ⟨e,he,hc⟩:c∈HP es)
  exact ih i c hi
 |msl o off len sz b cap h hl hm hc=>simpa [AV.bnd]using(AC.1 h).1
 |mslc o off len sz cap b h hl hm hc=>simpa [AV.bnd]using(AC.1 h).1
 | fn f first captured fi ca h1 h2 h3 h4 ih1 ih2 =>
  simp only[AV.bnd,AM]
  refine⟨GO.2 λc hc=>?_,GO.2 λc hc=>?_⟩
  ·obtain⟨i,hi⟩:=Ae hc
   have hl:=(AC.1 hi).1
   exact ih1 i c _ hi (Ai FR)
  ·obtain⟨i,hi⟩:=Ae hc
   have hl:=(AC.1 hi).1
   exact ih2 i c _ hi (Ai FR)
 |mapr o b h hb hk=>simpa [AV.bnd]using(AC.1 h).1
 |it o b h hb hk=>simpa [AV.bnd]using(AC.1 h).1
 |yld o b L h hb hk=>simpa [AV.bnd]using(AC.1 h).1
 |ifc t a v hs h ih=>simpa [AV.bnd]using ih
 |agg cs vs hl hs h ih =>
  simp only[AV.bnd]
  refine GO.2 λc hc=>?_
  obtain⟨i,hi⟩:=Ae hc
  have hlt:=(AC.1 hi).1
  exact ih i c _ hi (Ai FR)
 |tup cs vs hl hs h ih =>
  simp only[AV.bnd]
  refine GO.2 λc hc=>?_
  obtain⟨i,hi⟩:=Ae hc
  have hlt:=(AC.1 hi).1
  exact ih i c _ hi (Ai FR)
 |_=>rfl
section
variable{P:Program}{F:Nat->Prop}{G:Gh}{w:World}{H:cj}
def ORel.bnd{cs:List AV}{b:Nat}(h:ORel F G w cs b):Fo G.obs.length cs=true:=by
 have hi:=h.is
 split at hi
 ·obtain⟨C,E,g1,g2,g3⟩:=hi
  refine GO.2 λc hc=>?_
  obtain⟨i,hci⟩:=Ae hc
  have hlt:=(AC.1 hci).1
  exact(g3 i c _ hci (Ai FR)).2.1.bnd
 ·obtain⟨es,ms,cl,g1,g2,g3,g4,g5⟩:=hi
  subst g2
  simp only[J6,Fo,AV.bnd,Bp]
  refine GO.2 λc hc=>?_
  obtain⟨p,hp,hc⟩:=Bo.1 hc
  obtain⟨i,hpi⟩:=Ae hp
  have hlt:=(AC.1 hpi).1
  obtain⟨_,_,a3,a4⟩:=g4 i p _ hpi (Ai FR)
  rcases AY.1 hc with rfl|hc
  ·exact a3.bnd
  ·rcases Ab.1 hc with rfl
   exact a4.bnd
 ·rcases hi with⟨s,pos,h1,rfl⟩|⟨h1,rfl⟩|⟨o,mb,si,se,h1,rfl,h3⟩
  ·simp[Vz,Fo,AV.bnd]
  ·simp[Fo,AV.bnd]
  ·have:=h3.bnd
   simp only[Ti,Fo,this,Be,Bp]
   simp only[AV.bnd,Be]
   exact Hg λ_=>rfl
 ·obtain⟨s,pe,t,D,st,vals,g1,g2,g3,g4,g5⟩:=hi
  subst g3
  simp only[G8,Fo,AV.bnd,Bp,Be]
  refine GO.2 λc hc=>?_
  obtain⟨i,hci⟩:=Ae hc
  have hlt:=(AC.1 hci).1
  exact(g5 i c _ hci (Ai FR)).2.bnd
 ·exact hi.elim
def HRel.closed(h:HRel F G H w):R0 H:=λo cs ho=>by
 have hlt:=(AC.1 ho).1
 have hl:=h.len
 have:=(h.obj o cs _ ho (AH FR)).bnd
 rwa [hl]at this
def Fa.drop{f:FuncId}{vs:List AV}{v:AV}(hv:v.bnd H.length=true)(h:Fa P f vs H λv' H'=>v'=v /\ ∃ext,H'=H++ext):Fa P f vs H λv' H'=>v'=v/\H'=H :=
 ⟨h.1,λF G w us hc=>Calls.mono (h.2 F G w us hc) λe w' he=>by
  obtain⟨u,rfl,v',H2,G',⟨rfl,ext,rfl⟩,hcr,hext⟩:=he
  refine⟨u,rfl,_,H,_,⟨rfl,rfl⟩,hcr.cut hv hc.h.closed,⟨hext.size,⟨λo b ho=>?_,hext.keeps.shape,hext.keeps.sp,hext.keeps.safe⟩,hext.kind,hext.cells,hext.io⟩⟩
  have hlt:=(AC.1 ho).1
  show(G'.obs.take H.length)[o]? =some b
  rw[Bv (by have:=hc.h.len;omega)]
  exact hext.keeps.obs o b ho⟩
end
def nh(H x:cj):(∃ext,H++x=H++ext)=True:=eq_true ⟨x,rfl⟩
def iZ(H:cj):(∃ext,H=H++ext)=True:=eq_true ⟨[],sm⟩
def AVJ(f:Fn)(a b:List AV)(n:Nat):(AV.fn f a b).bnd n=(Fo n a&&Fo n b):=rfl
end Go.AI
namespace Go.AI
section
variable{P:Program}{n:Nat}{h:Ed}{ops:Array Oper}{K:Kt}{p:Tmp×AV}{e:Fs}{H:cj}{d:Tmp}{ty:TypeId}{ps:String}{af:Array Edge}{Q:Exit->Kt}
def Af2(P:Program)(t:TypeId)(x:AV)(d:Tmp)(K:Kt)(e:Fs)(H:cj):Prop:=RA P t H x λv H'=>K ((d,v)::e) H'
def AXx(str:Bool)(x:AV)(d:Tmp)(K:Kt)(e:Fs)(H:cj):Prop :=
 match x with
 |.it o=>Wf str H o λv H'=>K ((d,v)::e) H'
 |_=>False
def AIT(P:Program)(t:TypeId)(ok:Bool)(m k:AV)(d:Tmp)(K:Kt)(e:Fs)(H:cj):Prop :=
 match P.underlying t with
 |some (.map kt et)=>match Is H m with
  |some es=>Mq P kt (k::es.map (·.1))/\Rx es /\ ∃z,Fk P et=some z/\K ((d,fj ok z (JG k es 0))::e) H
  |none=>False
 |_=>False
def AH0(P:Program)(t:TypeId)(m k v:AV)(K:Kt)(e:Fs)(H:cj):Prop :=
 match m with
 | .mapr o=>match P.underlying t with
  |some (.map kt _)=>match Is H (.mapr o)with
   |some es=>Mq P kt (k::es.map (·.1))/\Rx es/\v.isVal=true/\K e (H.set o (some (J6 (Mn es k v))))
   |none=>False
  |_=>False
 |_=>False
def jb(t:TypeId):Ie P n h ops ⟨some d,.makeMap t none,ty,ps,af,none⟩ K (p::e) H=(d<n/\K ((d,.mapr H.length)::p::e) (H++[some (J6 [])])):=by
 rw[F_ _ rfl]
 simp only[F0,HQ,Op.operands,GF,put,Gj]
 rfl
def yK(t:TypeId)(x:Operand):Ie P n h ops ⟨some d,.range t x,ty,ps,af,none⟩ K (p::e) H=(d<n/\Af2 P t (G6 P none (p::e) x).borrow d K (p::e) H):=by
 rw[F_ _ rfl]
 simp only[F0,HQ,Op.operands,GF,AS,Ah,put,Gj]
 rfl
def ADP(x:Operand)(b:Bool):Ie P n h ops ⟨some d,.next x b,ty,ps,af,none⟩ K (p::e) H=(d<n/\AXx b (G6 P none (p::e) x).borrow d K (p::e) H):=by
 rw[F_ _ rfl]
 simp only[F0,HQ,Op.operands,GF,AS,Ah,put,Gj]
 congr 1
 unfold AXx
 generalize (G6 P none (p::e) x).borrow=v
 cases v<;>rfl
def pD(t:TypeId)(x k:Operand)(ok:Bool):Ie P n h ops ⟨some d,.lookup t x k ok,ty,ps,af,none⟩ K (p::e) H =
  (d<n/\AIT P t ok (G6 P none (p::e) x).borrow (G6 P none (p::e) k).borrow d K (p::e) H):=by
 rw[F_ _ rfl]
 simp only[F0,HQ,Op.operands,GF,AS,Ah,put,Gj]
 rfl
def Xu(t:TypeId)(x k v:Operand):Ie P n h ops ⟨none,.mapUpdate t x k v,ty,ps,af,none⟩ K (p::e) H =
  AH0 P t (G6 P none (p::e) x).borrow (G6 P none (p::e) k).borrow (G6 P none (p::e) v).borrow K (p::e) H:=by
 rw[F_ _ rfl]
 simp only[F0,HQ,Op.operands,GF,AS,Ah,put,Gj]
 rw[true_and]
 generalize (G6 P none (p::e) x).borrow=xv
 cases xv<;>rfl
end
def fg{H:cj}{o:Nat}{es:List (AV×AV)}(h:H[o]? =some (some (J6 es))):Is H (.mapr o)=some es:=by
 simp only[Is,h,TP]
def Vt{P:Program}{kt:TypeId}{k:IntKind}(h:P.underlying kt=some (.int k)){ks:List AV}(hk:∀a∈ks,∃n,a = .int k n):Mq P kt ks :=
 ⟨_,KLaw.plain h,λa ha=>by obtain⟨n,rfl⟩:=hk a ha;exact⟨_,rfl,rfl⟩⟩
def LY{α:Type}(f:α->AV)(l:List α):List (AV×AV):=l.map λx=>(f x,.bool true)
def Px{α:Type}(f:α->AV)(k:AV): ∀(l:List α) (i:Nat),(JG k (LY f l) i).map (·.2)=if l.any (λx=>Hr (f x) k)=true then some (.bool true)else none
 |[],i=>rfl
 | x::l,i=>by
  unfold LY
  rw[AS,JG,Au]
  by_cases h:Hr (f x) k=true
  ·rw[iP h,h];rfl
  ·rw[iN h]
   have h2:Hr (f x) k=false:=by simpa using h
   rw[h2,Bn]
   exact Px f k l (i+1)
def AIU{α:Type}(f:α->AV)(k:AV)(l:List α):fj false (.bool false) (JG k (LY f l) 0) = .bool (l.any λx=>Hr (f x) k):=by
 have h:=Px f k l 0
 cases ha:JG k (LY f l) 0 with
 | none =>
  rw[ha]at h
  split at h
  ·cases h
  ·rename_i hn
   have:(l.any λx=>Hr (f x) k)=false:=by simpa using hn
   rw[this];rfl
 | some q =>
  rw[ha]at h
  split at h
  ·rename_i hy
   obtain⟨j,v⟩:=q
   have hv:v = .bool true:=by simpa using h
   subst hv
   rw[hy];rfl
  ·cases h
def AEY{α:Type}(f:α->AV)(x:α)(l:List α)(h:(l.any λy=>Hr (f y) (f x))=false):Mn (LY f l) (f x) (.bool true)=LY f (l++[x]):=by
 have h2:=Px f (f x) l 0
 rw[h]at h2
 have h3:JG (f x) (LY f l) 0=none:=by
  cases ha:JG (f x) (LY f l) 0 with
  |none=>rfl
  |some q=>rw[ha]at h2;cases h2
 unfold Mn
 rw[h3]
 simp[LY]
def de{α:Type}(f:α->AV)(l:List α):(LY f l).map (·.1)=l.map f:=by simp[LY,List.map_map]
def Rw{α:Type}(f:α->AV):List α->Prop
 |[]=>True
 |x::l=>(∀y∈l,Hr (f x) (f y)=false)/\Rw f l
def WG{α:Type}(f:α->AV): ∀{l:List α},Rw f l->Rx (LY f l)
 |[],_=>List.Pairwise.nil
 |x::l,h=>List.Pairwise.cons (λq hq=>by obtain⟨y,hy,rfl⟩:=AO.1 hq;exact h.1 y hy) (WG f h.2)
def WH{α:Type}(f:α->AV)(x:α): ∀{l:List α},Rw f l->(l.any λy=>Hr (f y) (f x))=false->Rw f (l++[x])
 |[],_,_=>⟨λy hy=>by simp at hy,trivial⟩
 | y::l,h,ha=>by
  rw[Au,Bool.or_eq_false_iff]at ha
  refine⟨λz hz=>?_,WH f x h.2 ha.2⟩
  rcases Ar.1 hz with hz|hz
  ·exact h.1 z hz
  ·rcases Ab.1 hz with rfl
   exact ha.1
attribute [go_sem] tG AA8 xR ny AAC nk AFc AFe ACM AFd ACJ ACK ACI ACL fZ fY sr mJ sh mE so mI sk sj sq mG AAn mF sw sg mK mL mN ez mM oY jL oV oW jK xn oX jI xo oZ oT oc jM xa xZ oD xW n_ xX ACX xY tw tt nH tn tp ABY tq mH sf s4 ey jJ oR oC oA ACY oB xV nG ABZ tl AXR AH2 AH1 lW rv ACv xr nT AFO AFR AFP AFQ AB2 zm AFl AFm ADI yA ADF AGG ADG AGF x_ ADH oq Xr AFh AB7 AB6 AB5 dh zo r_ jP ACw ACx xt ADf j' AEb AEa dq z8 zy zz zx ll sF ru lV yM ADQ pE ADO AGS ADR yI bV ADM Xx yN jc AGQ yQ AVN AVM fT fX fU fV aF XU ADC AC4 AC8 AC6 AC5 ADB AC7 AC9 AC_ AC' ADA xx xw xz xy Xw yL pF yB AGH AGN sE ADL yF ADK ADT bW yP We yJ AGO AGP AE7 AE8 jd Xv AVS AVR yR yO AGR ADS je ABD AE' ABC rn iQ zO iO zQ rk rq ri zL nc iX dV dU rm lS lQ iR xC lP AEU zI Zs sC lh ni jO jN bJ oe Zq dY sD xQ iw az a_ xq og AF8 AF9 AF_ AVI AGA ATH w_ ACa AGl jf ADU yU nh iZ AVJ jb yK ADP pD Xu
end Go.AI
