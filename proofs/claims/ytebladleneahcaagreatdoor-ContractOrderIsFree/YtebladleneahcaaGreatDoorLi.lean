/- From the code's walk at the abstract side to the contract of a call. -/
import Derived.Test.YtebladleneahcaaGreatDoorLg
import Derived.ProofKit
import Derived.SizedLaws
set_option linter.unusedSimpArgs false
set_option linter.unusedVariables false
set_option linter.defProp false
open Go.AI renaming VRel->Ec,CRel->Ed,Hint->Ee,LoopRec->Ef
open Array renaming getElem?_eq_getElem->Ai,getElem?_toList->Ac,toList_append->DB
open Bool renaming and_eq_true->AQ,and_true->Bh,false_eq_true->Bw,false_or->Bp,not_false->Aw,not_true->Av,true_and->By
open Eq renaming trans->AG
open List renaming all_eq_true->Am,any_cons->As,append_nil->Ag,contains_iff_mem->Dj,drop_drop->A8,drop_eq_getElem_cons->BL,drop_length->Cq,drop_succ_cons->DF,drop_zero->BN,flatMap_cons->BA,getElem?_append_left->AT,getElem?_append_right->AM,getElem?_cons_zero->A7,getElem?_eq_getElem->AL,getElem?_eq_some_iff->AC,getElem?_map->AZ,getElem?_of_mem->Ae,getElem?_take_of_lt->Bu,getElem?_toArray->Bd,getElem_mem->Cb,length_cons->AD,length_nil->AH,length_range->Dk,mapM_cons->C7,map_cons->AR,map_nil->Ah,mem_append->Ar,mem_cons->AW,mem_flatMap->Bq,mem_map->AN,mem_of_getElem?->AB,mem_singleton->Ab,range->Ak,range_zero->EF,replicate->Ay,replicate_succ->CW,sum_cons->B2,take_append_drop->A9,take_succ_cons->CO
open Nat renaming add_mul->A0,add_zero->BC,le_of_ble_eq_true->CP,le_of_eq->Dh,le_trans->AK,one_mul->DY,zero_add->AY,zero_le->BW,zero_mul->CM
open Option renaming any_some->DE,bind_some->Ba,map_some->BS
open Or renaming inl->CH
open Go.Result renaming andThen_ok->Aa
open Go.Sem renaming run_bind->AJ,run_pure->Ad
namespace Go.AI
mutual
def AV.pure:AV->Bool
 | .ptr _ _=>false
 | .msl _ _ _ _=>false
 | .mslc _ _ _ _ _=>false
 | .mapr _=>false
 | .it _=>false
 | .yld _ _=>false
 | .ifc _ a=>a.pure
 | .cptr cs _=>FV cs
 | .sl _ es=>FV es
 | .fn _ a b=>FV a&&FV b
 | .agg cs=>FV cs
 | .tup vs=>FV vs
 | _=>true
def FV:List AV->Bool
 | []=>true
 | v::vs=>v.pure&&FV vs
end
def IE{vs:List AV}(h:FV vs=true): ∀ v∈vs,v.pure=true:=by
 induction vs with
 | nil=>intro v hv;cases hv
 | cons x xs ih =>
  simp only [FV,AQ] at h
  intro v hv
  rcases AW.1 hv with rfl|hv
  ·exact h.1
  ·exact ih h.2 v hv
def mG{v:AV}(h:v.pure=true): ∀ c∈v.cells,c.pure=true:=by
 cases v<;>first|(intro c hc;simp only [AV.cells,Ab] at hc;subst hc;exact h)|skip
 simp only [AV.pure] at h
 exact IE h
def AAj{es:List AV}(h:FV es=true): ∀ c∈HQ es,c.pure=true:=by
 intro c hc
 obtain ⟨e,he,hc⟩:=Bq.1 hc
 exact mG (IE h e he) c hc
def VRel.pure{G G':Gh}{w:World}(hk:G'.kind=G.kind){a:AV}{v:Value}(h:Ec G w a v)(hp:a.pure=true):Ec G' w a v:=by
 have hsafe : ∀ b o,G.safe b o->G'.safe b o:=λb o hs=>by unfold Gh.safe at *;rw [hk];exact hs
 induction h with
 | undef v=>exact .undef v
 | int k n=>exact .int k n
 | bool b=>exact .bool b
 | str s=>exact .str s
 | nilp=>exact .nilp
 | ptr o off b h hc=>cases hp
 | mapr o b h hb hk=>cases hp
 | it o b h hb hk=>cases hp
 | nilm=>exact .nilm
 | yld o b L h hb hk=>cases hp
 | ifc t a v hs h ih=>exact .ifc t a v hs (ih (by simpa [AV.pure] using hp))
 | nili=>exact .nili
 | cptr cs off b q u h hu ih =>
  simp only [AV.pure] at hp
  exact .cptr cs off b q u (λi c hi=>⟨(h i c hi).1,hsafe _ _ (h i c hi).2.1,(h i c hi).2.2⟩) λi c hi=>ih i c hi (IE hp c (AB hi))
 | slnil own=>exact .slnil own
 | slany own a=>exact .slany own a
 | sl own es sz b q cap u hsz hown hl hm h hu ih =>
  simp only [AV.pure] at hp
  exact .sl own es sz b q cap u hsz hown hl hm (λi c hi=>⟨(h i c hi).1,hsafe _ _ (h i c hi).2.1,(h i c hi).2.2⟩) λi c hi=>ih i c hi (AAj hp c (AB hi))
 | msl=>cases hp
 | mslc=>cases hp
 | fn f first captured fi ca h1 h2 h3 h4 ih1 ih2 =>
  simp only [AV.pure,AQ] at hp
  exact .fn f first captured fi ca h1 h2 (λi c v hc hv=>ih1 i c v hc hv (IE hp.1 c (AB hc))) (λi c v hc hv=>ih2 i c v hc hv (IE hp.2 c (AB hc)))
 | nilf=>exact .nilf
 | agg cs vs hl hs h ih =>
  simp only [AV.pure] at hp
  exact .agg cs vs hl hs λi c v hc hv=>ih i c v hc hv (IE hp c (AB hc))
 | tup cs vs hl hs h ih =>
  simp only [AV.pure] at hp
  exact .tup cs vs hl hs λi c v hc hv=>ih i c v hc hv (IE hp c (AB hc))
def eM(P:Program)(n:Nat):List ResultVar->Ft->FR->(List AV->Ft->FR->Prop)->Prop
 | [],e,H,K=>K [] e H
 | .tmp t::rs,e,H,K=>t<n/\eM P n rs (M8 P none true (.tmp t) e).2 H λvs=>K ((M8 P none true (.tmp t) e).1::vs)
 | .cell t ty::rs,e,H,K=>t<n/\match Fp e t with
  | .ptr ob off=>match H[ob]? with
   | some (some cs)=>match Lb P ty cs off with
    | some v=>if v.owned=true then eM P n rs e (H.set ob (some (splice cs off (v.cells.map borrow1)))) λvs=>K (v::vs) else eM P n rs e H λvs=>K (v.borrow::vs)
    | none=>False
   | _=>False
  | _=>False
def QY(K:AV->FR->Prop)(vs:List AV)(H:FR):Prop :=
 match vs with
 | [v]=>K v H
 | vs=>(∀ v∈vs,v.isVal=true)/\K (.tup vs) H
def TZ(P:Program)(n:Nat)(rs:Array ResultVar)(K:AV->FR->Prop)(ex:Exit)(e:Ft)(H:FR):Prop :=
 match ex with
 | .normal | .ret=>eM P n rs.toList e H λvs _ H'=>QY K vs H'
 | _=>False
section
variable {P:Program} {F:Nat->Prop} {G:Gh} {w:World} {H:FR} {n:Nat}
def kx(k:Nat):LRel F G (Ay k .undef) (Ay k Go.undef) w:=by
 refine ⟨sm,λi a u h1 _=>?_,λi a u h1 _=>?_⟩<;>rw [List.getElem?_replicate] at h1<;>split at h1<;>cases h1
 ·exact .undef u
 ·exact Fh (Ha u) F G w
def db(b k:Nat):G9 b (Ay k .undef) (Ay k Go.undef)=0:=by
 induction k with
 | zero=>rfl
 | succ k ih=>rw [CW,CW,Fb,ih,Ha];rfl
def CRel.args{vs:List AV}{us:List Value}(h:Ed F G vs H us w)(k:Nat):Ed F G (vs++Ay k .undef) H (us++Ay k Go.undef) w:=by
 refine ⟨h.l.append (kx k),h.h,λb=>?_⟩
 rw [GU _ _ _ _ _ h.l.len,db]
 exact h.cnt b
def aI{v:AV}{u:Value}{vs:List AV}{us:List Value}(hv:v.isVal=true)(h:Ec G w v u):K8 (.tup (v::vs)) (.tuple (u::us).toArray)=K8 v u++K8 (.tup vs) (.tuple us.toArray):=by
 rw [PW hv h]
 simp only [K8,AV.flat,H9,BA]
 rw [List.zip_append]
 have:=(Jd hv h).2.2
 simpa using this
def dY : ∀ (vs:List AV) (us:List Value),LRel F G vs us w->(∀ v∈vs,v.isVal=true) ->
  Ec G w (.tup vs) (.tuple us.toArray)/\(∀ p∈K8 (.tup vs) (.tuple us.toArray),GB F G w p) /\ ∀ b,(Gr (.tup vs) (.tuple us.toArray)).count b=G9 b vs us:=by
 intro vs us hl hv
 refine ⟨.tup vs _ (by simpa using hl.len) hv (λi c u h1 h2=>hl.rel i c u h1 (by simpa using h2)), ?_⟩
 induction vs generalizing us with
 | nil =>
  match us,hl.len with
  | [],_=>exact ⟨λp hp=>by simp [K8,AV.flat] at hp,λb=>by simp [Gr,K8,AV.flat,G9]⟩
 | cons v vs ih =>
  match us,hl.len with
  | u::us,_ =>
   obtain ⟨h1,h2,h3⟩:=hl.uncons
   obtain ⟨g1,g2⟩:=ih us h3 λx hx=>hv x (by simp [hx])
   have e:=aI (vs:=vs) (us:=us) (hv v sm) h1
   refine ⟨λp hp=>?_,λb=>?_⟩
   ·rw [e] at hp
    rcases Ar.1 hp with h|h
    ·exact h2 p h
    ·exact g1 p h
   ·have:=g2 b
    unfold Gr at this ⊢
    rw [e,List.filterMap_append,List.count_append,this,Fb]
    rfl
def CRel.comm{A B:List AV}{ua ub:List Value}(h:Ed F G (A++B) H (ua++ub) w)(hl:A.length=ua.length):Ed F G (B++A) H (ub++ua) w:=by
 obtain ⟨h1,h2⟩:=h.l.split hl
 refine ⟨h2.append h1,h.h,λb=>?_⟩
 have:=h.cnt b
 rw [GU b A ua B ub hl] at this
 rw [GU b B ub A ua h2.len]
 omega
def CRel.turn {A B:List AV} {v:AV} {ua ub:List Value} {u:Value} {R:AV->FR->Prop} {u':Value} {w':World} (h:Ed F G (A++v::B) H (ua++u::ub) w) (hl:A.length=ua.length)
  (hk : ∀ F',(∀ b,F b->F' b)->Ed F' G [v] H [u] w->Fg F' G w R u' w') : ∃ v' H' G',R v' H'/\Ed F G' (A++v'::B) H' (ua++u'::ub) w'/\Ext F G w G' w':=by
 have h1:Ed F G ((v::B)++A) H ((u::ub)++ua) w:=h.comm hl
 have h2:Ed F G ([v]++(B++A)) H ([u]++(ub++ua)) w:=by simpa using h1
 have hB:=(h2.l.split (A:=[v]) rfl).2
 have hc:=h2.split (A:=[v]) rfl
 obtain ⟨v',H',G',hr,hc',he⟩:=hk _ (λb hb=>CH hb) hc
 have hcb : ∀ b,G9 b (B++A) (ub++ua)<=1:=λb=>by
  have:=h2.cnt b
  rw [GU b [v] [u] _ _ rfl] at this
  omega
 have hj:=Tg (F:=F) hB hcb (λb hb=>CH hb) (λb hb=>Or.inr hb) he hc'
 refine ⟨v',H',G',hr, ?_,he.mono λb hb=>CH hb⟩
 have hlB:B.length=ub.length:=by
  have:=hB.len
  simp at this
  omega
 have h3:Ed F G' ((v'::B)++A) H' ((u'::ub)++ua) w':=by simpa using hj
 exact h3.comm (by simp [hlB])
def IN(tm:Array Value):ResultVar->Sem Value
 | .tmp t=>pure (tm.getD t Go.undef)
 | .cell a t=>do loadVar t (<- asAddr (tm.getD a Go.undef))
def ABY{t:TypeId}{u:Value}{R:AV->FR->Prop}{w:World}(hu : ∃ a,u = .pointer (some a))(h:Fw P ((do let r<-Instr.loadAt t u;pure (Next.value r):Sem Next).run P w) (Fg F G w R)):
  ∃ u' w',(do loadVar t (<- asAddr u):Sem Value).run P w = .ok u' w'/\Fg F G w R u' w':=by
 obtain ⟨a,rfl⟩:=hu
 have e1:(Instr.loadAt t (.pointer (some a)):Sem Value).run P w=(loadVar t a).run P w:=by
  simp [Instr.loadAt,Instr.sureAddr]
 have e2:(do loadVar t (<- asAddr (.pointer (some a))):Sem Value).run P w=(loadVar t a).run P w:=by
  simp [asAddr]
 rw [e2]
 rw [AJ,e1] at h
 cases hr:(loadVar t a).run P w with
 | ok u' w' =>
  rw [hr] at h
  simp only [Aa,Ad] at h
  exact ⟨u',w',rfl,h⟩
 | _=>rw [hr] at h;exact h.elim
def So{a:Act}(hn:a.tmps.size=n): ∀ (rs:List ResultVar) (env:Ft) (H:FR) (G:Gh) (w:World) (pre:List AV) (upre:List Value) (K:List AV->Ft->FR->Prop),
  Ed F G (pre++Gl n env) H (upre++a.tmps.toList) w->pre.length=upre.length->(∀ t,n<=t->Fp env t = .undef)->eM P n rs env H K ->
  ∃ us,(rs.mapM (IN a.tmps)).run P w = .ok us w /\ ∃ vs env' H' G',K vs env' H'/\vs.length=us.length/\Ed F G' (pre++vs++Gl n env') H' (upre++us++a.tmps.toList) w/\Ext F G w G' w
 | [],env,H,G,w,pre,upre,K,h,hp,ho,hr=>⟨[],sm,[],env,H,G,hr,rfl,by simpa using h,.refl F G w⟩
 | .tmp t::rs,env,H,G,w,pre,upre,K,h,hp,ho,hr=>by
  obtain ⟨htn,hr⟩:=hr
  obtain ⟨h1,ho1⟩:=Wb (P:=P) none true (.tmp t) h hp hn ho
  obtain ⟨us,hrun,vs,env',H',G',hK,hlen,hc,he⟩:=So hn rs (M8 P none true (.tmp t) env).2 H G w (pre++[(M8 P none true (.tmp t) env).1]) (upre++[a.eval (.tmp t)]) _ (by simpa using h1) (by simp [hp]) ho1 hr
  refine ⟨a.eval (.tmp t)::us, ?_,_,env',H',G',hK,by simp [hlen],by simpa using hc,he⟩
  have e0:IN a.tmps (.tmp t)=pure (a.eval (.tmp t)):=rfl
  simp only [C7,AJ,e0,Ad,Aa,hrun]
 | .cell t ty::rs,env,H,G,w,pre,upre,K,h,hp,ho,hr=>by
  obtain ⟨htn,hr⟩:=hr
  split at hr
  ·rename_i ob off hlk
   split at hr
   ·rename_i cs hob
    split at hr
    ·rename_i v hv
     obtain ⟨h1,ho1⟩:=Wb (P:=P) none false (.tmp t) h hp hn ho
     have e1:M8 P none false (.tmp t) env=(.ptr ob off,env):=by simp [M8,G5,hlk,AV.borrow,borrow0]
     rw [e1] at h1
     have key : ∀ R:AV->FR->Prop,(R v.borrow H\/R v (H.set ob (some (splice cs off (v.cells.map borrow1))))) -> ∃ u',(IN a.tmps (.cell t ty)).run P w = .ok u' w /\
       ∃ v' H' G',R v' H'/\Ed F G' (pre++v'::Gl n env) H' (upre++u'::a.tmps.toList) w/\Ext F G w G' w:=by
      intro R hR
      have hx:Ec G w (.ptr ob off) (a.eval (.tmp t)):=(((h1.l.split hp).2).uncons).1
      have hu : ∃ ad,a.eval (.tmp t) = .pointer (some ad):=by
       generalize a.eval (.tmp t)=u at hx
       cases hx;exact ⟨_,rfl⟩
      have hone:Ed (λ_=>False) G [AV.ptr ob off] H [a.eval (.tmp t)] w:=by
       have h2:Ed F G ((AV.ptr ob off::Gl n env)++pre) H ((a.eval (.tmp t)::a.tmps.toList)++upre) w:=h1.comm hp
       have h3:Ed F G ([AV.ptr ob off]++(Gl n env++pre)) H ([a.eval (.tmp t)]++(a.tmps.toList++upre)) w:=by simpa using h2
       have h4:=h3.split (A:=[AV.ptr ob off]) rfl
       exact ⟨h4.l.weaken λ_ h=>h.elim,h4.h.weaken λ_ h=>h.elim,h4.cnt⟩
      have hrun : ∃ u',(IN a.tmps (.cell t ty)).run P w = .ok u' w:=by
       have e0:IN a.tmps (.cell t ty)=(do loadVar ty (<- asAddr (a.eval (.tmp t)))):=rfl
       rw [e0]
       clear hone h1
       generalize a.eval (.tmp t)=u at hx
       cases hx with
       | ptr _ _ b hb hbc =>
        obtain ⟨u',h1,_⟩:=ak (P:=P) hv (O7 hbc.choose_spec.choose_spec (h.h.obj ob cs b hob hb))
        rw [AY] at h1
        exact ⟨u',by simpa [asAddr] using h1⟩
      obtain ⟨u',hrun⟩:=hrun
      refine ⟨u',hrun, ?_⟩
      refine h1.turn hp λF' hF hc1=>?_
      obtain ⟨u2,w2,hrun2,hk⟩:=ABY (P:=P) hu (Ob (P:=P) hc1 hob hv hR)
      have e5:IN a.tmps (.cell t ty)=(do loadVar ty (<- asAddr (a.eval (.tmp t)))):=rfl
      rw [<- e5,hrun] at hrun2
      cases hrun2
      exact hk
     have fin : ∀ (v':AV) (H1:FR),(eM P n rs env H1 λvs=>K (v'::vs))->(∀ R:AV->FR->Prop,R v' H1->R v.borrow H\/R v (H.set ob (some (splice cs off (v.cells.map borrow1))))) ->
       ∃ us,((ResultVar.cell t ty::rs).mapM (IN a.tmps)).run P w = .ok us w /\ ∃ vs env' H' G',K vs env' H'/\vs.length=us.length/\Ed F G' (pre++vs++Gl n env') H' (upre++us++a.tmps.toList) w/\Ext F G w G' w:=by
      intro v' H1 hrev hR
      obtain ⟨u',hrun,v2,H2,G2,⟨rfl,rfl⟩,hc2,he2⟩:=key (λa b=>a=v'/\b=H1) (hR (λa b=>a=v'/\b=H1) ⟨rfl,rfl⟩)
      obtain ⟨us,hrun',vs,env',H',G',hK,hlen,hc,he⟩:=So hn rs env H2 G2 w (pre++[v2]) (upre++[u']) _ (by simpa using hc2) (by simp [hp]) ho hrev
      refine ⟨u'::us, ?_,_,env',H',G',hK,by simp [hlen],by simpa using hc,he2.trans he⟩
      simp only [C7,AJ,hrun,Ad,Aa,hrun']
     by_cases hw:v.owned=true
     ·rw [iP hw] at hr
      exact fin _ _ hr λR h => .inr h
     ·rw [iN hw] at hr
      exact fin _ _ hr λR h => .inl h
    ·exact hr.elim
   ·exact hr.elim
  ·exact hr.elim
def eC{fn:Func}{tm:Array Value}{w w':World}{us:List Value}(h:(fn.results.toList.mapM (IN tm)).run P w = .ok us w'):
  (results fn tm).run P w = .ok (match (generalizing:=false) us with
   | [u]=>u
   | us => .tuple us.toArray) w':=by
 unfold results
 rw [Array.mapM_eq_mapM_toList]
 rw [AJ,Sem.run_map]
 have e : ∀ (g g':ResultVar->Sem Value) (l:List ResultVar),(∀ r,g r=g' r)->l.mapM g=l.mapM g':=λg g' l hg=>by rw [show g=g' from funext hg]
 rw [e _ (IN tm) fn.results.toList (λr=>by cases r<;>rfl),h]
 simp only [Aa,Ad]
 match us with
 | []=>simp
 | [t]=>simp
 | t::t'::ts=>simp
def qk{env:Ft}{a:Act}{fn:Func}{K:AV->FR->Prop}{ex:Exit}(hs:SRel F G n env H a w)(hq:TZ P n fn.results K ex env H):
  (ex = .normal\/ex = .ret) /\ ∃ v u H' G',K v H'/\Ed F G' [v] H' [u] w/\Ext F G w G' w/\(results fn a.tmps).run P w = .ok u w:=by
 have main:(eM P n fn.results.toList env H λvs _ H'=>QY K vs H') -> ∃ v u H' G',K v H'/\Ed F G' [v] H' [u] w/\Ext F G w G' w/\(results fn a.tmps).run P w = .ok u w:=by
  intro hq
  obtain ⟨us,hrun,vs,env',H',G',hK,hlen,hc,he⟩:=So (pre:=[]) (upre:=[]) hs.size fn.results.toList env H G w _ hs.c rfl hs.out hq
  have hres:=eC hrun
  have hc1:Ed F G' vs H' us w:=by
   have h1:=hc.split (A:=[]++vs) (B:=Gl n env') (by simpa using hlen)
   have h2:Ed (λb=>F b\/0<G9 b (Gl n env') a.tmps.toList) G' vs H' us w:=by simpa using h1
   exact ⟨h2.l.weaken λ_ h => .inl h,h2.h.weaken λ_ h => .inl h,h2.cnt⟩
  match vs,us,hlen with
  | [v],[u],_=>exact ⟨v,u,H',G',hK,hc1,he,hres⟩
  | [],[],_ =>
   obtain ⟨h1,h2,h3⟩:=dY _ _ hc1.l hK.1
   exact ⟨_,_,H',G',hK.2,hc1.one h1 h2 λb=>Dh (h3 b),he,hres⟩
  | v::v2::vs,u::u2::us,_ =>
   obtain ⟨h1,h2,h3⟩:=dY _ _ hc1.l hK.1
   exact ⟨_,_,H',G',hK.2,hc1.one h1 h2 λb=>Dh (h3 b),he,hres⟩
 cases ex with
 | normal=>exact ⟨.inl rfl,main hq⟩
 | ret=>exact ⟨.inr rfl,main hq⟩
 | _=>exact hq.elim
def CRel.shut{vs:List AV}{us:List Value}(h:Ed F G vs H us w){b:Nat}(hd:bC w b)(hF : ¬ F b):Ed F G vs H us (w.putObj b (.deferred none))/\Ext F G w G (w.putObj b (.deferred none)):=by
 have he:Ext F G w G (w.putObj b (.deferred none)):=Kc hF hd (λ_ _ _ e=>by cases e)
 have hne : ∀ b',b'≠b->(w.putObj b (.deferred none)).heap[b']? =w.heap[b']?:=λb' hn=>World.putObj_heap_other hn
 have hcells : ∀ {b':Nat} {C:Array Value} {E:TypeId},w.heap[b']? =some (.cells C E (0,0))->b'≠b:=λh3 e=>by
  subst e;unfold bC at hd;rw [hd] at h3;cases h3
 refine ⟨⟨⟨h.l.len,λi a u h1 h2=>(h.l.rel i a u h1 h2).keep he.keeps,λi a u h1 h2 p hp=>(h.l.tok i a u h1 h2 p hp).keep λb' hb'=>?_⟩,h.h.ext he rfl λb' hb'=>⟨rfl, ?_⟩,λb'=>?_⟩,he⟩
 ·obtain ⟨t1,_,C,E,t3⟩:=(h.l.tok i a u h1 h2 p hp).of_tok hb'
  exact ⟨t1,rfl,hne b' (hcells t3)⟩
 ·refine hne b' ?_
  rcases hb' with ⟨o,cs,h1,h2⟩|hb'
  ·intro e;subst e;exact (h.h.obj o cs _ h1 h2).not_isD hd
  ·obtain ⟨_,_,C,E,t3⟩:=h.h.tok_of_pos hb'
   exact hcells t3
 ·rw [Mz (G:=G) (w:=w) (G':=G) rfl λo cs b2 h1 h2=>hne b2 λe=>by subst e;exact (h.h.obj o cs _ h1 h2).not_isD hd]
  exact h.cnt b'
def Rp{fn:Func}{tm:Array Value}{R:Ending->World->Prop}{vs:List AV}{us:List Value}{G0:Gh}{w0:World}: ∀ (bs:List Nat) {w:World},Ed F G vs H us w->bs.Nodup->(∀ b∈bs,¬ F b/\bC w b)->Ext F G0 w0 G w ->
  (∀ w',Ed F G vs H us w'->Ext F G0 w0 G w' -> ∃ v,(results fn tm).run P w' = .ok v w'/\R (.returned v) w') ->
  LeavesInM Fence.wide 0 P fn tm R (bs.map λb=>{ target:=.collected b,args:=#[] }) .returning w
 | [],w,hc,_,_,he,hk=>hk w hc he
 | b::bs,w,hc,hn,hb,he,hk=>by
  obtain ⟨h1,h2⟩:=List.nodup_cons.1 hn
  obtain ⟨hF,hd⟩:=hb b sm
  obtain ⟨hc',he'⟩:=hc.shut hd hF
  refine ⟨sm,.inl ⟨b,_,rfl,run_takeDeferred (P:=P) hd,Rp bs hc' h2 (λb' hb'=>⟨(hb b' (by simp [hb'])).1, ?_⟩) (he.trans he') hk⟩⟩
  have h3:=(hb b' (by simp [hb'])).2
  unfold bC at h3 ⊢
  rw [World.putObj_heap_other (λ(e:b'=b)=>h1 (by rw [<- e];exact hb'))];exact h3
def J8 {f:FuncId} {fn:Func} {c:Code} {h:Ee} {vs:List AV} {us:List Value} {K:AV->FR->Prop} (hg:h.gc=[]\/G.obs=[]) (hm:P.follows .mixedOrders=true) (hd:fn.body.any (GZ h)=true) (hf:P.funcs[f]? =some fn) (hb:fn.body=some c)
  (hn:vs.length<=fn.ntmps) (ha:I3 P fn.ntmps h none c (TZ P fn.ntmps fn.results K) (GQ 0 vs) H) (hc:Ed F G vs H us w) :
  Calls P f us.toArray w λe w' => ∃ u,e = .returned u /\ ∃ v H' G',K v H'/\Ed F G' [v] H' [u] w'/\Ext F G w G' w':=by
 have hlen:=hc.l.len
 have hs:SRel F G fn.ntmps (GQ 0 vs) H { tmps:=us.toArray++Array.replicate (fn.ntmps - us.toArray.size) Go.undef,defers:=[] } w:=by
  refine ⟨by simp;omega,.nil F w,λt ht=>?_, ?_⟩
  ·rw [Kp,iP (BW _),List.getElem?_eq_none (by simp;exact AK hn ht)];rfl
  ·rw [Wd vs hn]
   have:=hc.args (fn.ntmps - vs.length)
   simp only [DB,Array.toList_replicate,List.size_toArray]
   rw [<- hlen]
   exact this
 refine callsIn_wide.1 (callsIn_of_wp_marks (F:=Fence.wide) (n:=0) hf hb trivial (show c.wpIn (dP none) 0 P _ _ w from I2 hm c none none F G w hg trivial (by rw [hb] at hd;exact hd) _ _ G _ H _ w hs (.refl F G w) ha λex a' w' hl=>?_))
 obtain ⟨env',H',G',hq,hs',he⟩:=hl
 have hex:ex = .normal\/ex = .ret:=(qk hs' hq).1
 obtain ⟨bs,hb1,hb2,hb3⟩:=hs'.defers
 have hfin:LeavesInM Fence.wide 0 P fn a'.tmps (λe w' => ∃ u,e = .returned u /\ ∃ v H' G',K v H'/\Ed F G' [v] H' [u] w'/\Ext F G w G' w') a'.defers .returning w':=by
  rw [hb1]
  refine Rp bs hs'.c hb2 hb3 he λw2 hc2 he2=>?_
  obtain ⟨_,v,u,H2,G2,hK,hcr,he3,hrun⟩:=qk (a:={ tmps:=a'.tmps,defers:=[] }) ⟨hs'.size,.nil F w2,hs'.out,hc2⟩ hq
  exact ⟨u,hrun,u,rfl,v,H2,G2,hK,hcr,he2.trans he3⟩
 rcases hex with rfl|rfl
 ·exact hfin
 ·exact hfin
def lP {f:FuncId} {fn:Func} {c:Code} {vs:List AV} {R:AV->FR->Prop} (h:Ee) (hg:h.gc=[]) (hm:P.follows .mixedOrders=true) (hd:fn.body.any (GZ h)=true) (hf:P.funcs[f]? =some fn) (hb:fn.body=some c) (hcal:HS P f=true)
  (hn:vs.length<=fn.ntmps) (ha:I3 P fn.ntmps h none c (TZ P fn.ntmps fn.results R) (GQ 0 vs) H):FZ P f vs H R :=
 ⟨hcal,λF G w us hc=>J8 (.inl hg) hm hd hf hb hn ha hc⟩
def bD(F:Nat->Prop)(G:Gh)(H:FR)(w:World)(b:Nat):Prop :=
 F b\/(∃ (o:Nat) (cs:List AV),H[o]? =some (some cs)/\G.obs[o]? =some b)\/0<IL G H w b
def CRel.hide{vs:List AV}{us:List Value}(hc:Ed F G vs H us w)(hp : ∀ v∈vs,v.pure=true):Ed (bD F G H w) ⟨[],G.kind⟩ vs [] us w:=by
 refine ⟨⟨hc.l.len,λi a u h1 h2=>VRel.pure (G:=G) (G':=⟨[],G.kind⟩) rfl (hc.l.rel i a u h1 h2) (hp a (AB h1)),λi a u h1 h2 p hm=>?_⟩,
  ⟨rfl,λo cs b h1 _=>by simp at h1,λo o' cs cs' b h1 _ _ _=>by simp at h1,λb hb=>?_,hc.h.glob.same rfl⟩,λb=>?_⟩
 ·have ht:=hc.l.tok i a u h1 h2 p hm
  refine (Option.eq_none_or_eq_some (tok p)).elim F7 λ⟨b,hb⟩=>?_
  have hx:=ht.of_tok hb
  have key:GB (bD F G H w) G w p:=ht.keep λb' hb'=>by
   rw [hb] at hb';cases hb'
   refine ⟨?_,rfl,rfl⟩
   rintro (h|⟨o,cs,h3,h4⟩|h)
   ·exact hx.1 h
   ·obtain ⟨_,⟨q,hq⟩,_⟩:=hx
    exact (hc.h.obj o cs b h3 h4).no_buf hq
   ·have h5:=MF h1 h2 hm hb
    have:=hc.cnt b
    omega
  exact key
 ·rcases hb with h|⟨o,cs,h3,h4⟩|h
  ·exact hc.h.fore b h
  ·exact hc.h.block_lt h3 h4
  ·obtain ⟨_,_,C,E,hh⟩:=hc.h.tok_of_pos h
   exact (Array.getElem?_eq_some_iff.1 hh).1
 ·have:=hc.cnt b
  show G9 b vs us+IL _ [] w b<=1
  simp only [IL,AH,EF,Ah,List.sum_nil]
  omega
def CRel.unhide {vs:List AV} {us:List Value} (hc:Ed F G vs H us w) {G':Gh} {H2:FR} {v:AV} {u:Value} {w':World} (hv:v.pure=true)
  (hr:Ed (bD F G H w) G' [v] H2 [u] w') (he:Ext (bD F G H w) ⟨[],G.kind⟩ w G' w') :
  Ed F ⟨G.obs,G'.kind⟩ [v] H [u] w'/\Ext F G w ⟨G.obs,G'.kind⟩ w':=by
 have hk:Keeps G w ⟨G.obs,G'.kind⟩ w':=⟨λ_ _ h=>h,he.keeps.shape,λb hb hs=>he.keeps.sp b hb hs,λb o x hs hcell=>he.keeps.safe b o x hs hcell⟩
 have hext:Ext F G w ⟨G.obs,G'.kind⟩ w':=⟨he.size,hk,λb hb=>he.kind b (.inl hb),λb hb=>he.cells b (.inl hb),he.io⟩
 obtain ⟨h1,h2,_⟩:=hr.l.uncons
 refine ⟨⟨.cons (VRel.pure (G:=G') (G':=⟨G.obs,G'.kind⟩) rfl h1 hv) (λp hp=>?_) (.nil F _ _), ?_,λb=>?_⟩,hext⟩
 ·have:=(h2 p hp).weaken (F:=F) λb hb => .inl hb
  exact this
 ·exact hc.h.ext hext rfl λb hb=>⟨he.kind b (.inr hb),he.cells b (.inr hb)⟩
 ·have e:IL ⟨G.obs,G'.kind⟩ H w' b=IL G H w b:=Mz rfl (λo cs b' g1 g2=>he.cells b' (.inr (.inl ⟨o,cs,g1,g2⟩))) b
  rw [e,Fb,GR]
  by_cases h0:0<IL G H w b
  ·have h3 : ¬ 0<G9 b [v] [u]:=λhp=>(hr.l.tok_of_pos hp).1 (.inr (.inr h0))
   rw [Fb,GR] at h3
   have:=hc.cnt b
   omega
  ·have:=hr.cnt b
   rw [Fb,GR] at this
   omega
def AD7 {f:FuncId} {fn:Func} {c:Code} {vs:List AV} {Q:AV->Prop} (h:Ee) (hm:P.follows .mixedOrders=true) (hd:fn.body.any (GZ h)=true) (hf:P.funcs[f]? =some fn) (hb:fn.body=some c) (hcal:HS P f=true)
  (hn:vs.length<=fn.ntmps) (hp:FV vs=true) (ha:I3 P fn.ntmps h none c (TZ P fn.ntmps fn.results λv' _=>v'.pure=true/\Q v') (GQ 0 vs) []):Jo P f vs Q:=λH =>
 ⟨hcal,λF G w us hc=>Calls.mono (J8 (.inr rfl) hm hd hf hb hn ha (hc.hide (IE hp))) λe w' he=>by
  obtain ⟨u,rfl,v',H2,G',⟨hv,hq⟩,hcr,hext⟩:=he
  obtain ⟨h1,h2⟩:=hc.unhide hv hcr hext
  exact ⟨u,rfl,v',H,_,⟨hq,rfl⟩,h1,h2⟩⟩
def AEB {f:FuncId} {fn:Func} {c:Code} {vs:List AV} {v:AV} (h:Ee) (hm:P.follows .mixedOrders=true) (hd:fn.body.any (GZ h)=true) (hf:P.funcs[f]? =some fn) (hb:fn.body=some c) (hcal:HS P f=true)
  (hn:vs.length<=fn.ntmps) (hp:FV vs=true) (hv:v.pure=true) (ha:I3 P fn.ntmps h none c (TZ P fn.ntmps fn.results λv' _=>v'=v) (GQ 0 vs) []):A' P f vs v:=λH =>
 ⟨hcal,λF G w us hc=>Calls.mono (J8 (.inr rfl) hm hd hf hb hn ha (hc.hide (IE hp))) λe w' he=>by
  obtain ⟨u,rfl,v',H2,G',rfl,hcr,hext⟩:=he
  obtain ⟨h1,h2⟩:=hc.unhide hv hcr hext
  exact ⟨u,rfl,_,H,_,⟨rfl,rfl⟩,h1,h2⟩⟩
end
end Go.AI
namespace Go.AI
abbrev Kt:=Ft->FR->Prop
def Xf(x:Operand)(v:AV)(e:Ft):Ft :=
 match v.owned,x with
 | true,.tmp t=>(t,v.borrow)::e
 | _,_=>e
def bnd(r:Option AV)(d:Tmp)(K:Kt)(e:Ft)(H:FR):Prop :=
 match r with
 | some v=>K ((d,v)::e) H
 | none=>False
def AGf(r:Option (AV×FR))(d:Option Tmp)(K:Kt)(e:Ft):Prop :=
 match r with
 | some (v,H)=>K (put d v e) H
 | none=>False
def WS(c:AV)(b:Bool)(A B:Kt)(e:Ft)(H:FR):Prop :=
 match c with
 | .bool c=>if c=b then A e H else B e H
 | .tup _=>B e H
 | _=>False
def ACO(t:Option Tmp)(b:Bool)(A B:Kt)(e:Ft)(H:FR):Prop :=
 match t with
 | some t=>WS (Fp e t) b A B e H
 | none=>False
def AAM(n:Nat)(d:Option Tmp)(K:Kt)(e:Ft)(H:FR):Prop:=Gi n d/\K (put d (.tup []) e) H
def jF(c:AV)(A B:Kt)(e:Ft)(H:FR):Prop :=
 match c with
 | .bool t=>if t=true then A e H else B e H
 | _=>False
def AAO(B:Kt)(Q:Exit->Kt)(ex:Exit):Kt:=λe H =>
 match ex with
 | .normal=>B e H
 | ex=>Q ex e H
def ba(id:Nat)(Q:Exit->Kt)(ex:Exit):Kt:=λe H =>
 match ex with
 | .exit j=>if j=id then Q .normal e H else Q (.exit j) e H
 | ex=>Q ex e H
def YE(zs:List (Tmp×Option Nat×Bool))(Q:Exit->Kt):Kt:=λe H=>Q .normal (KZ zs e H).1 (KZ zs e H).2
def gcK(g:Option Nat)(Q:Exit->Kt)(ex:Exit):Kt:=λe H =>
 match ex with
 | .normal=>Q .normal e (US g e H)
 | ex=>Q ex e H
def oD(live:List Tmp)(zs:List (Tmp×Option Nat×Bool))(Q:Exit->Kt):Kt:=λe H=>YE zs Q (He live e) H
def qa(P:Program)(t:TypeId)(a:AV)(H:FR):Option (AV×FR) :=
 match a with
 | .ptr ob off=>match H[ob]? with
  | some (some cs)=>match Lb P t cs off with
   | some v=>if v.owned=true then some (v,H.set ob (some (splice cs off (v.cells.map borrow1)))) else some (v.borrow,H)
   | none=>none
  | _=>none
 | _=>none
def rdK(r:Option (AV×FR))(K:AV->FR->Prop):Prop :=
 match r with
 | some (v,H)=>K v H
 | none=>False
def XI(P:Program)(f:FuncId)(vs:List AV)(d:Option Tmp)(K:Kt)(e:Ft)(H:FR):Prop:=∃ v,A' P f vs v/\K (put d v e) H
def Fr(P:Program)(f:FuncId)(vs:List AV)(d:Option Tmp)(K:Kt)(e:Ft)(H:FR):Prop:=FZ P f vs H λv H'=>K (put d v e) H'
section
variable {P:Program} {n:Nat} {h:Ee} {ops:Array Oper} {K:Kt} {p:Tmp×AV} {e:Ft} {H:FR} {d:Tmp} {ty:TypeId} {ps:String} {af:Array Edge} {Q:Exit->Kt} {ar:Option Nat}
def td(t k:Tmp)(v:AV):Fp ((k,v)::e) t=if k=t then v else Fp e t:=rfl
def ABW(t:Tmp):Fp [] t = .undef:=rfl
def xr:He [] e=[]:=rfl
def oO(t:Tmp)(l:List Tmp):He (t::l) e=(t,Fp e t)::He l e:=rfl
def AAf(v:AV):put (some d) v e=(d,v)::e:=rfl
def oE:Gi n (some d)=(d<n):=rfl
def AF5(o:Option TypeId)(t:Tmp):G5 P o e (.tmp t)=Fp e t:=rfl
def AF7(o:Option TypeId)(k:IntKind)(m:Int):G5 P o e (.const (.int k m)) = .int k m:=rfl
def ACl(o:Option TypeId)(b:Bool):G5 P o e (.const (.bool b)) = .bool b:=rfl
def AF6(o:Option TypeId)(s:ByteArray):G5 P o e (.const (.string s)) = .str s:=rfl
def ACi(o:Option TypeId):G5 P o e (.const (.pointer none)) = .nilp:=rfl
def ACj(o:Option TypeId):G5 P o e (.const .nilFunc) = .nilf:=rfl
def ACh(o:Option TypeId):G5 P o e (.const (.slice none 0 0)) = .sl (S5 P o) []:=rfl
def ACk(o:Option TypeId)(f:FuncId):G5 P o e (.func f) = .fn (.func f) [] []:=rfl
def f0:S5 P none=none:=rfl
def fy(t:TypeId):S5 P (some t)=match P.underlying t with
  | some (.slice e)=>some (P.cellsOf e)
  | _=>none:=rfl
def tL(k:IntKind)(m:Int):(AV.int k m).owned=false:=rfl
def mZ(b:Bool):(AV.bool b).owned=false:=rfl
def tG(b:ByteArray):(AV.str b).owned=false:=rfl
def mU:AV.nilp.owned=false:=rfl
def tJ(a b:Nat):(AV.ptr a b).owned=false:=rfl
def mY(a:List AV)(b:Nat):(AV.cptr a b).owned=false:=rfl
def tI(es:List AV):(AV.sl none es).owned=false:=rfl
def tH(k:Nat)(es:List AV):(AV.sl (some k) es).owned=true:=rfl
def tK(a b c k:Nat):(AV.msl a b c k).owned=false:=rfl
def mW(a b c k m:Nat):(AV.mslc a b c k m).owned=false:=rfl
def ABB(f:Fn)(a b:List AV):(AV.fn f a b).owned=false:=rfl
def mV:AV.nilf.owned=false:=rfl
def tM(cs:List AV):(AV.agg cs).owned=cs.any F8:=rfl
def tF(cs:List AV):(AV.tup cs).owned=(cs.flatMap AV.cells).any F8:=rfl
def ma(es:List AV):F8 (AV.sl none es)=false:=rfl
def md(k:IntKind)(m:Int):F8 (AV.int k m)=false:=rfl
def fQ(b:Bool):F8 (AV.bool b)=false:=rfl
def mc(a b c k:Nat):F8 (AV.msl a b c k)=false:=rfl
def pM(k:IntKind)(m:Int):(AV.int k m).borrow = .int k m:=rfl
def ja(b:Bool):(AV.bool b).borrow = .bool b:=rfl
def pI(b:ByteArray):(AV.str b).borrow = .str b:=rfl
def pJ(a b:Nat):(AV.ptr a b).borrow = .ptr a b:=rfl
def jZ(a:List AV)(b:Nat):(AV.cptr a b).borrow = .cptr a b:=rfl
def yQ(o:Option Nat)(es:List AV):(AV.sl o es).borrow = .sl none es:=rfl
def pL(a b c k:Nat):(AV.msl a b c k).borrow = .msl a b c k:=rfl
def jX(a b c k m:Nat):(AV.mslc a b c k m).borrow = .mslc a b c k m:=rfl
def yR(f:Fn)(a b:List AV):(AV.fn f a b).borrow = .fn f a b:=rfl
def pN(cs:List AV):(AV.agg cs).borrow = .agg (cs.map borrow1):=rfl
def pH(cs:List AV):(AV.tup cs).borrow = .tup (cs.map borrow0):=rfl
def pO(o:Option Nat)(es:List AV):borrow1 (AV.sl o es) = .sl none es:=rfl
def jb(k:IntKind)(m:Int):borrow1 (AV.int k m) = .int k m:=rfl
def yD(cs:List AV):(AV.agg cs).cells=cs:=rfl
def yC(k:IntKind)(m:Int):(AV.int k m).cells=[.int k m]:=rfl
def oW(b:Bool):(AV.bool b).cells=[.bool b]:=rfl
def xz(b:ByteArray):(AV.str b).cells=[.str b]:=rfl
def oS:AV.nilp.cells=[.nilp]:=rfl
def yA(a b:Nat):(AV.ptr a b).cells=[.ptr a b]:=rfl
def ACw(o:Option Nat)(es:List AV):(AV.sl o es).cells=[.sl o es]:=rfl
def yB(a b c k:Nat):(AV.msl a b c k).cells=[.msl a b c k]:=rfl
def uR(cs:List AV):(AV.agg cs).isVal=true:=rfl
def uQ(k:IntKind)(m:Int):(AV.int k m).isVal=true:=rfl
def nV(b:Bool):(AV.bool b).isVal=true:=rfl
def uN(b:ByteArray):(AV.str b).isVal=true:=rfl
def uO(a b:Nat):(AV.ptr a b).isVal=true:=rfl
def ABx(o:Option Nat)(es:List AV):(AV.sl o es).isVal=true:=rfl
def uP(a b c k:Nat):(AV.msl a b c k).isVal=true:=rfl
def mX(a:Nat):(AV.mapr a).owned=false:=rfl
def tE(a:Nat)(L:Ef):(AV.yld a L).owned=false:=rfl
def tN(f:Fn)(a b:List AV):F8 (AV.fn f a b)=false:=rfl
def fP:F8 AV.nilf=false:=rfl
def jY(a:Nat):(AV.mapr a).borrow = .mapr a:=rfl
def pG(a:Nat)(L:Ef):(AV.yld a L).borrow = .yld a L:=rfl
def oV(a:Nat):(AV.mapr a).cells=[.mapr a]:=rfl
def oT:AV.nilm.cells=[.nilm]:=rfl
def ACx(f:Fn)(a b:List AV):(AV.fn f a b).cells=[.fn f a b]:=rfl
def oU:AV.nilf.cells=[.nilf]:=rfl
def xy(a:Nat)(L:Ef):(AV.yld a L).cells=[.yld a L]:=rfl
def nU(a:Nat):(AV.mapr a).isVal=true:=rfl
def ABy(f:Fn)(a b:List AV):(AV.fn f a b).isVal=true:=rfl
def uM(a:Nat)(L:Ef):(AV.yld a L).isVal=true:=rfl
def z7(b:Bool)(x:Operand)(v:AV)(e:Ft):Ft :=
 match b,x with
 | true,.tmp t=>(t,v.borrow)::e
 | _,_=>e
def AWK(x:Operand)(v:AV):Xf x v e=z7 v.owned x v e:=rfl
def AIS(x:Operand)(v:AV):z7 false x v e=e:=rfl
def AIR(t:Tmp)(v:AV):z7 true (.tmp t) v e=(t,v.borrow)::e:=rfl
def lx(b:Bool)(c:Value)(v:AV):z7 b (.const c) v e=e:=by cases b<;>rfl
def sQ(b:Bool)(f:FuncId)(v:AV):z7 b (.func f) v e=e:=by cases b<;>rfl
def ADK(v:AV):bnd (some v) d K e H=K ((d,v)::e) H:=AG rfl rfl
def yU(v:AV)(dd:Option Tmp):AGf (some (v,H)) dd K e=K (put dd v e) H:=AG rfl rfl
def nq(t:Tmp)(b:Bool)(A B:Kt):ACO (some t) b A B e H=WS (Fp e t) b A B e H:=AG rfl rfl
def AFr(A B:Kt):WS (.bool true) true A B e H=A e H:=AG rfl rfl
def AFu(A B:Kt):WS (.bool false) false A B e H=A e H:=AG rfl rfl
def AFs(A B:Kt):WS (.bool true) false A B e H=B e H:=AG rfl rfl
def AFt(A B:Kt):WS (.bool false) true A B e H=B e H:=AG rfl rfl
def ACP(b:Bool)(vs:List AV)(A B:Kt):WS (.tup vs) b A B e H=B e H:=by simp [WS]
def AAL(dd:Option Tmp):AAM n dd K e H=(Gi n dd/\K (put dd (.tup []) e) H):=AG rfl rfl
def AGD(A B:Kt):jF (.bool true) A B e H=A e H:=AG rfl rfl
def AGE(A B:Kt):jF (.bool false) A B e H=B e H:=AG rfl rfl
def T4(t:Bool)(A B:Kt)(ht:t=true->A e H)(hf:t=false->B e H):jF (.bool t) A B e H:=by
 cases t
 ·exact hf rfl
 ·exact ht rfl
def nr(t b:Bool)(A B:Kt)(ht:t=b->A e H)(hf:t=(!b)->B e H):WS (.bool t) b A B e H:=by
 cases t<;>cases b<;>first|exact ht rfl|exact hf rfl
def ADk:LF P n h ops [] K (p::e) H=K (p::e) H:=AG rfl rfl
def ye(o:Oper)(l:List Oper):LF P n h ops (o::l) K (p::e) H=IY P n h ops o (LF P n h ops l K) (p::e) H:=AG rfl rfl
def ADh:I3 P n h ar .skip Q (p::e) H=Q .normal (p::e) H:=AG rfl rfl
def AGk:I3 P n h ar .ret Q (p::e) H=Q .ret (p::e) H:=AG rfl rfl
def ADi(id:Nat):I3 P n h ar (.exit id) Q (p::e) H=Q (.exit id) (p::e) H:=AG rfl rfl
def AGj(a b:Code):I3 P n h ar (.seq a b) Q (p::e) H=I3 P n h ar a (AAO (I3 P n h ar b Q) Q) (p::e) H:=AG rfl rfl
def yd(id:Nat)(c:Code):I3 P n h ar (.block id c) Q (p::e) H=I3 P n h ar c (ba id Q) (p::e) H:=AG rfl rfl
def ADj(c:Operand)(a b:Code):I3 P n h ar (.cond c a b) Q (p::e) H=jF (G5 P none (p::e) c) (I3 P n h ar a Q) (I3 P n h ar b Q) (p::e) H:=AG rfl rfl
def pS(id:Nat)(ops:Array Oper)(dr:Bool)(hd:h.dn id=false):I3 P n h ar (.region id ops dr) Q (p::e) H=LF P n h ops ops.toList (oD (h.lv id) (h.at id) (gcK (h.ct id) Q)) (p::e) H:=by
 obtain ⟨h1,h2⟩:=qM hd ops
 have e1:(λe H=>(h.da id=true->Ja P h ops e)/\Q .normal (KZ (h.at id) (He (h.lv id) e) H).1 (US (h.ct id) (KZ (h.at id) (He (h.lv id) e) H).1 (KZ (h.at id) (He (h.lv id) e) H).2))=oD (h.lv id) (h.at id) (gcK (h.ct id) Q):=by
  funext e H
  simp only [h1,Bw,false_implies,true_and]
  rfl
 show LF P n h ops (h.ord id ops) _ (p::e) H=_
 rw [<- e1,h2]
def AcI(P:Program)(h:Ee)(ops:Array Oper)(K:Kt):Kt:=λe H=>Ja P h ops e/\K e H
def HT(id:Nat)(ops:Array Oper)(dr:Bool)(hd:h.dn id=true)(ha:h.da id=true)(hm:h.mv id=[]):I3 P n h ar (.region id ops dr) Q (p::e) H=LF P n h ops ops.toList (AcI P h ops (oD (h.lv id) (h.at id) (gcK (h.ct id) Q))) (p::e) H:=by
 have e1:(λe H=>(h.da id=true->Ja P h ops e)/\Q .normal (KZ (h.at id) (He (h.lv id) e) H).1 (US (h.ct id) (KZ (h.at id) (He (h.lv id) e) H).1 (KZ (h.at id) (He (h.lv id) e) H).2))=AcI P h ops (oD (h.lv id) (h.at id) (gcK (h.ct id) Q)):=by
  funext e H
  simp only [ha,true_implies]
  rfl
 have h2:h.ord id ops=ops.toList:=by unfold Hint.ord;rw [hm]
 show LF P n h ops (h.ord id ops) _ (p::e) H=_
 rw [<- e1,h2]
def PE(id:Nat)(ops:Array Oper)(dr:Bool)(hd:h.dn id=true)(ha:h.da id=false):I3 P n h ar (.region id ops dr) Q (p::e) H=LF P n h ops (h.ord id ops) (oD (h.lv id) (h.at id) (gcK (h.ct id) Q)) (p::e) H:=by
 have e1:(λe H=>(h.da id=true->Ja P h ops e)/\Q .normal (KZ (h.at id) (He (h.lv id) e) H).1 (US (h.ct id) (KZ (h.at id) (He (h.lv id) e) H).1 (KZ (h.at id) (He (h.lv id) e) H).2))=oD (h.lv id) (h.at id) (gcK (h.ct id) Q):=by
  funext e H
  simp only [ha,Bw,false_implies,true_and]
  rfl
 show LF P n h ops (h.ord id ops) _ (p::e) H=_
 rw [<- e1]
def rfK(P:Program)(n:Nat)(h:Ee)(ar:Option Nat)(g:Operand)(rs:Array Tmp)(assign body:Code)(Q:Exit->Kt):Kt:=I3 P n h ar (.rangeFunc g rs assign body) Q
def YK(g:Operand)(rs:Array Tmp)(assign body:Code):I3 P n h ar (.rangeFunc g rs assign body) Q (p::e) H=rfK P n h ar g rs assign body Q (p::e) H:=AG rfl rfl
def AF9(live:List Tmp)(zs:List (Tmp×Option Nat×Bool)):oD live zs Q (p::e) H=YE zs Q (He live (p::e)) H:=AG rfl rfl
def ACU:YE [] Q e H=Q .normal e H:=AG rfl rfl
def xg(z:Tmp×Option Nat×Bool)(zs:List (Tmp×Option Nat×Bool)):YE (z::zs) Q e H=YE zs Q (iY z e H).1 (iY z e H).2:=rfl
def ACT:gcK none Q=Q:=by
 funext ex e H
 cases ex<;>rfl
def ACS(k:Nat):gcK (some k) Q .normal e H=if k<=H.length/\Fl k (e.map (·.2))=true/\VA (H.take k)=true then Q .normal e (H.take k) else Q .normal e H:=by
 simp only [gcK,US]
 split<;>rfl
def d8(B:Kt):AAO B Q .normal=B:=AG rfl rfl
def AAN(B:Kt):AAO B Q .ret=Q .ret:=AG rfl rfl
def sY(B:Kt)(j:Nat):AAO B Q (.exit j)=Q (.exit j):=AG rfl rfl
def je(id:Nat):ba id Q .normal=Q .normal:=AG rfl rfl
def ADL(id:Nat):ba id Q .ret=Q .ret:=AG rfl rfl
def ADM(id:Nat):ba id Q (.exit id)=Q .normal:=by
 funext e H;simp [ba]
def yV(id j:Nat)(hj:(j==id)=false):ba id Q (.exit j)=Q (.exit j):=by
 funext e H
 have:j≠id:=by simpa using hj
 simp [ba,this]
def AD6(rs:Array ResultVar)(K:AV->FR->Prop):TZ P n rs K .ret e H=eM P n rs.toList e H λvs _ H'=>QY K vs H':=AG rfl rfl
def kP(rs:Array ResultVar)(K:AV->FR->Prop):TZ P n rs K .normal e H=eM P n rs.toList e H λvs _ H'=>QY K vs H':=AG rfl rfl
def AE2(K:List AV->Ft->FR->Prop):eM P n [] e H K=K [] e H:=AG rfl rfl
def AE1(t:Tmp)(rs:List ResultVar)(K:List AV->Ft->FR->Prop):eM P n (.tmp t::rs) e H K=(t<n/\eM P n rs (Xf (.tmp t) (Fp e t) e) H λvs=>K (Fp e t::vs)):=by
 have e1:(M8 P none true (.tmp t) e).2=Xf (.tmp t) (Fp e t) e:=by
  simp only [M8,G5,Xf]
  cases (Fp e t).owned<;>rfl
 simp only [eM,e1]
 rfl
def eI(t:Tmp)(ty:TypeId)(rs:List ResultVar)(K:List AV->Ft->FR->Prop):eM P n (.cell t ty::rs) e H K=(t<n/\rdK (qa P ty (Fp e t) H) λv H'=>eM P n rs e H' λvs=>K (v::vs)):=by
 simp only [eM,qa]
 congr 1
 cases Fp e t with
 | ptr ob off =>
  dsimp only
  cases H[ob]? with
  | none=>rfl
  | some c=>cases c with
   | none=>rfl
   | some cs =>
    dsimp only
    cases Lb P ty cs off with
    | none=>rfl
    | some v =>
     dsimp only
     by_cases hv:v.owned=true
     ·rw [iP hv,iP hv];rfl
     ·rw [iN hv,iN hv];rfl
 | _=>rfl
def AAb(v:AV)(K:AV->FR->Prop):rdK (some (v,H)) K=K v H:=AG rfl rfl
def AAW(v:AV)(K:AV->FR->Prop):QY K [v] H=K v H:=AG rfl rfl
def AAX(K:AV->FR->Prop):QY K [] H=K (.tup []) H:=by simp [QY]
def AAV(u v:AV)(K:AV->FR->Prop):QY K [u,v] H=(u.isVal=true/\v.isVal=true/\K (.tup [u,v]) H):=by simp [QY,and_assoc]
def mC(u v x:AV)(K:AV->FR->Prop):QY K [u,v,x] H=(u.isVal=true/\v.isVal=true/\x.isVal=true/\K (.tup [u,v,x]) H):=by simp [QY,and_assoc]
def XI.intro{f:FuncId}{vs:List AV}{dd:Option Tmp}{v:AV}(hc:A' P f vs v)(hk:K (put dd v e) H):XI P f vs dd K e H:=⟨v,hc,hk⟩
def Fr.intro{f:FuncId}{vs:List AV}{dd:Option Tmp}{R:AV->FR->Prop}(hc:FZ P f vs H R)(hk : ∀ v H',R v H'->K (put dd v e) H'):Fr P f vs dd K e H:=hc.mono hk
def Fr.pure{f:FuncId}{vs:List AV}{dd:Option Tmp}{v:AV}(hc:A' P f vs v)(hk:K (put dd v e) H):Fr P f vs dd K e H:=(hc H).mono λv' H' hq=>by obtain ⟨rfl,rfl⟩:=hq;exact hk
def Jp{f:FuncId}{vs:List AV}{dd:Option Tmp}{Q:AV->Prop}(hc:Jo P f vs Q)(hk : ∀ v,Q v->K (put dd v e) H):Fr P f vs dd K e H:=(hc H).mono λv' H' hq=>by obtain ⟨h1,rfl⟩:=hq;exact hk v' h1
end
end Go.AI
namespace Go.AI
def JC(P:Program):List Operand->Ft->List AV×Ft
 | [],e=>([],e)
 | x::xs,e=>((G5 P none e x)::(JC P xs (Xf x (G5 P none e x) e)).1,(JC P xs (Xf x (G5 P none e x) e)).2)
def Yv(P:Program)(tk:Bool)(t:TypeId)(a:AV)(H:FR):Option (AV×FR) :=
 match a with
 | .ptr ob off=>match H[ob]? with
  | some (some cs)=>match Lb P t cs off with
   | some v=>match tk with
    | true=>if v.owned=true/\v.scalar=true then some (v,H.set ob (some (splice cs off (v.cells.map borrow1)))) else none
    | false=>some (v.borrow,H)
   | none=>none
  | _=>none
 | .cptr cs off=>match Lb P t cs off with
  | some v=>some (v.borrow,H)
  | none=>none
 | _=>none
def VI(P:Program)(t:TypeId)(a v:AV)(H:FR):Option FR :=
 match a with
 | .ptr ob off=>match H[ob]? with
  | some (some cs)=>if v.isVal=true/\v.cells.length=P.cellsOf t/\0<P.cellsOf t/\off+P.cellsOf t<=cs.length then some (H.set ob (some (splice cs off v.cells))) else none
  | _=>none
 | _=>none
def stK(r:Option FR)(K:Kt)(e:Ft):Prop :=
 match r with
 | some H=>K e H
 | none=>False
def sI(a:AV)(k:Nat):Option AV :=
 match a with
 | .ptr ob off=>some (.ptr ob (off+k))
 | .cptr cs off=>some (.cptr cs (off+k))
 | _=>none
def fieldAt(P:Program)(s f:Nat):Option Field :=
 match P.underlying s with
 | some (.struct fs)=>fs[f]?
 | _=>none
def Sf(P:Program)(fd:Option Field)(x:AV):Option AV :=
 match fd with
 | some fd=>if 0<P.cellsOf fd.type then sI x fd.offset else none
 | none=>none
def Yu(P:Program)(fd:Option Field)(x:AV):Option AV :=
 match fd,x with
 | some fd,.agg cs=>Lb P fd.type cs fd.offset
 | _,_=>none
def zt(x:AV):Option AV :=
 match x with
 | .ptr ob off=>some (.ptr ob off)
 | .cptr cs off=>some (.cptr cs off)
 | .fn (.func f) a b=>some (.fn (.func f) a b)
 | .yld o L=>some (.yld o L)
 | _=>none
def zo(c a b:AV):Option AV :=
 match c with
 | .bool c=>some (if c=true then a else b)
 | _=>none
def OR(x:AV)(i:Nat):Option AV :=
 match x with
 | .tup vs=>vs[i]?
 | _=>none
def zu(d:Option TypeDesc)(x:AV):Option AV :=
 match d,x with
 | some (.slice _),.sl _ es=>some (.int .i64 es.length)
 | some (.slice _),.msl _ _ len _=>some (.int .i64 len)
 | some (.slice _),.mslc _ _ len _ _=>some (.int .i64 len)
 | some .string,.str s=>some (.int .i64 s.size)
 | some (.array n _),_=>some (.int .i64 n)
 | _,_=>none
def vUn(op:UnOp)(x:AV):Option AV :=
 match op,x with
 | .neg,.int k m=>some (.int k (k.wrap (0 - m)))
 | .not,.bool b=>some (.bool !b)
 | _,_=>none
section
variable {P:Program} {n:Nat} {h:Ee} {ops:Array Oper} {K:Kt} {p:Tmp×AV} {e:Ft} {H:FR} {d:Tmp} {ty:TypeId} {ps:String} {af:Array Edge} {Q:Exit->Kt}
def M7 : ∀ (xs:List Operand) (e:Ft),OP P none true xs e=JC P xs e
 | [],e=>rfl
 | x::xs,e=>by
  have:(M8 P none true x e).2=Xf x (G5 P none e x) e:=by
   simp only [M8,Xf]
   cases x with
   | tmp t=>simp only [G5];cases (Fp e t).owned<;>rfl
   | _=>cases (G5 P none e _).owned<;>rfl
  simp only [OP,JC,this,M7 xs]
  rfl
def GD(ty:Option TypeId): ∀ (xs:List Operand) (e:Ft),OP P ty false xs e=(xs.map λx=>(G5 P ty e x).borrow,e)
 | [],e=>rfl
 | x::xs,e=>by simp only [OP,M8,GD ty xs,AR]
def sP:JC P [] e=([],e):=rfl
def lw(x:Operand)(xs:List Operand):JC P (x::xs) e=((G5 P none e x)::(JC P xs (Xf x (G5 P none e x) e)).1,(JC P xs (Xf x (G5 P none e x) e)).2):=rfl
def F6(o:Oper)(hg:o.guard=none):IY P n h ops o K e H=(Gi n o.dst/\Ff P h o (OP P (HR o) (Fz h o) o.op.operands.toList e).1 H λv H'=>K (put o.dst v (OP P (HR o) (Fz h o) o.op.operands.toList e).2) H'):=by
 simp only [IY,lV,hg]
def yu(op:Op)(j:Nat)(b:Bool)(dd:Option Tmp):IY P n h ops ⟨dd,op,ty,ps,af,some (j,b)⟩ K (p::e) H =
  ACO ((ops[j]?).bind Oper.dst) b (IY P n h ops ⟨dd,op,ty,ps,af,none⟩ K) (AAM n dd K) (p::e) H:=by
 simp only [IY,lV,ACO,WS,AAM]
 cases (ops[j]?).bind Oper.dst with
 | none=>rfl
 | some t =>
  simp only
  cases Fp (p::e) t with
  | bool c=>cases c<;>cases b<;>rfl
  | _=>rfl
def Z4(x:Operand)(o:Option TypeId):(M8 P o true x e).2=Xf x (G5 P o e x) e:=by
 simp only [M8,Xf]
 cases x with
 | tmp t=>simp only [G5];cases (Fp e t).owned<;>rfl
 | _=>cases (G5 P o e _).owned<;>rfl
def ADs(x:Operand):IY P n h ops ⟨some d,.move x,ty,ps,af,none⟩ K (p::e) H =
  (d<n/\bif h.tk.contains d then K ((d,G5 P (some ty) (p::e) x)::Xf x (G5 P (some ty) (p::e) x) (p::e)) H else K ((d,(G5 P (some ty) (p::e) x).borrow)::p::e) H):=by
 rw [F6 _ rfl]
 cases ht:h.tk.contains d
 ·simp only [Fz,DE,ht,HR,Op.operands,OP,Ff,put,Gi,cond_false];rfl
 ·simp only [Fz,DE,ht,HR,Op.operands,OP,Z4,Ff,put,Gi,cond_true];rfl
def pg(x:Operand):IY P n h ops ⟨some d,.assign x,ty,ps,af,none⟩ K (p::e) H =
  (d<n/\K ((d,G5 P (some ty) (p::e) x)::Xf x (G5 P (some ty) (p::e) x) (p::e)) H):=by
 rw [F6 _ rfl]
 simp only [Fz,HR,Op.operands,OP,Z4,Ff,put,Gi];rfl
def ADq(c a b:Operand):IY P n h ops ⟨some d,.pick c a b,ty,ps,af,none⟩ K (p::e) H =
  (d<n/\bnd (zo (G5 P none (p::e) c).borrow (G5 P none (p::e) a).borrow (G5 P none (p::e) b).borrow) d K (p::e) H):=by
 rw [F6 _ rfl]
 simp only [Fz,HR,Op.operands,GD,AR,Ah,Ff,put,Gi,zo]
 cases (G5 P none (p::e) c).borrow<;>rfl
def AGx(el:TypeId)(x:Operand):IY P n h ops ⟨some d,.box el x,ty,ps,af,none⟩ K (p::e) H =
  (d<n/\(G5 P none (p::e) x).isVal=true/\K ((d,.ptr H.length 0)::Xf x (G5 P none (p::e) x) (p::e)) (H++[some (G5 P none (p::e) x).cells])):=by
 rw [F6 _ rfl]
 simp only [Fz,HR,Op.operands,OP,Z4,Ff,put,Gi];rfl
def ADt(t:TypeId)(x:Operand):IY P n h ops ⟨some d,.load t x,ty,ps,af,none⟩ K (p::e) H =
  (d<n/\AGf (Yv P (h.tk.contains d) t (G5 P none (p::e) x).borrow H) (some d) K (p::e)):=by
 rw [F6 _ rfl]
 simp only [Fz,HR,Op.operands,GD,AR,Ah,Ff,put,Gi,Yv]
 congr 1
 cases (G5 P none (p::e) x).borrow with
 | ptr ob off =>
  simp only
  cases H[ob]? with
  | none=>rfl
  | some c=>cases c with
   | none=>rfl
   | some cs =>
    simp only
    cases Lb P t cs off with
    | none=>rfl
    | some v =>
     simp only [DE]
     cases h.tk.contains d
     ·rfl
     ·dsimp only
      by_cases hc:v.owned=true/\v.scalar=true
      ·rw [iP hc];simp [hc.1,hc.2,AGf,put]
      ·rw [iN hc]
       simp only [AGf,eq_iff_iff,iff_false]
       intro hx
       exact hc ⟨hx.1,hx.2.1⟩
 | cptr cs off =>
  simp only
  cases Lb P t cs off<;>rfl
 | _=>rfl
def yo(t:TypeId)(a v:Operand):IY P n h ops ⟨none,.store t a v,ty,ps,af,none⟩ K (p::e) H =
  stK (VI P t (G5 P (some t) (p::e) a) (G5 P (some t) (Xf a (G5 P (some t) (p::e) a) (p::e)) v) H) K (Xf v (G5 P (some t) (Xf a (G5 P (some t) (p::e) a) (p::e)) v) (Xf a (G5 P (some t) (p::e) a) (p::e))):=by
 rw [F6 _ rfl]
 have e1 : ∀ (x:Operand) (e:Ft),(M8 P (some t) true x e).1=G5 P (some t) e x:=λ_ _=>rfl
 simp only [Fz,HR,Op.operands,OP,Z4,e1,Ff,put,Gi,VI,true_and]
 generalize G5 P (some t) (Xf a (G5 P (some t) (p::e) a) (p::e)) v=vv
 generalize Xf v vv (Xf a (G5 P (some t) (p::e) a) (p::e))=e'
 cases G5 P (some t) (p::e) a with
 | ptr ob off =>
  simp only
  cases H[ob]? with
  | none=>rfl
  | some c=>cases c with
   | none=>rfl
   | some cs =>
    simp only
    by_cases hc:vv.isVal=true/\vv.cells.length=P.cellsOf t/\0<P.cellsOf t/\off+P.cellsOf t<=cs.length
    ·rw [iP hc]
     obtain ⟨h1,h2,h3,h4⟩:=hc
     simp only [h1,h2,h3,h4,true_and,stK]
    ·rw [iN hc]
     simp only [stK,eq_iff_iff,iff_false]
     intro hx
     exact hc ⟨hx.1,hx.2.1,hx.2.2.1,hx.2.2.2.1⟩
 | _=>rfl
def bo(x:Operand):IY P n h ops ⟨some d,.nilCheck x,ty,ps,af,none⟩ K (p::e) H=(d<n/\bnd (zt (G5 P none (p::e) x).borrow) d K (p::e) H):=by
 rw [F6 _ rfl]
 simp only [Fz,HR,Op.operands,GD,AR,Ah,Ff,put,Gi,zt]
 congr 1
 cases (G5 P none (p::e) x).borrow with
 | fn f a b=>cases f<;>rfl
 | _=>rfl
def ADo(op:UnOp)(t:TypeId)(x:Operand):IY P n h ops ⟨some d,.unOp op t x,ty,ps,af,none⟩ K (p::e) H=(d<n/\bnd (vUn op (G5 P none (p::e) x).borrow) d K (p::e) H):=by
 rw [F6 _ rfl]
 simp only [Fz,HR,Op.operands,GD,AR,Ah,Ff,put,Gi,vUn]
 congr 1
 cases op<;>cases (G5 P none (p::e) x).borrow<;>rfl
def YQ(s f:Nat)(x:Operand):IY P n h ops ⟨some d,.fieldAddr s x f,ty,ps,af,none⟩ K (p::e) H=(d<n/\bnd (Sf P (fieldAt P s f) (G5 P none (p::e) x).borrow) d K (p::e) H):=by
 rw [F6 _ rfl]
 simp only [Fz,HR,Op.operands,GD,AR,Ah,Ff,put,Gi,Sf,fieldAt]
 congr 1
 cases P.underlying s with
 | none=>rfl
 | some dd=>cases dd with
  | struct fs =>
   simp only
   cases fs[f]? with
   | none=>rfl
   | some fd =>
    simp only
    by_cases hc:0<P.cellsOf fd.type
    ·rw [iP hc]
     simp only [hc,true_and]
     cases (G5 P none (p::e) x).borrow<;>rfl
    ·rw [iN hc]
     simp only [hc,false_and,bnd]
  | _=>rfl
def yv(s f:Nat)(x:Operand):IY P n h ops ⟨some d,.field s x f,ty,ps,af,none⟩ K (p::e) H=(d<n/\bnd (Yu P (fieldAt P s f) (G5 P none (p::e) x).borrow) d K (p::e) H):=by
 rw [F6 _ rfl]
 simp only [Fz,HR,Op.operands,GD,AR,Ah,put,Gi,Yu,fieldAt]
 congr 1
 generalize (G5 P none (p::e) x).borrow=a
 unfold Ff
 dsimp only
 cases hu:P.underlying s with
 | none=>cases a<;>simp [bnd,hu]
 | some dd=>cases dd with
  | struct fs =>
   dsimp only
   cases hf:fs[f]? with
   | none=>cases a<;>simp [bnd,hu,hf]
   | some fd=>cases a with
    | agg cs=>simp only [hu,hf];cases Lb P fd.type cs fd.offset<;>rfl
    | _=>simp [bnd]
  | _=>cases a<;>simp [bnd,hu]
def jt(x:Operand)(i:Nat):IY P n h ops ⟨some d,.extract x i,ty,ps,af,none⟩ K (p::e) H=(d<n/\bnd (OR (G5 P none (p::e) x).borrow i) d K (p::e) H):=by
 rw [F6 _ rfl]
 simp only [Fz,HR,Op.operands,GD,AR,Ah,Ff,put,Gi,OR]
 congr 1
 cases (G5 P none (p::e) x).borrow with
 | tup vs=>simp only;cases vs[i]?<;>simp [bnd]
 | _=>rfl
def AGv(x:Operand)(t:TypeId):IY P n h ops ⟨some d,.call ⟨.builtin .len,#[x],#[t]⟩,ty,ps,af,none⟩ K (p::e) H=(d<n/\bnd (zu (P.underlying t) (G5 P none (p::e) x).borrow) d K (p::e) H):=by
 rw [F6 _ rfl]
 have e1:(#[]++#[x]:Array Operand).toList=[x]:=rfl
 simp only [Fz,HR,Op.operands,Call.operands,e1,GD,AR,Ah,Ff,put,Gi,zu]
 congr 1
 simp only [Bd,A7,Ba]
 cases P.underlying t with
 | none=>cases (G5 P none (p::e) x).borrow<;>rfl
 | some dd=>cases dd<;>cases (G5 P none (p::e) x).borrow<;>rfl
end
end Go.AI
namespace Go.AI
def Ih(P:Program)(op:BinOp)(t:TypeId)(a b:AV)(d:Tmp)(K:Kt)(e:Ft)(H:FR):Prop:=KC P op t a b λv=>K ((d,v)::e) H
def nW(P:Program)(t:TypeId):Bool:=match P.underlying t with|some (.slice _)=>true|_=>false
def tX(P:Program)(op:BinOp)(t:TypeId)(a:AV)(d:Tmp)(K:Kt)(e:Ft)(H:FR):Prop:=Na P op t a λv=>K ((d,v)::e) H
def AGh(P:Program)(op:BinOp)(t:TypeId)(z:Bool)(a b:AV)(d:Tmp)(K:Kt)(e:Ft)(H:FR):Prop :=
 match z with
 | true=>tX P op t a d K e H
 | false=>Ih P op t a b d K e H
def Lg(P:Program)(u:Option TypeDesc)(x:AV)(i:AV):Option AV :=
 match i with
 | .int _ i=>match u,x with
  | some (.slice e),.sl _ es=>if 0<=i then (es[i.toNat]?).bind λv=>if v.cells.length=P.cellsOf e/\0<P.cellsOf e then some (.cptr v.cells 0) else none else none
  | some (.slice e),.msl ob off len sz=>if 0<=i/\i<len/\sz=P.cellsOf e/\0<sz then some (.ptr ob (off+i.toNat*sz)) else none
  | some (.array n e),.ptr ob off=>if 0<=i/\i<n/\0<P.cellsOf e then some (.ptr ob (off+i.toNat*P.cellsOf e)) else none
  | some (.array n e),.cptr cs off=>if 0<=i/\i<n/\0<P.cellsOf e then some (.cptr cs (off+i.toNat*P.cellsOf e)) else none
  | _,_=>none
 | _=>none
def VJ(P:Program)(u:Option TypeDesc)(x:AV)(i:AV):Option AV :=
 match i with
 | .int _ i=>match u,x with
  | some .string,.str s=>if 0<=i/\i<s.size then some (.int .u8 ((s.data[i.toNat]?).getD 0).toNat) else none
  | some (.array n e),.agg cs=>if 0<=i/\i<n/\0<P.cellsOf e then Lb P e cs (i.toNat*P.cellsOf e) else none
  | _,_=>none
 | _=>none
def jn(P:Program)(el:TypeId)(mt ln:Bool)(H:FR)(a:AV)(xs:List AV)(d:Tmp)(K:Kt)(e:Ft):Prop:=Nx P el mt ln H a xs λv H'=>K ((d,v)::e) H'
def Acg(P:Program)(el:TypeId)(mt ln:Bool)(xs:Option (List AV))(a:AV)(d:Tmp)(K:Kt)(e:Ft)(H:FR):Prop :=
 match xs with
 | some xs=>jn P el mt ln H a xs d K e
 | none=>False
def AUN(P:Program)(mt tk ln:Bool)(t:TypeId)(vs:List AV)(d:Tmp)(K:Kt)(e:Ft)(H:FR):Prop :=
 match vs with
 | [a,b]=>match P.underlying t with
  | some (.slice el)=>0<P.cellsOf el/\Gb P el=true/\Acg P el mt ln (TS P el (mt||tk) H b) a d K e H
  | _=>False
 | _=>False
def AEM(P:Program)(f:FuncId)(vs:List AV)(d:Option Tmp)(K:Kt)(e:Ft)(H:FR):Prop:=∃ v ext,FZ P f vs H (λv2 H2=>v2=v/\H2=H++ext)/\K (put d v e) (H++ext)
def qF(P:Program)(f:FuncId)(vs:List AV)(d:Option Tmp)(K:Kt)(e:Ft)(H:FR):Prop:=∃ v,(PK P f vs H v\/QL P f vs H v)/\K (put d v e) H
def Md(P:Program)(o:Nat)(L:Ef)(vs:List AV)(d:Option Tmp)(K:Kt)(e:Ft)(H:FR):Prop:=L4 P o L vs H λv H'=>K (put d v e) H'
def Md.intro{P:Program}{o:Nat}{L:Ef}{vs:List AV}{d:Option Tmp}{K:Kt}{e:Ft}{H:FR}{R:AV->FR->Prop}(hc:L4 P o L vs H R)(hk : ∀ v H',R v H'->K (put d v e) H'):Md P o L vs d K e H:=hc.mono hk
def AHl(P:Program)(pc mt:Bool)(vs:List AV)(d:Option Tmp)(K:Kt)(e:Ft)(H:FR):Prop :=
 match vs with
 | .fn (.func f) first captured::args=>match pc with
  | true=>match mt with
   | true=>qF P f (first.map AV.borrow++args++captured.map AV.borrow) d K e H
   | false=>XI P f (first.map AV.borrow++args++captured.map AV.borrow) d K e H
  | false=>match mt with
   | true=>AEM P f (first.map AV.borrow++args++captured.map AV.borrow) d K e H
   | false=>Fr P f (first.map AV.borrow++args++captured.map AV.borrow) d K e H
 | .yld o L::args=>(pc=false/\mt=false)/\Md P o L args d K e H
 | _=>False
def Sg(P:Program)(t:TypeId)(is:List Nat)(vs:List AV):Option AV :=
 match P.underlying t with
 | some (.struct fs)=>if M5 P fs=true then match Fi P t with
  | some (.agg z)=>(II ((In P fs)[·]?) z is vs).map .agg
  | _=>none
  else none
 | some (.array _ e)=>if (P.info? e).isSome=true then match Fi P t with
  | some (.agg z)=>(II (λi=>some (i*P.cellsOf e,P.cellsOf e)) z is vs).map .agg
  | _=>none
  else none
 | _=>none
def AIx(P:Program)(mt:Bool)(t len:Nat)(is:List Nat)(vs:List AV)(d:Tmp)(K:Kt)(e:Ft)(H:FR):Prop :=
 match P.underlying t with
 | some (.slice el)=>0<P.cellsOf el/\len*P.cellsOf el<=16777216/\is=Ak len/\(∀ v∈vs,v.isVal=true/\v.cells.length=P.cellsOf el)/\Gb P el=true /\
   match mt with
   | true=>K ((d,.msl H.length 0 len (P.cellsOf el))::e) (H++[some (HQ (vs.map AV.borrow))])
   | false=>K ((d,.sl (some (P.cellsOf el)) (vs.map AV.borrow))::e) H
 | _=>False
def AAJ(P:Program)(mt:Bool)(t:TypeId)(bl bh bm:Bool)(vs:List AV)(d:Tmp)(K:Kt)(e:Ft)(H:FR):Prop :=
 match vs with
 | x::rest=>match Pq bl bh bm rest with
  | some (l,hh,m)=>match mt with
   | true=>J9 P t x l hh m H λv=>K ((d,v)::e) H
   | false=>Nv P t x l hh m λv=>K ((d,v)::e) H
  | none=>False
 | []=>False
def mmK(mn:Bool)(vs:List AV)(d:Tmp)(K:Kt)(e:Ft)(H:FR):Prop :=
 match vs with
 | [.int k a,.int k' b]=>k=k'/\K ((d,.int k (if mn then (if b<a then b else a) else (if b>a then b else a)))::e) H
 | _=>False
def AHj(P:Program)(su du:Option TypeDesc)(x:AV)(d:Tmp)(K:Kt)(e:Ft)(H:FR):Prop :=
 match su,du,x with
 | some _,some (.int k),.int _ m=>K ((d,.int k (k.wrap m))::e) H
 | some .string,some .string,.str s=>K ((d,.str s)::e) H
 | some (.slice el),some .string,.sl _ es=>P.underlying el=some (.int .u8)/\(∀ x∈es,Oq x=true)/\K ((d,.str (Pp es))::e) H
 | _,_,_=>False
def mkK(P:Program)(t:TypeId)(vs:List AV)(d:Tmp)(K:Kt)(e:Ft)(H:FR):Prop :=
 match vs with
 | [.int _ n,.int _ c]=>match P.underlying t with
  | some (.slice el)=>n=c/\0<=n/\n*P.bytesOf el<=140737488355328/\n<=9223372036854775807/\(P.info? el).isSome=true /\ ∃ z,Fi P el=some z/\z.cells.length=P.cellsOf el/\0<P.cellsOf el /\
    K ((d,.msl H.length 0 n.toNat (P.cellsOf el))::e) (H++[some (Ay n.toNat z.cells).flatten])
  | _=>False
 | _=>False
section
variable {P:Program} {n:Nat} {h:Ee} {ops:Array Oper} {K:Kt} {p:Tmp×AV} {e:Ft} {H:FR} {d:Tmp} {ty:TypeId} {ps:String} {af:Array Edge} {Q:Exit->Kt}
def yz(op:BinOp)(t t':TypeId)(x y:Operand):IY P n h ops ⟨some d,.binOp op t x y t',ty,ps,af,none⟩ K (p::e) H =
  (d<n/\AGh P op t (Ko y) (G5 P none (p::e) x).borrow (G5 P none (p::e) y).borrow d K (p::e) H):=by
 rw [F6 _ rfl]
 simp only [Fz,HR,Op.operands,GD,AR,Ah,Ff,put,Gi,AGh]
 cases Ko y<;>rfl
def AUM{op:BinOp}{t:TypeId}{a b:AV}:AGh P op t false a b d K e H=Ih P op t a b d K e H:=AG rfl rfl
def AUL{op:BinOp}{t:TypeId}{a b:AV}:AGh P op t true a b d K e H=tX P op t a d K e H:=AG rfl rfl
def fq(t:Tmp):Ko (.tmp t)=false:=rfl
def fw(k:IntKind)(m:Int):Ko (.const (.int k m))=false:=rfl
def ft(s:ByteArray):Ko (.const (.string s))=false:=rfl
def fu:Ko (.const (.slice none 0 0))=true:=rfl
section
variable {t:TypeId}
def rB(hp:nW P t=true): ∃ e,P.underlying t=some (.slice e):=by
 unfold nW at hp
 split at hp
 ·exact ⟨_,‹_›⟩
 ·cases hp
def ae{o:Option Nat}(hp:nW P t=true):tX P .eql t (.sl o []) d K e H=(K ((d,.bool true)::e) H/\K ((d,.bool false)::e) H):=by
 obtain ⟨el,hu⟩:=rB hp;simp [tX,Na,hu]
def Xy{o:Option Nat}{x:AV}{xs:List AV}(hp:nW P t=true):tX P .eql t (.sl o (x::xs)) d K e H=K ((d,.bool false)::e) H:=by
 obtain ⟨el,hu⟩:=rB hp;simp [tX,Na,hu]
end
def ADz(t:TypeId)(k k':IntKind)(x y:Int):KF P t (.int k x) (.int k' y)=none:=by
 unfold KF;split<;>simp_all
def ADy(t:TypeId)(x y:ByteArray):KF P t (.str x) (.str y)=none:=by
 unfold KF;split<;>simp_all
def HN{op:BinOp}{t:TypeId}{k k':IntKind}{x y:Int}:Ih P op t (.int k x) (.int k' y) d K e H=KD op (.int k x) (.int k' y) λv=>K ((d,v)::e) H:=by
 unfold Ih KC
 rw [ADz]
 cases op<;>rfl
def PB{op:BinOp}{t:TypeId}{x y:ByteArray}:Ih P op t (.str x) (.str y) d K e H=KD op (.str x) (.str y) λv=>K ((d,v)::e) H:=by
 unfold Ih KC
 rw [ADy]
 cases op<;>rfl
section
variable {t:TypeId} {k:IntKind} {x y:Int}
def ADe:Ih P .add t (.int k x) (.int k y) d K e H=K ((d,.int k (k.wrap (x+y)))::e) H:=by rw [HN];simp [KD]
def ADU:Ih P .sub t (.int k x) (.int k y) d K e H=K ((d,.int k (k.wrap (x - y)))::e) H:=by rw [HN];simp [KD]
def ADY:Ih P .mul t (.int k x) (.int k y) d K e H=K ((d,.int k (k.wrap (x*y)))::e) H:=by rw [HN];simp [KD]
def ADW:Ih P .quo t (.int k x) (.int k y) d K e H=(y≠0/\K ((d,.int k (k.wrap (x.tdiv y)))::e) H):=by rw [HN];simp [KD]
def ADV:Ih P .rem t (.int k x) (.int k y) d K e H=(y≠0/\K ((d,.int k (x.tmod y))::e) H):=by rw [HN];simp [KD]
def ADd:Ih P .eql t (.int k x) (.int k y) d K e H=K ((d,.bool (x==y))::e) H:=by rw [HN];simp [KD]
def ADX:Ih P .neq t (.int k x) (.int k y) d K e H=K ((d,.bool (x !=y))::e) H:=by rw [HN];simp [KD]
def ADZ:Ih P .lss t (.int k x) (.int k y) d K e H=K ((d,.bool (decide (x<y)))::e) H:=by rw [HN];simp [KD]
def ADa:Ih P .leq t (.int k x) (.int k y) d K e H=K ((d,.bool (decide (x<=y)))::e) H:=by rw [HN];simp [KD]
def ADb:Ih P .gtr t (.int k x) (.int k y) d K e H=K ((d,.bool (decide (y<x)))::e) H:=by rw [HN];simp [KD]
def ADc:Ih P .geq t (.int k x) (.int k y) d K e H=K ((d,.bool (decide (y<=x)))::e) H:=by rw [HN];simp [KD]
end
def yY{t:TypeId}{x y:ByteArray}:Ih P .eql t (.str x) (.str y) d K e H=K ((d,.bool (x.toList==y.toList))::e) H:=by rw [PB];simp [KD]
def yX{t:TypeId}{x y:ByteArray}:Ih P .neq t (.str x) (.str y) d K e H=K ((d,.bool !(x.toList==y.toList))::e) H:=by rw [PB];simp [KD]
def WO(P:Program)(t:TypeId):Bool:=match P.underlying t with|some .bool=>true|_=>false
def yc{t:TypeId}{x y:Bool}(hp:WO P t=true):Ih P .eql t (.bool x) (.bool y) d K e H=K ((d,.bool (x==y))::e) H:=by
 unfold WO at hp
 split at hp
 ·rename_i hu;simp [Ih,KC,KF,hu]
 ·cases hp
def yb{t:TypeId}{x y:Bool}(hp:WO P t=true):Ih P .neq t (.bool x) (.bool y) d K e H=K ((d,.bool !(x==y))::e) H:=by
 unfold WO at hp
 split at hp
 ·rename_i hu;simp [Ih,KC,KF,hu]
 ·cases hp
def YP(t:TypeId)(x i:Operand):IY P n h ops ⟨some d,.indexAddr t x i,ty,ps,af,none⟩ K (p::e) H =
  (d<n/\bnd (Lg P (P.underlying t) (G5 P none (p::e) x).borrow (G5 P none (p::e) i).borrow) d K (p::e) H):=by
 rw [F6 _ rfl]
 simp only [Fz,HR,Op.operands,GD,AR,Ah,put,Gi]
 congr 1
 generalize (G5 P none (p::e) x).borrow=a
 generalize (G5 P none (p::e) i).borrow=b
 unfold Ff
 dsimp only
 cases b with
 | int k i =>
  dsimp only [Lg]
  cases hu:P.underlying t with
  | none=>rfl
  | some dd=>cases dd with
   | slice el=>cases a with
    | sl own es =>
     dsimp only
     by_cases h0:0<=i
     ·simp only [h0,true_and,if_true]
      cases hi:es[i.toNat]? with
      | none=>simp [bnd]
      | some v =>
       by_cases hc:v.cells.length=P.cellsOf el/\0<P.cellsOf el
       ·obtain ⟨h1,h2⟩:=hc
        simp only [Ba,h1,h2,and_self,if_true,bnd]
        simp [h1]
       ·simp only [Ba,iN hc,bnd,eq_iff_iff,iff_false]
        rintro ⟨v',hv,h1,h2,_⟩
        cases hv
        exact hc ⟨h1,h2⟩
     ·simp [h0,bnd]
    | msl ob off len sz =>
     dsimp only
     by_cases hc:0<=i/\i<len/\sz=P.cellsOf el/\0<sz
     ·rw [iP hc];simp only [hc.1,hc.2.1,hc.2.2.1,true_and,bnd]
      have:=hc.2.2.2
      rw [hc.2.2.1] at this
      simp [this]
     ·rw [iN hc];simp only [bnd,eq_iff_iff,iff_false]
      rintro ⟨h1,h2,h3,h4,_⟩
      exact hc ⟨h1,h2,h3,h4⟩
    | _=>rfl
   | array m el=>cases a with
    | ptr ob off =>
     dsimp only
     by_cases hc:0<=i/\i<m/\0<P.cellsOf el
     ·rw [iP hc];simp only [hc.1,hc.2.1,hc.2.2,true_and,bnd]
     ·rw [iN hc];simp only [bnd,eq_iff_iff,iff_false]
      rintro ⟨h1,h2,h3,_⟩
      exact hc ⟨h1,h2,h3⟩
    | cptr cs off =>
     dsimp only
     by_cases hc:0<=i/\i<m/\0<P.cellsOf el
     ·rw [iP hc];simp only [hc.1,hc.2.1,hc.2.2,true_and,bnd]
     ·rw [iN hc];simp only [bnd,eq_iff_iff,iff_false]
      rintro ⟨h1,h2,h3,_⟩
      exact hc ⟨h1,h2,h3⟩
    | _=>rfl
   | _=>cases a<;>rfl
 | _=>rfl
def yr(t:TypeId)(x i:Operand):IY P n h ops ⟨some d,.index t x i,ty,ps,af,none⟩ K (p::e) H =
  (d<n/\bnd (VJ P (P.underlying t) (G5 P none (p::e) x).borrow (G5 P none (p::e) i).borrow) d K (p::e) H):=by
 rw [F6 _ rfl]
 simp only [Fz,HR,Op.operands,GD,AR,Ah,put,Gi]
 congr 1
 generalize (G5 P none (p::e) x).borrow=a
 generalize (G5 P none (p::e) i).borrow=b
 unfold Ff
 dsimp only
 cases b with
 | int k i =>
  dsimp only [VJ]
  cases hu:P.underlying t with
  | none=>rfl
  | some dd=>cases dd with
   | string=>cases a with
    | str s =>
     dsimp only
     by_cases hc:0<=i/\i<s.size
     ·rw [iP hc];simp only [hc.1,hc.2,true_and,bnd]
     ·rw [iN hc];simp only [bnd,eq_iff_iff,iff_false]
      rintro ⟨h1,h2,_⟩
      exact hc ⟨h1,h2⟩
    | _=>rfl
   | array m el=>cases a with
    | agg cs =>
     dsimp only
     by_cases hc:0<=i/\i<m/\0<P.cellsOf el
     ·rw [iP hc];simp only [hc.1,hc.2.1,hc.2.2,true_and]
      cases Lb P el cs (i.toNat*P.cellsOf el)<;>simp [bnd]
     ·rw [iN hc];simp only [bnd,eq_iff_iff,iff_false]
      rintro ⟨h1,h2,h3,_⟩
      exact hc ⟨h1,h2,h3⟩
    | _=>rfl
   | _=>cases a<;>rfl
 | _=>rfl
def Gy(xs:Array Operand):((#[]:Array Operand)++xs).toList=xs.toList:=sm
def ph(x y:Operand)(t:TypeId):IY P n h ops ⟨some d,.call ⟨.builtin .append,#[x,y],#[t,t]⟩,ty,ps,af,none⟩ K (p::e) H =
  (d<n/\AUN P (h.mt.contains d) (h.tk.contains d) (h.pc.contains d) t (JC P [x,y] (p::e)).1 d K (JC P [x,y] (p::e)).2 H):=by
 rw [F6 _ rfl]
 simp only [Fz,HR,Op.operands,Call.operands,Gy,M7,put,Gi]
 congr 1
 generalize hg:JC P [x,y] (p::e)=r
 unfold Ff AUN
 dsimp only
 generalize r.1=vs
 cases vs with
 | nil=>rfl
 | cons v vs=>cases vs with
  | nil=>rfl
  | cons v2 vs=>cases vs with
   | nil =>
    dsimp only
    rw [iP rfl]
    cases P.underlying t with
    | none=>rfl
    | some dd=>cases dd<;>rfl
   | cons v3 vs=>rfl
def yf(el:TypeId)(mt ln:Bool)(xs:List AV)(a:AV):Acg P el mt ln (some xs) a d K e H=jn P el mt ln H a xs d K e:=AG rfl rfl
def AGl(el:TypeId)(rd:Bool)(o:Option Nat)(xs:List AV):TS P el rd H (.sl o xs)=some xs:=rfl
def ji{el:TypeId}{ob off len sz:Nat}{cs:List AV}(ho:H[ob]? =some (some cs))(h1:off+len*sz<=cs.length)(h2:sz=P.cellsOf el)(h3:SG P el=true\/sz=1):TS P el true H (.msl ob off len sz)=some (Hy (SG P el) sz len ((cs.drop off).map borrow1)):=by
 simp only [TS,ho]
 rw [iP ⟨h1,h2,h3⟩]
def AGs(el:TypeId)(ln:Bool)(o:Option Nat)(es xs:List AV):jn P el false ln H (.sl o es) xs d K e=((∀ x∈xs,x.cells.length=P.cellsOf el)/\o=some (P.cellsOf el)/\(es.length+xs.length)*P.bytesOf el<=140737488355328/\es.length+xs.length<=9223372036854775807/\K ((d,.sl (bif ln then none else some (P.cellsOf el)) (es++xs))::e) H):=AG rfl rfl
def AAR(o:Option (Option (List AV)))(F:List AV->Prop):Prop:=match o with
 | some (some cs)=>F cs
 | _=>False
def sb(cs:List AV)(F:List AV->Prop):AAR (some (some cs)) F=F cs:=AG rfl rfl
def ADn(el:TypeId)(ln:Bool)(ob off len sz:Nat)(xs:List AV):jn P el true ln H (.msl ob off len sz) xs d K e=((∀ x∈xs,x.cells.length=P.cellsOf el)/\off=0/\sz=P.cellsOf el/\(len+xs.length)*P.bytesOf el<=140737488355328/\len+xs.length<=9223372036854775807 /\
  AAR H[ob]? λcs=>cs.length=len*sz/\cs.map borrow1=cs/\K ((d,.msl H.length 0 (len+xs.length) (P.cellsOf el))::e) (H.set ob none++[some (cs++(HQ xs).map borrow1)])):=by
 unfold jn Nx AAR
 rfl
def yj(el:TypeId)(ln:Bool)(ob off len sz c:Nat)(xs:List AV):jn P el true ln H (.mslc ob off len sz c) xs d K e=((∀ x∈xs,x.cells.length=P.cellsOf el)/\off=0/\sz=P.cellsOf el/\(len+xs.length)*P.bytesOf el<=140737488355328/\len+xs.length<=9223372036854775807 /\
  AAR H[ob]? λcs=>cs.length=len*sz/\cs.map borrow1=cs/\K ((d,.msl H.length 0 (len+xs.length) (P.cellsOf el))::e) (H.set ob none++[some (cs++(HQ xs).map borrow1)])):=by
 unfold jn Nx AAR
 rfl
def ADm(el:TypeId)(ln:Bool)(xs:List AV):jn P el true ln H (.sl (some 0) []) xs d K e=((∀ x∈xs,x.cells.length=P.cellsOf el)/\0<xs.length/\xs.length*P.bytesOf el<=140737488355328/\xs.length<=9223372036854775807/\K ((d,.msl H.length 0 xs.length (P.cellsOf el))::e) (H++[some ((HQ xs).map borrow1)])):=AG rfl rfl
def ADv(f:Operand)(xs:Array Operand)(ts:Array TypeId)(dd:Option Tmp):IY P n h ops ⟨dd,.call ⟨.value f,xs,ts⟩,ty,ps,af,none⟩ K (p::e) H =
  (Gi n dd/\AHl P (dd.any h.pc.contains) (dd.any h.mt.contains) (JC P (f::xs.toList) (p::e)).1 dd K (JC P (f::xs.toList) (p::e)).2 H):=by
 rw [F6 _ rfl]
 have e1:(#[f]++xs:Array Operand).toList=f::xs.toList:=sm
 simp only [Fz,HR,Op.operands,Call.operands,e1,M7]
 congr 1
def bp(fn:Fn)(xs ys:Array Operand):IY P n h ops ⟨some d,.makeFunc fn xs ys,ty,ps,af,none⟩ K (p::e) H =
  (d<n/\K ((d,.fn fn (xs.toList.map λx=>(G5 P none (p::e) x).borrow) (ys.toList.map λx=>(G5 P none (p::e) x).borrow))::p::e) H):=by
 rw [F6 _ rfl]
 simp only [Fz,HR,Op.operands,DB,GD,List.map_append,Ff,put,Gi]
 congr 3
 rw [show xs.size=(xs.toList.map λx=>(G5 P none (p::e) x).borrow).length by simp,List.take_left,List.drop_left]
def ACf{z:List AV}{f:List AV->Option (List AV)}:(∃ z' cs,some (AV.agg z)=some (AV.agg z')/\f z'=some cs/\K ((d,.agg cs)::e) H)=bnd ((f z).map .agg) d K e H:=by
 cases hf:f z<;>simp [bnd,hf]
def yy(t:TypeId)(qs:Array (Nat×Operand)):IY P n h ops ⟨some d,.build t qs,ty,ps,af,none⟩ K (p::e) H =
  (d<n/\bnd (Sg P t (qs.toList.map (·.1)) (JC P (qs.toList.map (·.2)) (p::e)).1) d K (JC P (qs.toList.map (·.2)) (p::e)).2 H):=by
 rw [F6 _ rfl]
 simp only [Fz,HR,Op.operands,M7,put,Gi]
 congr 1
 generalize hg:JC P (qs.toList.map (·.2)) (p::e)=r
 unfold Ff Sg
 dsimp only
 cases P.underlying t with
 | none=>rfl
 | some dd=>cases dd with
  | struct fs =>
   dsimp only
   by_cases hf:M5 P fs=true
   ·simp only [hf,true_and,if_true]
    cases Fi P t with
    | none=>simp [bnd]
    | some z=>cases z with
     | agg z =>
      exact ACf
     | _=>simp [bnd]
   ·simp [hf,bnd]
  | array m el =>
   dsimp only
   by_cases hf:(P.info? el).isSome=true
   ·simp only [hf,true_and,if_true]
    cases Fi P t with
    | none=>simp [bnd]
    | some z=>cases z with
     | agg z =>
      exact ACf
     | _=>simp [bnd]
   ·simp [hf,bnd]
  | _=>rfl
def W2(t len:Nat)(qs:Array (Nat×Operand)):IY P n h ops ⟨some d,.buildSlice t len qs,ty,ps,af,none⟩ K (p::e) H =
  (d<n/\AIx P (h.mt.contains d) t len (qs.toList.map (·.1)) (qs.toList.map λq=>(G5 P none (p::e) q.2).borrow) d K (p::e) H):=by
 rw [F6 _ rfl]
 simp only [Fz,HR,Op.operands,GD,put,Gi]
 congr 1
 unfold Ff AIx
 dsimp only
 rw [show ((qs.toList.map (·.2)).toArray.toList.map λx=>(G5 P none (p::e) x).borrow)=qs.toList.map λq=>(G5 P none (p::e) q.2).borrow by simp]
 cases P.underlying t with
 | none=>rfl
 | some dd=>cases dd<;>rfl
def yp(t:TypeId)(x:Operand)(lo hi mx:Option Operand):IY P n h ops ⟨some d,.slice t x lo hi mx,ty,ps,af,none⟩ K (p::e) H =
  (d<n/\AAJ P (h.mt.contains d) t lo.isSome hi.isSome mx.isSome (JC P (x::(lo.toList++hi.toList++mx.toList)) (p::e)).1 d K (JC P (x::(lo.toList++hi.toList++mx.toList)) (p::e)).2 H):=by
 rw [F6 _ rfl]
 have e1:(#[x]++lo.toArray++hi.toArray++mx.toArray:Array Operand).toList=x::(lo.toList++hi.toList++mx.toList):=by
  cases lo<;>cases hi<;>cases mx<;>simp
 simp only [Fz,HR,Op.operands,e1,M7,put,Gi]
 congr 1
def AGt(x y:Operand)(ts:Array TypeId):IY P n h ops ⟨some d,.call ⟨.builtin .min,#[x,y],ts⟩,ty,ps,af,none⟩ K (p::e) H =
  (d<n/\mmK true [(G5 P none (p::e) x).borrow,(G5 P none (p::e) y).borrow] d K (p::e) H):=by
 rw [F6 _ rfl]
 simp only [Fz,HR,Op.operands,Call.operands,Gy,GD,AR,Ah,put,Gi]
 congr 1
def AGu(x y:Operand)(ts:Array TypeId):IY P n h ops ⟨some d,.call ⟨.builtin .max,#[x,y],ts⟩,ty,ps,af,none⟩ K (p::e) H =
  (d<n/\mmK false [(G5 P none (p::e) x).borrow,(G5 P none (p::e) y).borrow] d K (p::e) H):=by
 rw [F6 _ rfl]
 simp only [Fz,HR,Op.operands,Call.operands,Gy,GD,AR,Ah,put,Gi]
 congr 1
def AFY(k:IntKind)(a b:Int):mmK true [.int k a,.int k b] d K e H=K ((d,.int k (if b<a then b else a))::e) H:=by simp [mmK]
def AFZ(k:IntKind)(a b:Int):mmK false [.int k a,.int k b] d K e H=K ((d,.int k (if b>a then b else a))::e) H:=by simp [mmK]
def ju(s t:TypeId)(x:Operand):IY P n h ops ⟨some d,.convert s t x,ty,ps,af,none⟩ K (p::e) H =
  (d<n/\AHj P (P.underlying s) (P.underlying t) (G5 P none (p::e) x).borrow d K (p::e) H):=by
 rw [F6 _ rfl]
 simp only [Fz,HR,Op.operands,GD,AR,Ah,put,Gi]
 congr 1
def YO(t:TypeId)(x y:Operand):IY P n h ops ⟨some d,.makeSlice t x y,ty,ps,af,none⟩ K (p::e) H =
  (d<n/\mkK P t [(G5 P none (p::e) x).borrow,(G5 P none (p::e) y).borrow] d K (p::e) H):=by
 rw [F6 _ rfl]
 simp only [Fz,HR,Op.operands,GD,AR,Ah,put,Gi]
 congr 1
 unfold Ff mkK
 dsimp only
 cases (G5 P none (p::e) x).borrow<;>cases (G5 P none (p::e) y).borrow<;>rfl
def AUS(P:Program)(mt:Bool)(el:TypeId)(d:Tmp)(K:Kt)(e:Ft)(H:FR):Prop:=match mt with
 | true=>ABP P el=true/\K ((d,.ptr H.length 0)::e) (H++[some [.sl (some 0) []]])
 | false => ∃ z,Fi P el=some z/\K ((d,.ptr H.length 0)::e) (H++[some z.cells])
def AUR(el:TypeId):AUS P false el d K e H = ∃ z,Fi P el=some z/\K ((d,.ptr H.length 0)::e) (H++[some z.cells]):=AG rfl rfl
def AUQ(el:TypeId):AUS P true el d K e H=(ABP P el=true/\K ((d,.ptr H.length 0)::e) (H++[some [.sl (some 0) []]])):=AG rfl rfl
def y5(el:TypeId):IY P n h ops ⟨some d,.alloc el,ty,ps,af,none⟩ K (p::e) H =
  (d<n/\AUS P (h.mt.contains d) el d K (p::e) H):=by
 rw [F6 _ rfl]
 have e1:(#[]:Array Operand).toList=[]:=rfl
 simp only [Fz,HR,Op.operands,e1,GD,Ah,put,Gi]
 rfl
def AGF(P:Program)(t:TypeId)(x:AV)(K:Kt)(e:Ft)(H:FR):Prop :=
 match x with
 | .msl ob off len sz=>match P.underlying t with
  | some (.slice el)=>match H[ob]? with
   | some (some cs) => ∃ z,Fi P el=some z/\sz=z.cells.length/\0<len/\off+len*sz<=cs.length/\K e (H.set ob (some (splice cs off (Ga z len))))
   | _=>False
  | _=>False
 | _=>False
def yw(x:Operand)(t:TypeId):IY P n h ops ⟨none,.call ⟨.builtin .clear,#[x],#[t]⟩,ty,ps,af,none⟩ K (p::e) H =
  AGF P t (G5 P none (p::e) x).borrow K (p::e) H:=by
 rw [F6 _ rfl]
 simp only [Fz,HR,Op.operands,Call.operands,Gy,GD,AR,Ah,put,Gi]
 rw [true_and]
 unfold Ff AGF
 dsimp only
 generalize (G5 P none (p::e) x).borrow=v
 cases v<;>rfl
def AGK(P:Program)(t:TypeId)(x:AV)(d:Tmp)(K:Kt)(e:Ft)(H:FR):Prop :=
 match x with
 | .mslc _ _ _ _ c=>match P.underlying t with
  | some (.slice _)=>K ((d,.int .i64 c)::e) H
  | _=>False
 | _=>False
def AGw(x:Operand)(t:TypeId):IY P n h ops ⟨some d,.call ⟨.builtin .cap,#[x],#[t]⟩,ty,ps,af,none⟩ K (p::e) H =
  (d<n/\AGK P t (G5 P none (p::e) x).borrow d K (p::e) H):=by
 rw [F6 _ rfl]
 simp only [Fz,HR,Op.operands,Call.operands,Gy,GD,AR,Ah,put,Gi]
 congr 1
 unfold Ff AGK
 dsimp only
 generalize (G5 P none (p::e) x).borrow=v
 cases v<;>rfl
def AGC(P:Program)(t:TypeId)(a b:AV)(d:Tmp)(K:Kt)(e:Ft)(H:FR):Prop:=T8 P t a b H λv H'=>K ((d,v)::e) H'
def ADu(x y:Operand)(t t':TypeId):IY P n h ops ⟨some d,.call ⟨.builtin .copy,#[x,y],#[t,t']⟩,ty,ps,af,none⟩ K (p::e) H =
  (d<n/\AGC P t (G5 P none (p::e) x).borrow (G5 P none (p::e) y).borrow d K (p::e) H):=by
 rw [F6 _ rfl]
 simp only [Fz,HR,Op.operands,Call.operands,Gy,GD,AR,Ah,put,Gi]
 congr 1
def AGq(P:Program)(t t':TypeId)(mt:Bool)(vs:List AV)(d:Tmp)(K:Kt)(e:Ft)(H:FR):Prop :=
 match vs with
 | [a,b]=>apz P t t' mt a b H λv H'=>K ((d,v)::e) H'
 | _=>False
def jv(x y:Operand)(t t':TypeId)(hn:(t==t')=false):IY P n h ops ⟨some d,.call ⟨.builtin .append,#[x,y],#[t,t']⟩,ty,ps,af,none⟩ K (p::e) H =
  (d<n/\AGq P t t' (h.mt.contains d) (JC P [x,y] (p::e)).1 d K (JC P [x,y] (p::e)).2 H):=by
 rw [F6 _ rfl]
 simp only [Fz,HR,Op.operands,Call.operands,Gy,M7,put,Gi]
 congr 1
 generalize hg:JC P [x,y] (p::e)=r
 unfold Ff AGq
 dsimp only
 generalize r.1=vs
 cases vs with
 | nil=>rfl
 | cons v vs=>cases vs with
  | nil=>rfl
  | cons v2 vs=>cases vs with
   | nil =>
    dsimp only
    rw [iN (by simpa using hn)]
    rfl
   | cons v3 vs=>rfl
def xK{f:FuncId}{vs:List AV}{dd:Option Tmp}{v:AV}(hc:QL P f vs H v)(hk:K (put dd v e) H):qF P f vs dd K e H:=⟨v,.inr hc,hk⟩
def ACt {t el:TypeId} {a b:AV} {ob off len sz m:Nat} {gr:Bool} {cs X:List AV} (hu:P.underlying t=some (.slice el)) (hrow:oH a=some (ob,off,len,sz,gr)) (hm:AAK b=some m) (ho:H[ob]? =some (some cs)) (h1:sz=P.cellsOf el)
  (h2:(P.info? el).isSome=true) (h3:cs.map borrow1=cs) (h4:off<=cs.length) (h5:gr=true\/off+Nat.min m len*sz<=cs.length) (hs:jE P el H (Nat.min m len) b=some X)
  (hk:K ((d,.int .i64 (Nat.min m len:Nat))::e) (H.set ob (some (cs.take off++X.map borrow1++cs.drop (off+Nat.min m len*sz))))):AGC P t a b d K e H:=by
 unfold AGC T8
 simp only [hu,hrow,hm,ho,hs]
 exact ⟨⟨h1,h2,h3,h4,h5⟩,hk⟩
end
end Go.AI
namespace Go.AI
attribute [go_sem] Option.getD_some Option.getD_none true_and and_true false_and and_false
 dT dF As List.any_nil Bool.or_false Bool.or_true Bool.true_or Bp Bh By Bool.and_false Bool.false_and Av Aw
 List.contains_cons List.contains_nil cond_true cond_false List.nil_append AH AD AR Ah Bool.or_self Bool.and_self Bd List.getElem?_cons_succ A7
 Ba Option.bind_none BS Option.map_none Option.some.injEq List.set_cons_zero List.set_cons_succ List.cons_append List.append_assoc DE Option.any_none
 Ag Int.toNat_natCast CO List.take_zero DF BN BA List.flatMap_nil beq_iff_eq bne_iff_ne ne_eq not_true_eq_false not_false_eq_true
 List.getElem?_nil Option.isSome_some Option.isSome_none Option.toList_some Option.toList_none if_true if_false Bw AY BC
 Nat.mul_zero Nat.mul_one DY CM GQ
def I7(P:Program)(t:TypeId):Option (Option Nat) :=
 match P.underlying t with
 | some (.struct _)=>some (some (P.cellsOf t))
 | some (.array _ _)=>some (some (P.cellsOf t))
 | some _=>some none
 | none=>none
def ldx(k:Option (Option Nat))(cs:List AV)(off:Nat):Option AV :=
 match k with
 | some (some n)=>if off+n<=cs.length then some (.agg ((cs.drop off).take n)) else none
 | some none=>cs[off]?
 | none=>none
def Fa(P:Program)(s f:Nat):Option (TypeId×Nat):=(fieldAt P s f).map λfd=>(fd.type,fd.offset)
def ny(P:Program)(fp:Option (TypeId×Nat))(x:AV):Option AV :=
 match fp with
 | some (t,o)=>if 0<P.cellsOf t then sI x o else none
 | none=>none
def nw(P:Program)(fp:Option (TypeId×Nat))(x:AV):Option AV :=
 match fp,x with
 | some (t,o),.agg cs=>ldx (I7 P t) cs o
 | _,_=>none
inductive BK where
 | none
 | struct (ps:List (Nat×Nat))
 | array (c:Nat)
def KJ(P:Program)(t:TypeId):BK :=
 match P.underlying t with
 | some (.struct fs)=>if M5 P fs=true then .struct (In P fs).toList else .none
 | some (.array _ e)=>if (P.info? e).isSome=true then .array (P.cellsOf e) else .none
 | _ => .none
def vb(k:BK)(z:Option AV)(is:List Nat)(vs:List AV):Option AV :=
 match k,z with
 | .struct ps,some (.agg z)=>(II (λi=>ps[i]?) z is vs).map .agg
 | .array c,some (.agg z)=>(II (λi=>some (i*c,c)) z is vs).map .agg
 | _,_=>Option.none
section
variable {P:Program}
def ABd(t:TypeId)(cs:List AV)(off:Nat):Lb P t cs off=ldx (I7 P t) cs off:=by
 unfold Lb ldx I7
 cases P.underlying t with
 | none=>rfl
 | some d=>cases d<;>rfl
def AFc(cs:List AV)(off:Nat):ldx (some none) cs off=cs[off]?:=rfl
def ABc(n:Nat)(cs:List AV)(off:Nat):ldx (some (some n)) cs off=if off+n<=cs.length then some (.agg ((cs.drop off).take n)) else none:=rfl
def sK(s f:Nat)(x:AV):Sf P (fieldAt P s f) x=ny P (Fa P s f) x:=by
 unfold Sf ny Fa
 cases fieldAt P s f<;>rfl
def ii(t o:Nat)(x:AV):ny P (some (t,o)) x=if 0<P.cellsOf t then sI x o else none:=rfl
def zp(s f:Nat)(x:AV):Yu P (fieldAt P s f) x=nw P (Fa P s f) x:=by
 unfold Yu nw Fa
 cases fieldAt P s f with
 | none=>rfl
 | some fd=>cases x<;>first|rfl|exact ABd _ _ _
def ig(t o:Nat)(cs:List AV):nw P (some (t,o)) (.agg cs)=ldx (I7 P t) cs o:=rfl
def zr(a b k:Nat):sI (.ptr a b) k=some (.ptr a (b+k)):=rfl
def sH(cs:List AV)(b k:Nat):sI (.cptr cs b) k=some (.cptr cs (b+k)):=rfl
def sL(t:TypeId)(is:List Nat)(vs:List AV):Sg P t is vs=vb (KJ P t) (Fi P t) is vs:=by
 unfold Sg KJ
 cases P.underlying t with
 | none=>rfl
 | some d=>cases d with
  | struct fs =>
   dsimp only
   by_cases hf:M5 P fs=true
   ·rw [iP hf,iP hf]
    cases Fi P t with
    | none=>rfl
    | some z=>cases z<;>first|rfl|(dsimp only [vb];simp only [Ac])
   ·rw [iN hf,iN hf];rfl
  | array m e =>
   dsimp only
   by_cases hf:(P.info? e).isSome=true
   ·rw [iP hf,iP hf]
    cases Fi P t with
    | none=>rfl
    | some z=>cases z<;>rfl
   ·rw [iN hf,iN hf];rfl
  | _=>rfl
def sF(ps:List (Nat×Nat))(z:List AV)(is:List Nat)(vs:List AV):vb (.struct ps) (some (.agg z)) is vs=(II (λi=>ps[i]?) z is vs).map .agg:=rfl
def zm(c:Nat)(z:List AV)(is:List Nat)(vs:List AV):vb (.array c) (some (.agg z)) is vs=(II (λi=>some (i*c,c)) z is vs).map .agg:=rfl
def n8(place:Nat->Option (Nat×Nat))(cells:List AV):II place cells [] []=some cells:=rfl
def iu(place:Nat->Option (Nat×Nat))(cells:List AV)(i:Nat)(is:List Nat)(v:AV)(vs:List AV):II place cells (i::is) (v::vs)=match place i with
  | some (off,size)=>if v.isVal=true/\v.cells.length=size/\off+size<=cells.length then II place (splice cells off v.cells) is vs else none
  | none=>none:=rfl
def dp(a:AV)(cs:List AV)(o:Nat)(xs:List AV):splice (a::cs) (o+1) xs=a::splice cs o xs:=by
 unfold splice
 rw [Nat.add_right_comm,CO,DF]
 rfl
def dq{cs xs:List AV}(h:cs.length=xs.length):splice cs 0 xs=xs:=by
 unfold splice
 rw [AY,<- h,Cq]
 simp
def Ht(cs xs:List AV):List AV:=splice cs 0 xs
def dm{cs xs:List AV}:splice cs 0 xs=if cs.length=xs.length then xs else Ht cs xs:=by
 by_cases h:cs.length=xs.length
 ·rw [iP h,dq h]
 ·rw [iN h];rfl
def sJ{P:Program}{H:FR}(tk:Bool)(t:TypeId)(ob off:Nat):Yv P tk t (.ptr ob off) H=match H[ob]? with
  | some (some cs)=>match Lb P t cs off with
   | some v=>match tk with
    | true=>if v.owned=true/\v.scalar=true then some (v,H.set ob (some (splice cs off (v.cells.map borrow1)))) else none
    | false=>some (v.borrow,H)
   | none=>none
  | _=>none:=rfl
def lr{P:Program}{H:FR}(tk:Bool)(t:TypeId)(cs:List AV)(off:Nat):Yv P tk t (.cptr cs off) H=match Lb P t cs off with
  | some v=>some (v.borrow,H)
  | none=>none:=rfl
def lm{P:Program}{H:FR}(t:TypeId)(ob off:Nat)(v:AV):VI P t (.ptr ob off) v H=match H[ob]? with
  | some (some cs)=>if v.isVal=true/\v.cells.length=P.cellsOf t/\0<P.cellsOf t/\off+P.cellsOf t<=cs.length then some (H.set ob (some (splice cs off v.cells))) else none
  | _=>none:=rfl
attribute [go_sem] stK zt zo OR zu vUn Lg VJ Pq AHj mkK qa AUN AIx AAJ Nv J9 AHl
end
end Go.AI
namespace Go.AI
section
variable {P:Program} {F:Nat->Prop} {G:Gh} {w:World}
def FZ.gc {f:FuncId} {vs:List AV} {H:FR} {R:AV->FR->Prop} (hn : ∀ v H1,R v H1->H.length<=H1.length)
  (h:FZ P f vs H λv H' => ∃ H1 junk,H'=H1++junk/\v.bnd H1.length=true/\SA H1/\R v H1):FZ P f vs H R :=
 ⟨h.1,λF G w us hc=>Calls.mono (h.2 F G w us hc) λe w' he=>by
  obtain ⟨u,rfl,v,H',G',⟨H1,junk,rfl,h1,h2,h3⟩,hcr,hext⟩:=he
  refine ⟨u,rfl,v,H1,G'.cut H1.length,h3,hcr.cut h1 h2,hext.size,⟨λo b ho=>?_,hext.keeps.shape,hext.keeps.sp,hext.keeps.safe⟩,hext.kind,hext.cells,hext.io⟩
  have hlt:o<H.length:=by rw [<- hc.h.len];exact (AC.1 ho).1
  have:=hn v H1 h3
  show (G'.obs.take H1.length)[o]? =some b
  rw [Bu FQ]
  exact hext.keeps.obs o b ho⟩
def CRel.lend{vs:List AV}{H:FR}{us:List Value}(h:Ed F G vs H us w):Ed F G (vs.map AV.borrow) H us w:=by
 refine ⟨⟨by simpa using h.l.len,λi a u h1 h2=>?_,λi a u h1 h2=>?_⟩,h.h,λb=>?_⟩
 ·rw [AZ] at h1
  cases hi:vs[i]? with
  | none=>rw [hi] at h1;cases h1
  | some x=>rw [hi] at h1;cases h1;exact (h.l.rel i x u hi h2).borrow
 ·rw [AZ] at h1
  cases hi:vs[i]? with
  | none=>rw [hi] at h1;cases h1
  | some x=>rw [hi] at h1;cases h1;exact Fh (Gc _ _) F G w
 ·have h0:G9 b (vs.map AV.borrow) us=0:=by
   have : ∀ (l:List AV) (us:List Value),G9 b (l.map AV.borrow) us=0:=by
    intro l
    induction l with
    | nil=>intro us;exact GR b us
    | cons x xs ih =>
     intro us
     cases us with
     | nil=>simp [G9]
     | cons u us=>rw [AR,Fb,Gc,ih];rfl
   exact this vs us
  have:=h.cnt b
  omega
def FZ.lend{f:FuncId}{vs:List AV}{H:FR}{R:AV->FR->Prop}(h:FZ P f (vs.map AV.borrow) H R):FZ P f vs H R :=
 ⟨h.1,λF G w us hc=>h.2 F G w us hc.lend⟩
def Jo.lend{f:FuncId}{vs:List AV}{Q:AV->Prop}(h:Jo P f (vs.map AV.borrow) Q):Jo P f vs Q:=λH=>(h H).lend
def A'.lend{f:FuncId}{vs:List AV}{v:AV}(h:A' P f (vs.map AV.borrow) v):A' P f vs v:=λH=>(h H).lend
end
end Go.AI
namespace Go.AI
inductive Rd (P:Program):TypeId->AV->Prop where
 | bool {t:TypeId} (b:Bool) (h:P.underlying t=some .bool):Rd P t (.bool b)
 | int {t:TypeId} {k:IntKind} {n:Int} (h:P.underlying t=some (.int k)) (hw:k.min<=n/\n<=k.max):Rd P t (.int k n)
 | str {t:TypeId} {s:ByteArray} (h:P.underlying t=some .string) (hs:s.size<=reachBytes):Rd P t (.str s)
 | slice {t e:TypeId} {es:List AV} (h:P.underlying t=some (.slice e)) (hl:es.length<=maxLen) (hb:es.length*P.bytesOf e<=reachBytes) (he : ∀ x∈es,Rd P e x):Rd P t (.sl none es)
 | struct {t:TypeId} {fs:Array Field} {parts:List AV} (h:P.underlying t=some (.struct fs)) (hl:parts.length=fs.size)
   (hp : ∀ (i:Nat) (f:Field) (x:AV),fs[i]? =some f->parts[i]? =some x->Rd P f.type x):Rd P t (.agg (HQ parts))
 | array {t e:TypeId} {n:Nat} {parts:List AV} (h:P.underlying t=some (.array n e)) (hl:parts.length=n) (hp : ∀ x∈parts,Rd P e x):Rd P t (.agg (HQ parts))
def Jj(P:Program):Nat->List Field->Nat->Bool
 | off,[],total=>off==total
 | off,f::fs,total=>f.offset==off&&Jj P (off+P.cellsOf f.type) fs total
def zz(P:Program)(S:List TypeId):Bool:=S.all λt=>match P.underlying t with
 | some .bool|some (.int _)|some .string=>P.cellsOf t==1
 | some (.slice e)=>P.cellsOf t==1&&S.contains e&&decide (0<P.cellsOf e)
 | some (.struct fs)=>Jj P 0 fs.toList (P.cellsOf t)&&fs.toList.all λf=>S.contains f.type
 | some (.array n e)=>S.contains e&&P.cellsOf t==n*P.cellsOf e
 | _=>false
mutual
def AV.bulk:AV->Nat
 | .str s=>s.size+1
 | .sl _ es=>1+FT es
 | .agg cs=>FT cs
 | .tup cs=>FT cs
 | _=>1
def FT:List AV->Nat
 | []=>0
 | a::l=>a.bulk+FT l
end
structure BulkOk {H:Type} (μ:DataW H->Nat):Prop where
 one : ∀ d,1<=μ d
 str : ∀ s:List UInt8,s.length+1<=μ (.lit (.string s))
 sl : ∀ es sp,1+(es.map μ).sum<=μ (.slice es sp)
 agg : ∀ ps,(ps.map μ).sum<=μ (.agg ps)
def Nq(l l':List AV):FT (l++l')=FT l+FT l':=by
 induction l with
 | nil=>simp [FT]
 | cons a l ih=>simp [FT,ih];omega
def jV(a:AV):FT a.cells=a.bulk:=by
 cases a<;>simp [AV.cells,FT,AV.bulk]
def Zn(es:List AV):FT (HQ es)=FT es:=by
 induction es with
 | nil=>rfl
 | cons e es ih =>
  have:HQ (e::es)=e.cells++HQ es:=by simp [HQ]
  rw [this,Nq,jV,ih];rfl
def Wu{D:Type}{μ:D->Nat}: ∀ {es:List AV} {ds:List D},es.length=ds.length->(∀ (i:Nat) (x:AV) (d:D),es[i]? =some x->ds[i]? =some d->x.bulk<=μ d)->FT es<=(ds.map μ).sum
 | [],_,_,_=>by simp [FT]
 | e::es,[],h,_=>by simp at h
 | e::es,d::ds,hl,h=>by
  have h0:=h 0 e d rfl rfl
  have h1:=Wu (es:=es) (ds:=ds) (by simpa using hl) λi x y hx hy=>h (i+1) x y (by simpa using hx) (by simpa using hy)
  simp only [FT,AR,B2]
  omega
structure FitL (G:Gh) (w:World) (as:List AV) (cs:List Value):Prop where
 len:as.length=cs.length
 sc : ∀ c∈as,c.scalar=true/\F8 c=false
 rel : ∀ (i:Nat) (c:AV) (v:Value),as[i]? =some c->cs[i]? =some v->Ec G w c v
section
variable {P:Program} {G:Gh} {w:World}
def FitL.nil:FitL G w [] []:=⟨rfl,λc hc=>by simp at hc,λi c v h=>by simp at h⟩
def FitL.append{as bs:List AV}{cs ds:List Value}(h:FitL G w as cs)(h':FitL G w bs ds):FitL G w (as++bs) (cs++ds):=by
 refine ⟨by simp [h.len,h'.len],λc hc=>?_,λi c v h1 h2=>?_⟩
 ·rcases Ar.1 hc with hc|hc
  ·exact h.sc c hc
  ·exact h'.sc c hc
 ·have:=h.len
  by_cases hi:i<as.length
  ·rw [AT hi] at h1
   rw [AT FQ] at h2
   exact h.rel i c v h1 h2
  ·rw [AM FQ] at h1
   rw [AM FQ] at h2
   exact h'.rel (i - as.length) c v h1 (by rw [h.len];exact h2)
def FitL.one{c:AV}{v:Value}(hs:c.scalar=true)(ho:F8 c=false)(h:Ec G w c v):FitL G w [c] [v]:=by
 refine ⟨rfl,λd hd=>by simp at hd;subst hd;exact ⟨hs,ho⟩,λi d u h1 h2=>?_⟩
 cases i with
 | zero=>simp at h1 h2;subst h1;subst h2;exact h
 | succ i=>simp at h1
def O0{α:Type}{p:Nat->α->Prop}: ∀ (n:Nat),(∀ i,i<n -> ∃ x,p i x) -> ∃ l:List α,l.length=n /\ ∀ (i:Nat) (x:α),l[i]? =some x->p i x
 | 0,_=>⟨[],rfl,λi x h=>by simp at h⟩
 | n+1,h=>by
  obtain ⟨l,h1,h2⟩:=O0 n λi hi=>h i FQ
  obtain ⟨x,hx⟩:=h n FQ
  refine ⟨l++[x],by simp [h1],λi y hy=>?_⟩
  by_cases hi:i<l.length
  ·rw [AT hi] at hy;exact h2 i y hy
  ·rw [AM FQ] at hy
   have h0:i - l.length=0:=by
    have:=(AC.1 hy).1
    simp at this;omega
   rw [h0] at hy
   simp at hy
   have:i=n:=FQ
   subst this;subst hy;exact hx
def AGJ{es:List AV}{n i:Nat}{c:AV}(hn : ∀ e∈es,e.cells.length=n)(h:(HQ es)[i]? =some c): ∃ (k j:Nat) (x:AV),i=k*n+j/\j<n/\es[k]? =some x/\x.cells[j]? =some c:=by
 induction es generalizing i with
 | nil=>simp [HQ] at h
 | cons e es ih =>
  simp only [HQ,BA] at h
  have he:=hn e sm
  by_cases hi:i<n
  ·rw [AT FQ] at h
   exact ⟨0,i,e,FQ,hi,rfl,h⟩
  ·rw [AM FQ,he] at h
   obtain ⟨k,j,x,h1,h2,h3,h4⟩:=ih (λe he=>hn e (by simp [he])) h
   exact ⟨k+1,j,x,by rw [A0];omega,h2,by simpa using h3,h4⟩
section
variable {H:Type} {enc:TypeId×Value->H} {base:Nat} {held:Bool}
def Lf{e:TypeId}: ∀ {ds:List (DataW H)} {d:DataW H},d∈ds -> ∀ m∈d.weights P e,m∈DataW.weightsAll P e ds
 | x::ds,d,hd,m,hm=>by
  simp only [DataW.weightsAll,Ar]
  rcases AW.1 hd with rfl|hd
  ·exact .inl hm
  ·exact .inr (Lf hd m hm)
def Y3{a:Addr}{v:Value}(h:w.cell? a=some v):a.spot=none:=by
 unfold World.cell? at h
 split at h
 ·split at h
  ·cases h
  ·rename_i hs;simpa using hs
 ·cases h
def fit_fields {S:List TypeId} {rec:TypeId->List Value->Option (DataW H×List MemPlace)} {cs:List Value}
  (hrec : ∀ t cs d ps,t∈S->rec t cs=some (d,ps)->(∀ m∈d.weights P t,m<=reachBytes) -> ∃ a,Rd P t a/\FitL G w a.cells cs /\ ∀ μ:DataW H->Nat,BulkOk μ->a.bulk<=μ d) :
  ∀ (fs:List Field) (off:Nat) (xs:List (DataW H×List MemPlace)),Jj P off fs cs.length=true->(∀ f∈fs,f.type∈S)->off<=cs.length ->
   fs.mapM (λf=>rec f.type ((cs.drop f.offset).take (P.cellsOf f.type)))=some xs->(∀ m∈DataW.weightsEach P (fs.map (·.type)) (xs.map (·.1)),m<=reachBytes) ->
   ∃ parts,parts.length=fs.length/\(∀ (i:Nat) (f:Field) (x:AV),fs[i]? =some f->parts[i]? =some x->Rd P f.type x)/\FitL G w (HQ parts) (cs.drop off) /\ ∀ μ:DataW H->Nat,BulkOk μ->FT parts<=((xs.map (·.1)).map μ).sum
 | [],off,xs,hf,_,hle,hm,_=>by
  simp only [Jj,beq_iff_eq] at hf
  subst hf
  exact ⟨[],rfl,λi f x h=>by simp at h,by simpa [HQ] using FitL.nil,fun μ _=>by simp [FT]⟩
 | f::fs,off,xs,hf,hS,hle,hm,hw=>by
  simp only [Jj,AQ,beq_iff_eq] at hf
  obtain ⟨hoff,hf⟩:=hf
  subst hoff
  simp only [C7,Option.bind_eq_bind] at hm
  cases h1:rec f.type ((cs.drop f.offset).take (P.cellsOf f.type)) with
  | none=>rw [h1] at hm;simp at hm
  | some x =>
   rw [h1] at hm
   simp only [Ba] at hm
   cases h2:fs.mapM (λf=>rec f.type ((cs.drop f.offset).take (P.cellsOf f.type))) with
   | none=>rw [h2] at hm;simp at hm
   | some ys =>
    rw [h2] at hm
    simp only [Ba] at hm
    cases hm
    simp only [AR,DataW.weightsEach,Ar] at hw
    have hle' : ∀ (fs:List Field) (o:Nat),Jj P o fs cs.length=true->o<=cs.length:=by
     intro fs
     induction fs with
     | nil=>intro o h;simp only [Jj,beq_iff_eq] at h;omega
     | cons g gs ih=>intro o h;simp only [Jj,AQ,beq_iff_eq] at h;have:=ih _ h.2;omega
    have hle2:=hle' fs _ hf
    obtain ⟨a,ha,hfa,hba⟩:=hrec _ _ x.1 x.2 (hS f sm) h1 λm hm=>hw m (.inl hm)
    obtain ⟨parts,p1,p2,p3,p4⟩:=fit_fields hrec fs (f.offset+P.cellsOf f.type) ys hf (λg hg=>hS g (by simp [hg])) hle2 h2 λm hm=>hw m (.inr hm)
    refine ⟨a::parts,by simp [p1],λi g y hg hy=>?_, ?_,fun μ hμ=>?_⟩
    ·cases i with
     | zero=>simp at hg hy;subst hg;subst hy;exact ha
     | succ i=>exact p2 i g y (by simpa using hg) (by simpa using hy)
    ·have e:cs.drop f.offset=(cs.drop f.offset).take (P.cellsOf f.type)++cs.drop (f.offset+P.cellsOf f.type):=by
      rw [<- A8,A9]
     rw [e]
     simp only [HQ,BA]
     exact hfa.append p3
    ·have h1:=hba μ hμ
     have h2:=p4 μ hμ
     simp only [FT,AR,B2]
     omega
def xj{n:Nat}{parts:List AV}{cs:List Value}(hp : ∀ (i:Nat) (x:AV),parts[i]? =some x->FitL G w x.cells ((cs.drop (i*n)).take n))(hc:cs.length=parts.length*n):FitL G w (HQ parts) cs:=by
 induction parts generalizing cs with
 | nil=>simp at hc;subst hc;simpa [HQ] using FitL.nil
 | cons x xs ih =>
  have h0:=hp 0 x rfl
  simp only [CM,BN] at h0
  have h1:=ih (cs:=cs.drop n) (λi y hy=>by
   have:=hp (i+1) y (by simpa using hy)
   rw [A8]
   rw [A0,DY,Nat.add_comm] at this
   exact this) (by simp at hc ⊢;rw [A0] at hc;omega)
  have:=h0.append h1
  rw [A9] at this
  simpa [HQ] using this
def VY{S:List TypeId}(hS:zz P S=true)(hG : ∀ b,G.kind b = .imm): ∀ (fuel:Nat) (t:TypeId) (cs:List Value) (d:DataW H) (ps:List MemPlace),t∈S ->
  DataW.trod enc P w base (λ_=>true) held fuel t cs=some (d,ps)->(∀ m∈d.weights P t,m<=reachBytes) -> ∃ a,Rd P t a/\FitL G w a.cells cs /\ ∀ μ:DataW H->Nat,BulkOk μ->a.bulk<=μ d
 | 0,t,cs,d,ps,_,h,_=>by simp [DataW.trod] at h
 | fuel+1,t,cs,d,ps,ht,h,hw=>by
  have ih:=VY hS hG fuel
  have hst:=Am.1 hS t ht
  unfold DataW.trod at h
  cases hu:P.underlying t with
  | none=>rw [hu] at hst;cases hst
  | some dd =>
   rw [hu] at hst h
   cases dd<;>try (cases hst;done)
   case bool =>
    dsimp only at h
    split at h
    case h_1=>rename_i b hd;exact ⟨.bool b,.bool b hu,.one rfl rfl (.bool b),fun μ hμ=>hμ.one _⟩
    all_goals first|(simp at *;done)|(rename_i heq _;cases heq)
   case int k =>
    dsimp only at h
    split at h
    case h_2 =>
     rename_i k1 k2 n hd
     cases hd
     split at h
     ·rename_i hk
      obtain ⟨rfl,hk⟩:=hk
      simp only [Lit.wf,AQ,decide_eq_true_eq] at hk
      exact ⟨.int k2 n,.int hu hk,.one rfl rfl (.int _ _),fun μ hμ=>hμ.one _⟩
     ·cases h
    all_goals first|(simp at *;done)|(rename_i heq _;cases heq)
   case string =>
    dsimp only at h
    split at h
    case h_4 =>
     rename_i s hd
     split at h
     ·cases h
      simp only [DataW.weights,Ab,forall_eq] at hw
      exact ⟨.str s,.str hu (by simpa using hw),.one rfl rfl (.str s),fun μ hμ=>by have:=hμ.str s.data.toList;simpa [AV.bulk] using this⟩
     ·cases h
    all_goals first|(simp at *;done)|(rename_i heq _;cases heq)
   case slice e =>
    simp only [AQ,beq_iff_eq,Dj,decide_eq_true_eq] at hst
    obtain ⟨⟨_,he⟩,hpos⟩:=hst
    dsimp only at h
    split at h
    case h_7=>exact ⟨.sl none [],.slice hu sm sm  (λx hx=>by simp at hx),.one rfl rfl (.slnil _),fun μ hμ=>by have:=hμ.one d;simpa [AV.bulk,FT] using this⟩
    case h_8 =>
     rename_i e' a len cap hd
     cases hd
     split at h
     case isFalse=>cases h
     rename_i hcond
     cases hm:(Ak len).mapM λi=>(w.cells? base (a.add (i*P.cellsOf e)) (P.cellsOf e)).bind (DataW.trod enc P w base (λ_=>true) held fuel e) with
     | none=>rw [hm] at h;simp at h
     | some elems =>
      rw [hm] at h
      simp only [Ba,if_true] at h
      cases hr:(Ak (cap - len)).mapM λj=>(w.cells? base (a.add ((len+j)*P.cellsOf e)) (P.cellsOf e)).bind (DataW.trod enc P w base (λ_=>true) held fuel e) with
      | none=>rw [hr] at h;simp at h
      | some rest =>
       rw [hr] at h
       simp only [BS,Option.some.injEq,Prod.mk.injEq] at h
       obtain ⟨rfl,_⟩:=h
       simp only [DataW.weights,hu,AW,Ar,List.length_map] at hw
       have hel:=mapM_some_length hm
       simp only [Dk] at hel
       have hb:(elems.length+rest.length)*P.bytesOf e<=reachBytes:=hw _ (.inl rfl)
       have hb2:len*P.bytesOf e<=reachBytes:=AK (Nat.mul_le_mul_right _ FQ) hb
       have hat : ∀ i,i<len -> ∃ x,Rd P e x/\(∃ ci,w.cells? base (a.add (i*P.cellsOf e)) (P.cellsOf e)=some ci/\FitL G w x.cells ci) /\ ∀ y,elems[i]? =some y -> ∀ μ:DataW H->Nat,BulkOk μ->x.bulk<=μ y.1:=by
        intro i hi
        have hg:=mapM_some_get hm i i (by simp [hi])
        have hlt:i<elems.length:=FQ
        rw [AL hlt] at hg
        cases hc:w.cells? base (a.add (i*P.cellsOf e)) (P.cellsOf e) with
        | none=>rw [hc] at hg;simp at hg
        | some ci =>
         rw [hc] at hg
         simp only [Ba] at hg
         obtain ⟨x,hx,hf,hbx⟩:=ih e ci elems[i].1 elems[i].2 he hg λm hm=>hw m (.inr (.inl (Lf (AN.2 ⟨elems[i],Cb hlt,rfl⟩) m hm)))
         exact ⟨x,hx,⟨ci,rfl,hf⟩,λy hy μ hμ=>by rw [AL hlt] at hy;cases hy;exact hbx μ hμ⟩
       have hspot:0<cap->a.spot=none:=by
        intro hc0
        by_cases h0:0<len
        ·obtain ⟨x,_,⟨ci,hci,_⟩,_⟩:=hat 0 h0
         obtain ⟨_,h1,h2⟩:=World.cells?_some hci
         have h3:=h2 0 hpos
         rw [CM,show (a.add 0).add 0=a from rfl] at h3
         have hlt:0<ci.length:=FQ
         rw [AL hlt] at h3
         exact Y3 h3
        ·have hg:=mapM_some_get hr 0 0 (by rw [List.getElem?_range FQ])
         have hrl:=mapM_some_length hr
         simp only [Dk] at hrl
         have hlt:0<rest.length:=FQ
         rw [AL hlt] at hg
         have hl0:len=0:=FQ
         subst hl0
         cases hc:w.cells? base (a.add ((0+0)*P.cellsOf e)) (P.cellsOf e) with
         | none=>rw [hc] at hg;simp at hg
         | some ci =>
          obtain ⟨_,h1,h2⟩:=World.cells?_some hc
          have h3:=h2 0 hpos
          rw [BC,CM,show (a.add 0).add 0=a from rfl] at h3
          have hlt:0<ci.length:=FQ
          rw [AL hlt] at h3
          exact Y3 h3
       obtain ⟨es,hes,hes2⟩:=O0 len hat
       have hrd : ∀ x∈es,Rd P e x:=λx hx=>by
        obtain ⟨i,hi⟩:=Ae hx
        exact (hes2 i x hi).1
       refine ⟨.sl none es,.slice hu FQ (by rw [hes];exact hb2) hrd,.one rfl rfl ?_,fun μ hμ=>AK (Nat.add_le_add_left (Wu (ds:=elems.map (·.1)) (by simp;omega) λi x d hx hd=>by
        rw [AZ] at hd
        cases hy:elems[i]? with
        | none=>rw [hy] at hd;cases hd
        | some y=>rw [hy] at hd;cases hd;exact (hes2 i x hx).2.2 y hy μ hμ) 1) (hμ.sl _ _)⟩
       by_cases hc0:0<cap
       ·have hsp:=hspot hc0
        have hsz : ∀ x∈es,x.cells.length=P.cellsOf e:=λx hx=>by
         obtain ⟨i,hi⟩:=Ae hx
         obtain ⟨_,⟨ci,hci,hf⟩,_⟩:=hes2 i x hi
         rw [hf.len];exact (World.cells?_some hci).2.1
        have haddr:a=⟨a.block,a.off,none⟩:=by cases a;simp at hsp;subst hsp;rfl
        have key : ∀ (i:Nat) (c:AV),(HQ es)[i]? =some c->c.scalar=true /\ ∃ v,w.cell? ⟨a.block,a.off+i,none⟩=some v/\Ec G w c v:=by
         intro i c hi
         obtain ⟨k,j,x,h1,h2,h3,h4⟩:=AGJ hsz hi
         obtain ⟨_,⟨ci,hci,hf⟩,_⟩:=hes2 k x h3
         obtain ⟨_,g1,g2⟩:=World.cells?_some hci
         have g3:=g2 j h2
         have hlt:j<ci.length:=FQ
         rw [AL hlt] at g3
         rw [haddr,G7,G7] at g3
         refine ⟨(hf.sc c (AB h4)).1,ci[j], ?_,hf.rel j c _ h4 (AL hlt)⟩
         rw [h1,<- Nat.add_assoc];exact g3
        rw [haddr]
        have:=VRel.sl (G:=G) (w:=w) none es (P.cellsOf e) a.block a.off cap (λi=>(w.cell? ⟨a.block,a.off+i,none⟩).getD Go.undef) hsz (λn hn=>by cases hn) FQ hcond.2.2
         (λi c hi=>by
          obtain ⟨s,v,hv,_⟩:=key i c hi
          exact ⟨s,by simp [Gh.safe,hG],by rw [hv];rfl⟩)
         (λi c hi=>by
          obtain ⟨_,v,hv,hr⟩:=key i c hi
          rw [hv];exact hr)
        rw [hes] at this
        exact this
       ·have h0:cap=0:=FQ
        have h1:len=0:=FQ
        subst h0;subst h1
        have:es=[]:=List.eq_nil_of_length_eq_zero hes
        subst this
        exact .slany none a
    all_goals first|(simp at *;done)|(rename_i heq _;cases heq)
   case struct fs =>
    simp only [AQ,Am,Dj] at hst
    dsimp only at h
    split at h
    case isFalse=>cases h
    rename_i hlen
    cases hm:fs.toList.mapM λf=>DataW.trod enc P w base (λ_=>true) held fuel f.type ((cs.drop f.offset).take (P.cellsOf f.type)) with
    | none=>rw [hm] at h;simp at h
    | some xs =>
     rw [hm] at h
     simp only [BS,Option.some.injEq,Prod.mk.injEq] at h
     obtain ⟨rfl,_⟩:=h
     simp only [DataW.weights,hu] at hw
     obtain ⟨parts,p1,p2,p3,p4⟩:=fit_fields (G:=G) (w:=w) (P:=P) (S:=S) ih fs.toList 0 xs (by rw [hlen];exact hst.1) hst.2 (BW _) hm hw
     exact ⟨.agg (HQ parts),.struct hu (by simpa using p1) (λi f x hf hx=>p2 i f x (by simpa using hf) hx),by simpa [AV.cells] using p3,fun μ hμ=>by
      have h1:=p4 μ hμ
      have h2:=hμ.agg (xs.map (·.1))
      simp only [AV.bulk,Zn]
      omega⟩
   case array n e =>
    simp only [AQ,beq_iff_eq,Dj] at hst
    dsimp only at h
    split at h
    case isFalse=>cases h
    rename_i hlen
    cases hm:(Ak n).mapM λi=>DataW.trod enc P w base (λ_=>true) held fuel e ((cs.drop (i*P.cellsOf e)).take (P.cellsOf e)) with
    | none=>rw [hm] at h;simp at h
    | some xs =>
     rw [hm] at h
     simp only [BS,Option.some.injEq,Prod.mk.injEq] at h
     obtain ⟨rfl,_⟩:=h
     simp only [DataW.weights,hu] at hw
     have hxl:=mapM_some_length hm
     simp only [Dk] at hxl
     obtain ⟨parts,q1,q2⟩:=O0 (p:=λi x=>Rd P e x/\FitL G w x.cells ((cs.drop (i*P.cellsOf e)).take (P.cellsOf e)) /\ ∀ y,xs[i]? =some y -> ∀ μ:DataW H->Nat,BulkOk μ->x.bulk<=μ y.1) n λi hi=>by
      have hg:=mapM_some_get hm i i (by simp [hi])
      have hlt:i<xs.length:=FQ
      rw [AL hlt] at hg
      obtain ⟨x,hx1,hx2,hx3⟩:=ih e _ xs[i].1 xs[i].2 hst.1 hg λm hm=>hw m (Lf (AN.2 ⟨xs[i],Cb hlt,rfl⟩) m hm)
      exact ⟨x,hx1,hx2,λy hy μ hμ=>by rw [AL hlt] at hy;cases hy;exact hx3 μ hμ⟩
     refine ⟨.agg (HQ parts),.array hu q1 (λx hx=>?_), ?_,fun μ hμ=>?_⟩
     ·obtain ⟨i,hi⟩:=Ae hx
      exact (q2 i x hi).1
     ·exact xj (λi x hx=>(q2 i x hx).2.1) (by rw [q1,hlen,hst.2])
     ·have h1:=Wu (μ:=μ) (es:=parts) (ds:=xs.map (·.1)) (by simp;omega) λi x d hx hd=>by
       rw [AZ] at hd
       cases hy:xs[i]? with
       | none=>rw [hy] at hd;cases hd
       | some y=>rw [hy] at hd;cases hd;exact (q2 i x hx).2.2 y hy μ hμ
      have h2:=hμ.agg (xs.map (·.1))
      simp only [AV.bulk,Zn]
      omega
end
end
end Go.AI
namespace Go.AI
open Go.RowKit Go.ChangeShapes
def GY(P:Program):List TypeId->List AV->Prop
 | [],[]=>True
 | t::ts,a::as=>Rd P t a/\GY P ts as
 | _,_=>False
section
variable {P:Program} {G:Gh} {w:World} {H:Type} {enc:TypeId×Value->H} {base:Nat}
def OZ{a:AV}(hv:a.isVal=true)(h : ∀ c∈a.cells,F8 c=false):a.owned=false:=by
 unfold AV.owned
 rw [List.any_eq_false]
 intro c hc
 have:a.flat=a.cells:=by cases a<;>first|rfl|cases hv
 rw [this] at hc
 simp [h c hc]
def AGm{t:TypeId}{a:AV}{v:Value}(hr:Rd P t a)(hf:FitL G w a.cells v.cells.toList)(hok:Value.okWide P w .any base t v):Ec G w a v/\a.owned=false:=by
 have one : ∀ (a:AV) (v:Value),a.scalar=true->a.cells=[a]->(∀ cs,v ≠ .agg cs)->FitL G w a.cells v.cells.toList->Ec G w a v:=by
  intro a v h1 h2 h3 h4
  have h5:v.cells=#[v]:=by cases v<;>first|rfl|exact absurd rfl (h3 _)
  rw [h2,h5] at h4
  exact h4.rel 0 a v rfl rfl
 have noAgg : ∀ (u:TypeDesc),P.underlying t=some u->(u = .bool\/(∃ k,u = .int k)\/u = .string \/ ∃ e,u = .slice e) -> ∀ cs,v ≠ .agg cs:=by
  intro u hu hk cs hv
  subst hv
  rcases hk with rfl|⟨k,rfl⟩|rfl|⟨e,rfl⟩<;>simp [Value.okWide,hu,Cell.okWide,Cell.ok] at hok
 cases hr with
 | bool b h=>exact ⟨one _ _ rfl rfl (noAgg _ h (.inl rfl)) hf,rfl⟩
 | int h hw=>exact ⟨one _ _ rfl rfl (noAgg _ h (.inr (.inl ⟨_,rfl⟩))) hf,rfl⟩
 | str h hs=>exact ⟨one _ _ rfl rfl (noAgg _ h (.inr (.inr (.inl rfl)))) hf,rfl⟩
 | slice h hl hb he=>exact ⟨one _ _ rfl rfl (noAgg _ h (.inr (.inr (.inr ⟨_,rfl⟩)))) hf,rfl⟩
 | struct h hl hp =>
  refine ⟨?_,OZ rfl λc hc=>(hf.sc c hc).2⟩
  simp only [Value.okWide,h] at hok
  obtain ⟨cs,rfl,_⟩:=hok
  exact .agg _ _ (by simpa [AV.cells,Value.cells] using hf.len) (λc hc=>(hf.sc c hc).1) λi c x h1 h2=>hf.rel i c x h1 (by simpa [Value.cells] using h2)
 | array h hl hp =>
  refine ⟨?_,OZ rfl λc hc=>(hf.sc c hc).2⟩
  simp only [Value.okWide,h] at hok
  obtain ⟨cs,rfl,_⟩:=hok
  exact .agg _ _ (by simpa [AV.cells,Value.cells] using hf.len) (λc hc=>(hf.sc c hc).1) λi c x h1 h2=>hf.rel i c x h1 (by simpa [Value.cells] using h2)
def jk{S:List TypeId}(hS:zz P S=true)(hG : ∀ b,G.kind b = .imm): ∀ (ts:List TypeId) (vs:List Value) (ds:List (DataW H)) (ps:List MemPlace),(∀ t∈ts,t∈S) ->
  DataW.TrodAll enc P w 0 (λ_=>true) true ts vs ds ps->(∀ m∈DataW.weightsEach P ts ds,m<=reachBytes)->(∀ (j:Nat) t v,ts[j]? =some t->vs[j]? =some v->Value.okWide P w .any base t v) ->
  ∃ as,GY P ts as/\as.length=vs.length/\(∀ (i:Nat) (a:AV) (v:Value),as[i]? =some a->vs[i]? =some v->Ec G w a v/\a.owned=false) /\ ∀ μ:DataW H->Nat,BulkOk μ->FT as<=(ds.map μ).sum
 | [],vs,ds,ps,_,h,_,_=>by
  obtain ⟨rfl,rfl,rfl⟩:=trodAll_nil h
  exact ⟨[],trivial,rfl,λi a v h=>by simp at h,fun μ _=>by simp [FT]⟩
 | t::ts,vs,ds,ps,hin,h,hw,hok=>by
  obtain ⟨v,vs',d,ds',p,q,rfl,rfl,rfl,⟨fuel,h1⟩,h2⟩:=trodAll_cons h
  simp only [DataW.weightsEach,Ar] at hw
  obtain ⟨a,ha,hf,hba⟩:=VY hS hG fuel t _ d p (hin t sm) h1 λm hm=>hw m (.inl hm)
  obtain ⟨as,g1,g2,g3,g4⟩:=jk hS hG ts vs' ds' q (λt ht=>hin t (by simp [ht])) h2 (λm hm=>hw m (.inr hm)) λj t v h1 h2=>hok (j+1) t v (by simpa using h1) (by simpa using h2)
  refine ⟨a::as,⟨ha,g1⟩,by simp [g2],λi x y hx hy=>?_,fun μ hμ=>?_⟩
  ·cases i with
   | zero =>
    simp at hx hy
    subst hx;subst hy
    exact AGm ha hf (hok 0 t v rfl rfl)
   | succ i=>exact g3 i x y (by simpa using hx) (by simpa using hy)
  ·have h1:=hba μ hμ
   have h2:=g4 μ hμ
   simp only [FT,AR,B2]
   omega
def P5(hl:laidOutB P=true){W W':World}(hb:Below W.heap.size W W'): ∀ (ts:List TypeId) (vs:List Value) (ds:List (DataW H)) (ps:List MemPlace),(∀ t∈ts,P.readableRec t=true/\t<P.types.size) ->
  DataW.TrodAll enc P W 0 (λ_=>true) true ts vs ds ps->(∀ x∈ps,x.block<W.heap.size)->DataW.TrodAll enc P W' 0 (λb=>decide (b<W.heap.size)) true ts vs ds ps
 | [],vs,ds,ps,_,h,_=>by
  obtain ⟨rfl,rfl,rfl⟩:=trodAll_nil h
  rfl
 | t::ts,vs,ds,ps,hr,h,hlt=>by
  obtain ⟨v,vs',d,ds',p,q,rfl,rfl,rfl,h1,h2⟩:=trodAll_cons h
  exact ⟨p,q,Below.trod hl (hr t sm).1 (hr t sm).2 h1 hb λx hx=>hlt x (by simp [hx]),
   P5 hl hb ts vs' ds' q (λt ht=>hr t (by simp [ht])) h2 λx hx=>hlt x (by simp [hx]),rfl⟩
def sV{as:List AV}{us:List Value}(hg:zY ⟨[],λ_ => .imm⟩ w)(hlen:as.length=us.length)(hrel : ∀ (i:Nat) (a:AV) (v:Value),as[i]? =some a->us[i]? =some v->Ec ⟨[],λ_ => .imm⟩ w a v/\a.owned=false):
  Ed (λb=>b<w.heap.size) ⟨[],λ_ => .imm⟩ as [] us w:=by
 refine ⟨⟨hlen,λi a u h1 h2=>(hrel i a u h1 h2).1,λi a u h1 h2=>Fh (GK (hrel i a u h1 h2).2 u) _ _ _⟩,⟨rfl,λo cs b h=>by simp at h,λo o' cs cs' b h=>by simp at h,λb h=>h,hg⟩,λb=>?_⟩
 have h0:G9 b as us=0:=by
  have : ¬ 0<G9 b as us:=λhp=>by
   obtain ⟨i,a,u,h1,h2,p,hp,ht⟩:=RW as us hp
   have h3:=GK (hrel i a u h1 h2).2 u
   have:b∈Gr a u:=List.mem_filterMap.2 ⟨p,hp,ht⟩
   rw [h3] at this
   cases this
  omega
 rw [h0]
 simp [IL]
def al {C:Checked} {f:FuncId} {fn:Func} {s:ChangeSpec} {apart handsOn:Bool} {tb:TypeId} (S:List TypeId)
  (hl:laidOutB C.prog=true) (hS:zz C.prog S=true) (hpar : ∀ t∈fn.params.toList,t∈S/\C.prog.readableRec t=true/\t<C.prog.types.size)
  (hres:fn.resultTypes=#[tb]) (htb:C.prog.underlying tb=some .bool) (hv:s.vars=[])
  (hs : ∀ (H:Type) (ds:List (DataW H)),ds.length=fn.params.size->s.fn H ds={ results:=[.lit (.bool true)],args:=ds })
  (W:World) (hglob:zY ⟨[],λ_ => .imm⟩ W) (base:Nat) (args:Array Value) (ds gs:List (DataW H)) (before:List MemPlace)
  (law : ∀ as,GY C.prog fn.params.toList as->(∀ μ:DataW H->Nat,BulkOk μ->FT as<=(ds.map μ).sum)->A' C.prog f as (.bool true))
  (hval : ∀ (j:Nat) t v,fn.params[j]? =some t->args[j]? =some v->Value.okWide C.prog W .any base t v)
  (hW:DataW.Whole enc C.prog fn.params.toList s.vars apart W args.toList ds gs before)
  (hwt:(DataW.weightsEach C.prog (fn.params.toList++s.plain.varTypes C.prog) (ds++gs)).all (· <= reachBytes)=true) :
  Calls C.prog f args W λe W' => ∃ v,e = .returned v/\s.post enc C.prog fn apart true handsOn false W args v W':=by
 have hW':=hW
 obtain ⟨p,q,hA,hV,rfl,hfz,hnd⟩:=hW
 rw [hv] at hV
 have hg:gs=[]/\q=[]:=by
  cases gs with
  | nil=>simp [DataW.TrodVars] at hV;exact ⟨rfl,hV⟩
  | cons g gs=>simp [DataW.TrodVars] at hV
 obtain ⟨rfl,rfl⟩:=hg
 have hwt' : ∀ m∈DataW.weightsEach C.prog fn.params.toList ds,m<=reachBytes:=by
  intro m hm
  have e:s.plain.varTypes C.prog=[]:=by
   have:s.plain.vars=[]:=by rw [<- hv];rfl
   simp [DataSpec.varTypes,this]
  rw [e,Ag,Ag] at hwt
  have:=Am.1 hwt m hm
  simpa using this
 obtain ⟨as,h1,h2,h3,h4⟩:=jk (G:=⟨[],λ_ => .imm⟩) (base:=base) hS (λ_=>rfl) fn.params.toList args.toList ds p (λt ht=>(hpar t ht).1) hA hwt' λj t v hj hv=>hval j t v (by simpa using hj) (by simpa using hv)
 have hc:=sV hglob h2 h3
 have hcall:=(law as h1 h4 []).2 _ _ W args.toList hc
 rw [Array.toArray_toList] at hcall
 refine hcall.mono λe W' he=>?_
 obtain ⟨u,rfl,v,H',G',⟨rfl,rfl⟩,hcr,hext⟩:=he
 obtain ⟨hu,_,_⟩:=hcr.l.uncons
 have hu':u = .bool true:=by cases hu;rfl
 subst hu'
 have hb:Below W.heap.size W W':=⟨hext.io.1,hext.io.2.1,hext.io.2.2,hext.size,λk hk=>hext.cells k hk⟩
 have hdl:ds.length=fn.params.size:=by
  have : ∀ (ts:List TypeId) (vs:List Value) (ds:List (DataW H)) (ps:List MemPlace),DataW.TrodAll enc C.prog W 0 (λ_=>true) true ts vs ds ps->ds.length=ts.length:=by
   intro ts
   induction ts with
   | nil=>intro vs ds ps h;obtain ⟨_,rfl,_⟩:=trodAll_nil h;rfl
   | cons t ts ih=>intro vs ds ps h;obtain ⟨v,vs',d,ds',p,q,_,rfl,_,_,h2⟩:=trodAll_cons h;simp [ih _ _ _ h2]
  simpa using this _ _ _ _ hA
 refine ⟨_,rfl,ds,[],p++[],[],p,[],hW', ?_, ?_, ?_,hb.frame _,λh=>by cases h⟩
 ·rw [Ag,hs H ds hdl,hres]
  exact trodAll_mk1 ⟨1,by simp [DataW.trod,Value.cells,htb]⟩
 ·rw [Ag,hs H ds hdl]
  exact P5 hl hb _ _ _ _ (λt ht=>(hpar t ht).2) hA λx hx=>hW'.lt x (by simp [hx])
 ·rw [Ag,hs H ds hdl,hv]
  rfl
end
end Go.AI
namespace Go.AI
section
variable {P:Program} {m:Nat} {h:Ee} {ops:Array Oper} {e:Ft} {H:FR} {Q:Exit->Kt} {ar:Option Nat}
def RB : ∀ (l:List Oper) (K K':Ft->FR->Prop) (e:Ft) (H:FR),(∀ e H,K e H->K' e H)->LF P m h ops l K e H->LF P m h ops l K' e H
 | [],K,K',e,H,hk,ha=>hk e H ha
 | o::l,K,K',e,H,hk,ha=>K7 (λe H=>RB l K K' e H hk) ha
def GW : ∀ (c:Code) {ar:Option Nat} (Q Q':Exit->Kt) (e:Ft) (H:FR),(∀ ex e H,Q ex e H->Q' ex e H)->I3 P m h ar c Q e H->I3 P m h ar c Q' e H
 | .skip,ar,Q,Q',e,H,hq,ha=>hq _ _ _ ha
 | .exit id,ar,Q,Q',e,H,hq,ha=>hq _ _ _ ha
 | .ret,ar,Q,Q',e,H,hq,ha=>hq _ _ _ ha
 | .region id ops draw,ar,Q,Q',e,H,hq,ha=>RB _ _ _ _ _ (λ_ _ h=>⟨h.1,hq _ _ _ h.2⟩) ha
 | .seq a b,ar,Q,Q',e,H,hq,ha=>GW a _ _ e H (λex e H h=>by
   cases ex with
   | normal=>exact GW b Q Q' e H hq h
   | _=>exact hq _ _ _ h) ha
 | .cond c a b,ar,Q,Q',e,H,hq,ha=>by
  simp only [I3] at ha ⊢
  split at ha
  ·rename_i t ht
   cases t with
   | true=>exact GW a Q Q' e H hq ha
   | false=>exact GW b Q Q' e H hq ha
  ·exact ha.elim
 | .block id c,ar,Q,Q',e,H,hq,ha=>GW c _ _ e H (λex e H h=>by
   cases ex with
   | exit j =>
    dsimp only at h ⊢
    split at h
    ·rename_i hj;rw [iP hj];exact hq _ _ _ h
    ·rename_i hj;rw [iN hj];exact hq _ _ _ h
   | _=>exact hq _ _ _ h) ha
 | .loop c,ar,Q,Q',e,H,hq,ha=>by
  obtain ⟨I,μ,h0,hr⟩:=ha
  exact ⟨I,μ,h0,λe H hi=>GW c _ _ e H (λex e H h=>by
   cases ex with
   | normal=>exact h
   | _=>exact hq _ _ _ h) (hr e H hi)⟩
 | .rangeFunc g ps assign body,ar,Q,Q',e,H,hq,ha=>by
  obtain ⟨h1,tag,f,first,captured,h2,h3⟩:=ha
  refine ⟨h1,tag,f,first,captured,h2,h3.mono λv H2 hp=>?_⟩
  obtain ⟨st,av,g1,g2⟩:=hp
  refine ⟨st,av,g1, ?_⟩
  rcases g2 with ⟨a,b⟩|⟨a,b⟩|⟨k,a,b⟩
  ·exact .inl ⟨a,hq _ _ _ b⟩
  ·exact .inr (.inl ⟨a,hq _ _ _ b⟩)
  ·exact .inr (.inr ⟨k,a,hq _ _ _ b⟩)
 | .scope _,ar,_,_,_,_,_,ha=>ha.elim
 | .label _,ar,_,_,_,_,_,ha=>ha.elim
 | .goto _,ar,_,_,_,_,_,ha=>ha.elim
 | .refuse _,ar,_,_,_,_,_,ha=>ha.elim
def AdP(J:Nat->Kt)(r:Nat)(Q:Exit->Kt)(ex:Exit):Kt:=λe H =>
 match ex with
 | .normal => ∃ r',r'<r/\J r' e H
 | ex=>Q ex e H
def Nu{c:Code}(J:Nat->Kt)(h0 : ∃ r,J r e H)(round : ∀ r e H,J r e H->I3 P m h ar c (AdP J r Q) e H):I3 P m h ar (.loop c) Q e H:=by
 have hl : ∀ (e:Ft) (H:FR),∃ r,(∃ r,J r e H)->J r e H /\ ∀ k,J k e H->r<=k:=λe H=>by
  by_cases he : ∃ r,J r e H
  ·obtain ⟨r,h1,h2⟩:=R4 he
   exact ⟨r,λ_=>⟨h1,h2⟩⟩
  ·exact ⟨0,λh=>absurd h he⟩
 refine ⟨λe H => ∃ r,J r e H,λe H=>Classical.choose (hl e H),h0,λe H hI=>?_⟩
 obtain ⟨h1,h2⟩:=Classical.choose_spec (hl e H) hI
 refine GW c _ _ e H (λex e' H' hq=>?_) (round _ e H h1)
 cases ex with
 | normal =>
  obtain ⟨r',hr,hJ⟩:=hq
  refine ⟨⟨r',hJ⟩, ?_⟩
  obtain ⟨_,h4⟩:=Classical.choose_spec (hl e' H') ⟨r',hJ⟩
  exact Nat.lt_of_le_of_lt (h4 r' hJ) hr
 | _=>exact hq
end
end Go.AI
namespace Go.AI
def ADT(m:Nat):List Nat:=(Ak (m.log2+1)).filter λi=>m.testBit i
def lvM:Nat->List Nat->List (Nat×List Tmp)
 | _,[]=>[]
 | k,m::l=>(k,ADT m)::lvM (k+1) l
def hm(l:List Nat)(tk mt pc:List Tmp):Ee:=⟨lvM 0 l,tk,mt,[],pc,[],[]⟩
def hx(l:List Nat)(tk mt:List Tmp)(fz:List (Nat×List (Tmp×Option Nat×Bool)))(pc:List Tmp)(gc:List (Nat×Nat))(dy:List Nat):Ee:=⟨lvM 0 l,tk,mt,fz,pc,gc,dy⟩
def OQ{n:Int}(h1 : -9223372036854775808<=n)(h2:n<=9223372036854775807):IntKind.i64.wrap n=n:=IntWalk.i64_in _ ⟨h1,h2⟩
def Mj{k:Nat}(h:k<9223372036854775807):IntKind.i64.wrap ((k:Int)+1)=((k+1:Nat):Int):=by
 rw [OQ FQ FQ];rfl
section
variable {P:Program} {m:Nat} {h:Ee} {e:Ft} {H:FR} {Q:Exit->Kt} {ops:Array Oper} {ar:Option Nat}
def At(e e':Ft)(H H':FR):Prop:=e=e'/\H=H'
def ASO(n:Nat)(E:Nat->Ft)(HH:Nat->FR)(k:Nat)(Q:Exit->Kt)(ex:Exit):Kt:=λe H =>
 match ex with
 | .normal=>k<n/\At e (E (k+1)) H (HH (k+1))
 | ex=>Q ex e H
def ij(n:Nat)(E:Nat->Ft)(HH:Nat->FR)(k:Nat):ASO n E HH k Q .normal e H=(k<n/\At e (E (k+1)) H (HH (k+1))):=AG rfl rfl
def xi(n:Nat)(E:Nat->Ft)(HH:Nat->FR)(k j:Nat):ASO n E HH k Q (.exit j)=Q (.exit j):=AG rfl rfl
def be{c:Code}(n:Nat)(E:Nat->Ft)(HH:Nat->FR)(he:e=E 0)(hH:H=HH 0)(round : ∀ k,k<=n->I3 P m h ar c (ASO n E HH k Q) (E k) (HH k)):I3 P m h ar (.loop c) Q e H:=by
 subst he;subst hH
 refine Nu (λr e H => ∃ k,k+r=n/\e=E k/\H=HH k) ⟨n,0,FQ,rfl,rfl⟩ λr e H hJ=>?_
 obtain ⟨k,hk,rfl,rfl⟩:=hJ
 refine GW c _ _ _ _ (λex e H hq=>?_) (round k FQ)
 cases ex with
 | normal =>
  obtain ⟨h1,rfl,rfl⟩:=hq
  exact ⟨r - 1,FQ,k+1,FQ,rfl,rfl⟩
 | _=>exact hq
def whK{σ:Type}(E:σ->Ft)(HH:σ->FR)(I:σ->Prop)(μ:σ->Nat)(s:σ)(Q:Exit->Kt)(ex:Exit):Kt:=λe H =>
 match ex with
 | .normal => ∃ s',I s'/\μ s'<μ s/\At e (E s') H (HH s')
 | ex=>Q ex e H
section
variable {σ:Type}
def ll(E:σ->Ft)(HH:σ->FR)(I:σ->Prop)(μ:σ->Nat)(s:σ):whK E HH I μ s Q .normal e H = ∃ s',I s'/\μ s'<μ s/\At e (E s') H (HH s'):=AG rfl rfl
def AEx(E:σ->Ft)(HH:σ->FR)(I:σ->Prop)(μ:σ->Nat)(s:σ):whK E HH I μ s Q .ret=Q .ret:=AG rfl rfl
def zl(E:σ->Ft)(HH:σ->FR)(I:σ->Prop)(μ:σ->Nat)(s:σ)(j:Nat):whK E HH I μ s Q (.exit j)=Q (.exit j):=AG rfl rfl
def Km{c:Code}(E:σ->Ft)(HH:σ->FR)(I:σ->Prop)(μ:σ->Nat)(s:σ)(h0:I s)(he:e=E s)(hH:H=HH s)(round : ∀ s,I s->I3 P m h ar c (whK E HH I μ s Q) (E s) (HH s)):I3 P m h ar (.loop c) Q e H:=by
 subst he;subst hH
 refine Nu (λr e H => ∃ s,I s/\μ s=r/\e=E s/\H=HH s) ⟨μ s,s,h0,rfl,rfl,rfl⟩ λr e H hJ=>?_
 obtain ⟨s,hs,rfl,rfl,rfl⟩:=hJ
 refine GW c _ _ _ _ (λex e H hq=>?_) (round s hs)
 cases ex with
 | normal =>
  obtain ⟨s',h1,h2,rfl,rfl⟩:=hq
  exact ⟨μ s',h2,s',h1,rfl,rfl,rfl⟩
 | _=>exact hq
end
section
variable {α σ ρ:Type}
def qg(F:σ->List α->ρ)(E:Nat->σ->Ft)(HH:Nat->σ->FR)(I:Nat->σ->Prop)(k:Nat)(s:σ)(x:α)(xs:List α)(Q:Exit->Kt)(ex:Exit):Kt:=λe H =>
 match ex with
 | .normal => ∃ s',F s (x::xs)=F s' xs/\I (k+1) s'/\At e (E (k+1) s') H (HH (k+1) s')
 | ex=>Q ex e H
def aF(F:σ->List α->ρ)(E:Nat->σ->Ft)(HH:Nat->σ->FR)(I:Nat->σ->Prop)(k:Nat)(s:σ)(x:α)(xs:List α):qg F E HH I k s x xs Q .normal e H = ∃ s',F s (x::xs)=F s' xs/\I (k+1) s'/\At e (E (k+1) s') H (HH (k+1) s'):=AG rfl rfl
def sZ(F:σ->List α->ρ)(E:Nat->σ->Ft)(HH:Nat->σ->FR)(I:Nat->σ->Prop)(k:Nat)(s:σ)(x:α)(xs:List α):qg F E HH I k s x xs Q .ret=Q .ret:=AG rfl rfl
def l8(F:σ->List α->ρ)(E:Nat->σ->Ft)(HH:Nat->σ->FR)(I:Nat->σ->Prop)(k:Nat)(s:σ)(x:α)(xs:List α)(j:Nat):qg F E HH I k s x xs Q (.exit j)=Q (.exit j):=AG rfl rfl
def rN(Q:Exit->Kt)(ex:Exit):Kt:=λe H =>
 match ex with
 | .normal=>False
 | ex=>Q ex e H
def oC(j:Nat):rN Q (.exit j)=Q (.exit j):=AG rfl rfl
def Fq {c:Code} (l:List α) (F:σ->List α->ρ) (I:Nat->σ->Prop) (E:Nat->σ->Ft) (HH:Nat->σ->FR) (s0:σ) (hl:l.length<=9223372036854775807) (h0:I 0 s0) (he:e=E 0 s0) (hH:H=HH 0 s0)
  (round : ∀ k s x xs,l.drop k=x::xs->l[k]? =some x->I k s->F s0 l=F s (x::xs)->0<=(k:Int)->(k:Int)<(l.length:Int)->IntKind.i64.wrap ((k:Int)+1)=((k+1:Nat):Int)->I3 P m h ar c (qg F E HH I k s x xs Q) (E k s) (HH k s))
  (fin : ∀ s,I l.length s->F s0 l=F s []->I3 P m h ar c (rN Q) (E l.length s) (HH l.length s)):I3 P m h ar (.loop c) Q e H:=by
 subst he;subst hH
 refine Nu (λr e H => ∃ k s,k+r=l.length/\I k s/\F s0 l=F s (l.drop k)/\e=E k s/\H=HH k s) ⟨l.length,0,s0,FQ,h0,sm,rfl,rfl⟩ λr e H hJ=>?_
 obtain ⟨k,s,hk,hI,hF,rfl,rfl⟩:=hJ
 by_cases hlt:k<l.length
 ·have hx:=AL hlt
  have hd:l.drop k=l[k]::l.drop (k+1):=BL hlt
  rw [hd] at hF
  refine GW c _ _ _ _ (λex e H hq=>?_) (round k s _ _ hd hx hI hF FQ FQ  (Mj FQ))
  cases ex with
  | normal =>
   obtain ⟨s',h1,h2,rfl,rfl⟩:=hq
   exact ⟨r - 1,FQ,k+1,s',FQ,h2,hF.trans h1,rfl,rfl⟩
  | _=>exact hq
 ·have hk':k=l.length:=FQ
  subst hk'
  rw [Cq] at hF
  refine GW c _ _ _ _ (λex e H hq=>?_) (fin s hI hF)
  cases ex with
  | normal=>exact hq.elim
  | _=>exact hq
end
end
section
variable {P:Program} {t:TypeId} {a b:AV} {r:Bool} {d:Tmp} {K:Kt} {e:Ft} {H:FR}
def yZ(ha:KF P t a b=some r):Ih P .neq t a b d K e H=K ((d,.bool !r)::e) H:=by simp [Ih,KC,ha]
end
mutual
def AV.fit:AV->Prop
 | .sl _ es=>es.length<=9223372036854775807/\HU es
 | .agg cs=>HU cs
 | .tup vs=>HU vs
 | _=>True
def HU:List AV->Prop
 | []=>True
 | v::vs=>v.fit/\HU vs
end
def Fv{vs:List AV}:HU vs ↔ ∀ v∈vs,v.fit:=by
 induction vs with
 | nil=>simp [HU]
 | cons x xs ih=>simp [HU,ih]
def bH{a:AV}(h : ∀ c∈a.cells,c.fit):a.fit:=by
 cases a with
 | agg cs=>exact Fv.2 h
 | _=>exact h _ (by simp [AV.cells])
def VRel.fit{G:Gh}{w:World}{a:AV}{v:Value}(h:Ec G w a v):a.fit:=by
 induction h with
 | sl own es sz b q cap u hsz hown hl hm h hu ih =>
  refine ⟨AK hl hm,Fv.2 λx hx=>bH λc hc=>?_⟩
  have:c∈HQ es:=Bq.2 ⟨x,hx,hc⟩
  obtain ⟨i,hi⟩:=Ae this
  exact ih i c hi
 | slnil own=>exact ⟨sm,trivial⟩
 | slany own a=>exact ⟨sm,trivial⟩
 | agg cs vs hl hs h ih =>
  refine Fv.2 λc hc=>?_
  obtain ⟨i,hi⟩:=Ae hc
  have hlt:=(AC.1 hi).1
  exact ih i c _ hi (Ai FQ)
 | tup cs vs hl hs h ih =>
  refine Fv.2 λc hc=>?_
  obtain ⟨i,hi⟩:=Ae hc
  have hlt:=(AC.1 hi).1
  exact ih i c _ hi (Ai FQ)
 | _=>exact trivial
def CRel.fit{F:Nat->Prop}{G:Gh}{w:World}{vs:List AV}{H:FR}{us:List Value}(h:Ed F G vs H us w):HU vs:=by
 refine Fv.2 λa ha=>?_
 obtain ⟨i,hi⟩:=Ae ha
 have hlt:=(AC.1 hi).1
 have:=h.l.len
 exact (h.l.rel i a _ hi (AL FQ)).fit
def FZ.fit{P:Program}{f:FuncId}{vs:List AV}{H:FR}{R:AV->FR->Prop}(hcal:HS P f=true)(h:HU vs->FZ P f vs H R):FZ P f vs H R :=
 ⟨hcal,λF G w us hc=>(h hc.fit).2 F G w us hc⟩
def A'.fit{P:Program}{f:FuncId}{vs:List AV}{v:AV}(hcal:HS P f=true)(h:HU vs->A' P f vs v):A' P f vs v:=λH =>
 ⟨hcal,λF G w us hc=>(h hc.fit H).2 F G w us hc⟩
def Jo.fit{P:Program}{f:FuncId}{vs:List AV}{Q:AV->Prop}(hcal:HS P f=true)(h:HU vs->Jo P f vs Q):Jo P f vs Q:=λH =>
 ⟨hcal,λF G w us hc=>(h hc.fit H).2 F G w us hc⟩
section
variable {P:Program} {t e:TypeId} {a:AV}
def Zz{k:IntKind}(hu:P.underlying t=some (.int k))(h:Rd P t a): ∃ n,a = .int k n/\(k.min<=n/\n<=k.max):=by
 cases h with
 | int h hw=>rw [hu] at h;cases h;exact ⟨_,rfl,hw⟩
 | bool b h=>rw [hu] at h;cases h
 | str h=>rw [hu] at h;cases h
 | slice h=>rw [hu] at h;cases h
 | struct h=>rw [hu] at h;cases h
 | array h=>rw [hu] at h;cases h
def XF(hu:P.underlying t=some .bool)(h:Rd P t a): ∃ b,a = .bool b/\True:=by
 cases h with
 | int h hw=>rw [hu] at h;cases h
 | bool b h=>exact ⟨_,rfl,trivial⟩
 | str h=>rw [hu] at h;cases h
 | slice h=>rw [hu] at h;cases h
 | struct h=>rw [hu] at h;cases h
 | array h=>rw [hu] at h;cases h
def zI(hu:P.underlying t=some .string)(h:Rd P t a): ∃ s,a = .str s/\s.size<=reachBytes:=by
 cases h with
 | int h hw=>rw [hu] at h;cases h
 | bool b h=>rw [hu] at h;cases h
 | str h hs=>exact ⟨_,rfl,hs⟩
 | slice h=>rw [hu] at h;cases h
 | struct h=>rw [hu] at h;cases h
 | array h=>rw [hu] at h;cases h
def IC{α:Type}{f:α->AV}{ok:α->Prop}(hu:P.underlying t=some (.slice e))(hd : ∀ x,Rd P e x -> ∃ y,x=f y/\ok y)(h:Rd P t a):
  ∃ l:List α,a = .sl none (l.map f)/\l.length*P.bytesOf e<=reachBytes /\ ∀ x∈l,ok x:=by
 cases h with
 | slice h hl hb he =>
  rw [hu] at h;cases h
  rename_i es
  have : ∃ l:List α,es=l.map f /\ ∀ x∈l,ok x:=by
   clear hl hb
   induction es with
   | nil=>exact ⟨[],rfl,λx hx=>by simp at hx⟩
   | cons x xs ih =>
    obtain ⟨y,rfl,hy⟩:=hd x (he x sm)
    obtain ⟨l,rfl,hl⟩:=ih λx hx=>he x (by simp [hx])
    exact ⟨y::l,rfl,λz hz=>by
     rcases AW.1 hz with rfl|hz
     ·exact hy
     ·exact hl z hz⟩
  obtain ⟨l,rfl,hok⟩:=this
  exact ⟨l,rfl,by simpa using hb,hok⟩
 | int h hw=>rw [hu] at h;cases h
 | bool b h=>rw [hu] at h;cases h
 | str h=>rw [hu] at h;cases h
 | struct h=>rw [hu] at h;cases h
 | array h=>rw [hu] at h;cases h
def PJ(hu:P.underlying t=some (.slice e))(h:Rd P t a): ∃ es:List AV,a = .sl none es/\es.length*P.bytesOf e<=reachBytes /\ ∀ x∈es,Rd P e x:=by
 cases h with
 | slice h hl hb he =>
  rw [hu] at h;cases h
  exact ⟨_,rfl,hb,he⟩
 | int h hw=>rw [hu] at h;cases h
 | bool b h=>rw [hu] at h;cases h
 | str h=>rw [hu] at h;cases h
 | struct h=>rw [hu] at h;cases h
 | array h=>rw [hu] at h;cases h
def ah{α:Type}{f:α->AV}{ok:α->Prop}{es:List AV}(h : ∀ x∈es,∃ y,x=f y/\ok y): ∃ l:List α,es=l.map f /\ ∀ x∈l,ok x:=by
 induction es with
 | nil=>exact ⟨[],rfl,λx hx=>by simp at hx⟩
 | cons x xs ih =>
  obtain ⟨y,rfl,hy⟩:=h x sm
  obtain ⟨l,rfl,hl⟩:=ih λx hx=>h x (by simp [hx])
  exact ⟨y::l,rfl,λz hz=>by
   rcases AW.1 hz with rfl|hz
   ·exact hy
   ·exact hl z hz⟩
def aE{o:Option Nat}{es cs:List AV}(h:AV.sl o es∈cs):SizeOf.sizeOf es<SizeOf.sizeOf (AV.agg cs):=by
 have h1:=List.sizeOf_lt_of_mem h
 have h2:SizeOf.sizeOf (AV.agg cs)=1+SizeOf.sizeOf cs:=sm
 have h3:SizeOf.sizeOf (AV.sl o es)=1+SizeOf.sizeOf o+SizeOf.sizeOf es:=sm
 omega
def Fs{a:AV}{l:List AV}(h:a∈l):a.bulk<=FT l:=by
 induction l with
 | nil=>cases h
 | cons x l ih =>
  simp only [FT]
  rcases AW.1 h with rfl|h
  ·omega
  ·have:=ih h;omega
def Hc(l:List AV)(a n:Nat):FT ((l.drop a).take n)<=FT l:=by
 have h1:=Nq ((l.drop a).take n) ((l.drop a).drop n)
 have h2:=Nq (l.take a) (l.drop a)
 rw [A9] at h1 h2
 omega
def HM{α:Type}{f:α->AV}(hf : ∀ x,1<=(f x).bulk)(l:List α):l.length<=FT (l.map f):=by
 induction l with
 | nil=>simp
 | cons x l ih =>
  have:=hf x
  simp only [AD,AR,FT]
  omega
def HC{s:ByteArray}{l:List AV}{B:Nat}(h:AV.str s∈l)(hb:FT l<=B):s.size<=B:=by
 have:=Fs h
 simp only [AV.bulk] at this
 omega
def Gu{o:Option Nat}{es l:List AV}{B:Nat}(h:AV.sl o es∈l)(hb:FT l<=B):FT es<=B:=by
 have:=Fs h
 simp only [AV.bulk] at this
 omega
def AHK(P:Program)(t:TypeId):Option (List TypeId) :=
 match P.underlying t with
 | some (.struct fs)=>some (fs.toList.map (·.type))
 | some (.array n e)=>some (Ay n e)
 | _=>none
def Y5{ts:List TypeId}{ps:List AV}(hl:ps.length=ts.length)(h : ∀ (i:Nat) (t:TypeId) (x:AV),ts[i]? =some t->ps[i]? =some x->Rd P t x):GY P ts ps:=by
 induction ts generalizing ps with
 | nil=>cases ps with
  | nil=>trivial
  | cons=>simp at hl
 | cons t ts ih=>cases ps with
  | nil=>simp at hl
  | cons p ps=>exact ⟨h 0 t p rfl rfl,ih (by simpa using hl) λi t x h1 h2=>h (i+1) t x (by simpa using h1) (by simpa using h2)⟩
def GF{ts:List TypeId}(hs:AHK P t=some ts)(h:Rd P t a): ∃ ps,a = .agg (HQ ps)/\GY P ts ps:=by
 unfold AHK at hs
 cases h with
 | struct h hl hp =>
  rw [h] at hs;cases hs
  refine ⟨_,rfl,Y5 (by simpa using hl) λi t x h1 h2=>?_⟩
  rw [AZ] at h1
  rename_i fs _
  cases hf:fs.toList[i]? with
  | none=>rw [hf] at h1;cases h1
  | some f=>rw [hf] at h1;cases h1;exact hp i f x (by simpa using hf) h2
 | array h hl hp =>
  rw [h] at hs;cases hs
  refine ⟨_,rfl,Y5 (by simpa using hl) λi t x h1 h2=>?_⟩
  have:=List.eq_of_mem_replicate (AB h1)
  subst this
  exact hp x (AB h2)
 | int h hw=>rw [h] at hs;cases hs
 | bool b h=>rw [h] at hs;cases hs
 | str h=>rw [h] at hs;cases hs
 | slice h=>rw [h] at hs;cases hs
end
end Go.AI
namespace Go.AI
def na(h:Ee)(a:h.gc=[])(b:h.fz=[])(c:h.dy=[]):(∀ k,h.ct k=none)/\(∀ k,h.at k=[])/\(∀ k,h.dn k=false):=by
 refine ⟨λk=>?_,λk=>?_,λk=>?_⟩
 ·simp [Hint.ct,a]
 ·simp [Hint.at,b]
 ·simp [Hint.dn,Hint.da,Hint.mv,c]
structure FK (P:Program) (f:FuncId) (fn:Func) (h:Ee):Prop where
 m:P.follows .mixedOrders=true
 d:fn.body.any (GZ h)=true
 g:P.funcs[f]? =some fn
 c:HS P f=true
def aG(c:AV):(borrow1 c).pure=c.pure:=by cases c<;>rfl
def P9(cs:List AV):FV (cs.map borrow1)=FV cs:=by
 induction cs with
 | nil=>rfl
 | cons c cs ih=>simp [FV,aG,ih]
def aH(a:AV):(borrow0 a).pure=a.pure:=by
 cases a<;>first|rfl|exact P9 _
def ef(a:AV):a.borrow.pure=a.pure:=by
 cases a with
 | tup vs =>
  show FV (vs.map borrow0)=FV vs
  induction vs with
  | nil=>rfl
  | cons c cs ih=>simp [FV,aH,ih]
 | agg cs=>exact P9 _
 | _=>rfl
def zM {P:Program} {f:FuncId} {fn:Func} {c:Code} {vs:List AV} {v:AV} (h:Ee) (hm:P.follows .mixedOrders=true) (hd:fn.body.any (GZ h)=true) (hf:P.funcs[f]? =some fn) (hb:fn.body=some c) (hcal:HS P f=true)
  (hn:vs.length<=fn.ntmps) (hp:FV vs=true) (hv:v.pure=true) (ha:I3 P fn.ntmps h none c (TZ P fn.ntmps fn.results λv' _=>v'.borrow=v) (GQ 0 vs) []):A' P f vs v:=λH =>
 ⟨hcal,λF G w us hc=>Calls.mono (J8 (.inr rfl) hm hd hf hb hn ha (hc.hide (IE hp))) λe w' he=>by
  obtain ⟨u,rfl,v',H2,G',rfl,hcr,hext⟩:=he
  obtain ⟨h1,h2⟩:=hc.unhide (by rw [ef] at hv;exact hv) hcr hext
  exact ⟨u,rfl,_,H,_,⟨rfl,rfl⟩,by simpa using h1.lend,h2⟩⟩
def jd(cs:List AV):borrow0 (.agg cs) = .agg (cs.map borrow1):=rfl
def jc(k:IntKind)(n:Int):borrow0 (.int k n) = .int k n:=rfl
def bY(b:Bool):borrow0 (.bool b) = .bool b:=rfl
def pP(o:Option Nat)(es:List AV):borrow0 (.sl o es) = .sl none es:=rfl
def aD(c x:AV)(cs xs:List AV):Ht (c::cs) (x::xs)=x::Ht cs xs:=by
 simp [Ht,splice]
def dw(cs:List AV):Ht cs []=cs:=by simp [Ht,splice]
def sa(o:Option Nat)(es:List AV):(AV.sl o es).scalar=true:=rfl
def MK(n:Nat):FR->Bool
 | []=>true
 | some cs::r=>Fl n cs&&MK n r
 | none::r=>MK n r
def oM(n:Nat)(H:FR):MK n H=H.all λo=>match o with
 | some cs=>Fl n cs
 | none=>true:=by
 induction H with
 | nil=>rfl
 | cons o r ih=>cases o<;>simp [MK,ih]
def xq(H:FR):VA H=MK H.length H:=(oM _ _).symm
def jJ(n:Nat):MK n []=true:=rfl
def bP(n:Nat)(cs:List AV)(r:FR):MK n (some cs::r)=(Fl n cs&&MK n r):=rfl
def yT(k:Nat):Fl k []=true:=rfl
def pQ(k:Nat)(v:AV)(vs:List AV):Fl k (v::vs)=(v.bnd k&&Fl k vs):=rfl
def AGc(k a b:Nat):(AV.ptr a b).bnd k=decide (a<k):=rfl
def AGd(k:Nat)(i:IntKind)(n:Int):(AV.int i n).bnd k=true:=rfl
def AUH(k:Nat)(o:Option Nat)(es:List AV):(AV.sl o es).bnd k=Fl k es:=rfl
def AF0(r:Option (AV×FR))(t:Tmp)(zs:List (Tmp×Option Nat×Bool))(Q:Exit->Kt)(e:Ft)(H:FR):Prop :=
 match r with
 | some (v,H')=>YE zs Q ((t,v)::e) H'
 | none=>YE zs Q e H
def ASN(t:Tmp)(ag:Bool)(zs:List (Tmp×Option Nat×Bool))(Q:Exit->Kt)(e:Ft)(H:FR):YE ((t,none,ag)::zs) Q e H=AF0 (Kq ag (Fp e t) H) t zs Q e H:=by
 rw [xg]
 unfold iY AF0
 dsimp only
 cases Kq ag (Fp e t) H with
 | none=>rfl
 | some p=>rfl
def xf(v:AV)(H':FR)(t:Tmp)(zs:List (Tmp×Option Nat×Bool))(Q:Exit->Kt)(e:Ft)(H:FR):AF0 (some (v,H')) t zs Q e H=YE zs Q ((t,v)::e) H':=AG rfl rfl
def ACz:HQ []=[]:=rfl
section
variable {α:Type} {f:α->List AV} {n:Nat}
def gJ(hf : ∀ x,(f x).length=n)(l:List α):(l.flatMap f).length=l.length*n:=by
 induction l with
 | nil=>simp
 | cons x xs ih=>simp [hf,ih,A0];omega
def U6{l:List α}{k:Nat}{x:α}(hx:l[k]? =some x):l.drop k=x::l.drop (k+1):=by
 obtain ⟨h,rfl⟩:=AC.1 hx
 exact BL h
def oQ(hf : ∀ x,(f x).length=n)(l:List α):Hy true n l.length (l.flatMap f)=l.map λx => .agg (f x):=by
 induction l with
 | nil=>rfl
 | cons x xs ih =>
  simp only [AD,Hy,BA,if_true,List.take_left' (hf x),List.drop_left' (hf x),ih,AR]
def oP(cs:List AV):Hy false 1 cs.length cs=cs:=by
 induction cs with
 | nil=>rfl
 | cons x xs ih=>simp [Hy,ih]
def xw(hf : ∀ x,(f x).length=n){l:List α}{m:Nat}(hm:m=l.length):Hy true n m (l.flatMap f)=l.map λx => .agg (f x):=by
 subst hm;exact oQ hf l
end
end Go.AI
namespace Go.AI
attribute [go_sem] Nat.reduceEqDiff Nat.reduceLT Nat.reduceAdd Nat.reduceSub Nat.reduceMul Nat.reduceBEq Nat.reduceLeDiff Nat.reduceDvd reduceCtorEq Int.reduceToNat Int.reduceLT Int.reduceLE
attribute [go_sem] Nat.le_refl Int.le_refl false_implies implies_true Kq List.take_length AW List.not_mem_nil or_false forall_eq_or_imp forall_eq List.range_succ EF exists_eq_left' Option.some.injEq
attribute [go_sem ↓] reduceIte
attribute [go_sem] Av Aw
section
variable {P:Program} {f:FuncId} {fn:Func} {h:Ee} {c:Code} {vs:List AV} {v:AV} {Q:AV->Prop} {R:AV->FR->Prop} {H:FR}
def pC(k:FK P f fn h)(hb:fn.body=some c)(ha:I3 P fn.ntmps h none c (TZ P fn.ntmps fn.results λv' _=>v'=v) (GQ 0 vs) [])(hn:vs.length.ble fn.ntmps=true:=by rfl)(hp:FV vs=true:=by simp [FV,AV.pure,go_sem])(hv:v.pure=true:=by rfl):A' P f vs v :=
 AEB h k.m k.d k.g hb k.c (CP hn) hp hv ha
def pB(k:FK P f fn h)(hb:fn.body=some c)(ha:I3 P fn.ntmps h none c (TZ P fn.ntmps fn.results λv' _=>v'.borrow=v) (GQ 0 vs) [])(hn:vs.length.ble fn.ntmps=true:=by rfl)(hp:FV vs=true:=by simp [FV,AV.pure,go_sem])(hv:v.pure=true:=by simp [FV,AV.pure,go_sem]):A' P f vs v :=
 zM h k.m k.d k.g hb k.c (CP hn) hp hv ha
def qC(k:FK P f fn h)(hb:fn.body=some c)(ha:I3 P fn.ntmps h none c (TZ P fn.ntmps fn.results λv' _=>v'.pure=true/\Q v') (GQ 0 vs) [])(hn:vs.length.ble fn.ntmps=true:=by rfl)(hp:FV vs=true:=by simp [FV,AV.pure,go_sem]):Jo P f vs Q :=
 AD7 h k.m k.d k.g hb k.c (CP hn) hp ha
def aC(k:FK P f fn h)(hb:fn.body=some c)(ha:I3 P fn.ntmps h none c (TZ P fn.ntmps fn.results R) (GQ 0 vs) H)(hg:h.gc=[]:=by rfl)(hn:vs.length.ble fn.ntmps=true:=by rfl):FZ P f vs H R :=
 lP h hg k.m k.d k.g hb k.c (CP hn) ha
def aN(k:FK P f fn h)(hb:fn.body=some c)(ha:I3 P fn.ntmps h none c (TZ P fn.ntmps fn.results R) (GQ 0 vs) [])(hn:vs.length.ble fn.ntmps=true:=by rfl):FZ P f vs [] R :=
 ⟨k.c,λF G w us hc=>J8 (.inr (List.length_eq_zero_iff.1 hc.h.len)) k.m k.d k.g hb (CP hn) ha hc⟩
end
section
variable {P:Program} {f:FuncId} {vs:List AV} {d:Option Tmp} {K A B:Kt} {e:Ft} {H:FR} {v:AV} {t b:Bool}
def pK(hc:A' P f vs v)(hk:K (put d v e) H):XI P f vs d K e H:=⟨v,hc,hk⟩
def cS(ht:t=true->A e H)(hf:t=false->B e H):jF (.bool t) A B e H:=T4 _ _ _ ht hf
def gS(ht:t=b->A e H)(hf:t=(!b)->B e H):WS (.bool t) b A B e H:=nr _ _ _ _ ht hf
end
def TQ(s:ByteArray):s.data.toList.length=s.size:=by
 have:s.size=s.data.size:=rfl
 rw [this,Array.length_toList]
def Fo{α:Type}{l:List α}{k:Nat}{x:α}{xs:List α}(h:l.drop k=x::xs):l.length=k+xs.length+1:=by
 have:=congrArg List.length h
 simp at this;omega
def AHF(e:Ft)(H:FR):At e e H H=True:=by simp [At]
section
variable {P:Program} {m:Nat} {h:Ee} {e:Ft} {H:FR} {Q:Exit->Kt} {ops:Array Oper} {ar:Option Nat} {α σ ρ:Type}
def ADx(F:List α->ρ)(E:Nat->Ft)(HH:FR)(k:Nat)(x:α)(xs:List α)(Q:Exit->Kt)(ex:Exit):Kt:=λe H =>
 match ex with
 | .normal=>F (x::xs)=F xs/\At e (E (k+1)) H HH
 | ex=>Q ex e H
def jw(F:List α->ρ)(E:Nat->Ft)(HH:FR)(k:Nat)(x:α)(xs:List α):ADx F E HH k x xs Q .normal e H=(F (x::xs)=F xs/\At e (E (k+1)) H HH):=AG rfl rfl
def ADw(F:List α->ρ)(E:Nat->Ft)(HH:FR)(k:Nat)(x:α)(xs:List α):ADx F E HH k x xs Q .ret=Q .ret:=AG rfl rfl
def zB(F:List α->ρ)(E:Nat->Ft)(HH:FR)(k:Nat)(x:α)(xs:List α)(j:Nat):ADx F E HH k x xs Q (.exit j)=Q (.exit j):=AG rfl rfl
def Fd {c:Code} (l:List α) (F:List α->ρ) (E:Nat->Ft) (hl:l.length<=9223372036854775807) (he:e=E 0)
  (round : ∀ k x xs,l.drop k=x::xs->l[k]? =some x->F l=F (x::xs)->0<=(k:Int)->(k:Int)<(l.length:Int)->IntKind.i64.wrap ((k:Int)+1)=((k+1:Nat):Int)->I3 P m h ar c (ADx F E H k x xs Q) (E k) H)
  (fin:F l=F [] -> ¬ (l.length:Int)<(l.length:Int)->I3 P m h ar c (rN Q) (E l.length) H):I3 P m h ar (.loop c) Q e H:=by
 refine Fq l (λ(_:Unit) l=>F l) (λ_ _=>True) (λk _=>E k) (λ_ _=>H) () hl trivial he rfl (λk _ x xs h1 h2 _ h4 h5 h6 h7=>?_) λ_ _ h1=>fin h1 (Int.lt_irrefl _)
 refine GW c _ _ _ _ (λex e H hq=>?_) (round k x xs h1 h2 h4 h5 h6 h7)
 cases ex with
 | normal=>exact ⟨(),hq.1,trivial,hq.2⟩
 | _=>exact hq
def W0 {c:Code} (s:ByteArray) (F:List UInt8->ρ) (E:Nat->Ft) (hl:s.size<=9223372036854775807) (he:e=E 0)
  (round : ∀ k x xs,s.data.toList.drop k=x::xs->(s.data[k]?).getD 0=x->F s.data.toList=F (x::xs)->0<=(k:Int)->(k:Int)<(s.size:Int)->IntKind.i64.wrap ((k:Int)+1)=((k+1:Nat):Int)->s.size=k+xs.length+1->I3 P m h ar c (ADx F E H k x xs Q) (E k) H)
  (fin:F s.data.toList=F [] -> ¬ (s.size:Int)<(s.size:Int)->I3 P m h ar c (rN Q) (E s.size) H):I3 P m h ar (.loop c) Q e H:=by
 refine Fd s.data.toList F E (by rw [TQ];exact hl) he (λk x xs h1 h2 h4 h5 h6 h7=>round k x xs h1 ?_ h4 h5 (by rw [TQ] at h6;exact h6) h7 (by have:=Fo h1;rw [TQ] at this;exact this)) ?_
 ·rw [Ac] at h2;rw [h2];rfl
 ·rw [TQ];exact fin
end
section
variable {P:Program} {n:Nat} {h:Ee} {H:FR} {Q:Exit->Kt} {ops:Array Oper} {ar:Option Nat} {K:Ft->FR->Prop}
end
theorem FU(a b:ByteArray):(a.toList==b.toList)=decide (a=b):=by
 rw [Bool.eq_iff_iff,beq_iff_eq,decide_eq_true_eq,ByteArray.toList_eq,ByteArray.toList_eq]
 exact ⟨λh=>ByteArray.ext (Array.toList_inj.1 h),λh=>by rw [h]⟩
end Go.AI
namespace Go.AI
def bZ{k:Nat}{v:AV}(h : ∀ c∈v.cells,c.bnd k=true):v.bnd k=true:=by
 cases v<;>first|exact h _ (Ab.2 rfl)|skip
 simp only [AV.bnd]
 exact GM.2 h
def VRel.bnd{G:Gh}{w:World}{a:AV}{v:Value}(h:Ec G w a v):a.bnd G.obs.length=true:=by
 induction h with
 | ptr o off b h hc=>simpa [AV.bnd] using (AC.1 h).1
 | cptr cs off b q u h hu ih =>
  simp only [AV.bnd]
  refine GM.2 λc hc=>?_
  obtain ⟨i,hi⟩:=Ae hc
  exact ih i c hi
 | sl own es sz b q cap u hsz hown hl hm h hu ih =>
  simp only [AV.bnd]
  refine GM.2 λe he=>bZ λc hc=>?_
  obtain ⟨i,hi⟩:=Ae (Bq.2 ⟨e,he,hc⟩:c∈HQ es)
  exact ih i c hi
 | msl o off len sz b cap h hl hm hc=>simpa [AV.bnd] using (AC.1 h).1
 | mslc o off len sz cap b h hl hm hc=>simpa [AV.bnd] using (AC.1 h).1
 | fn f first captured fi ca h1 h2 h3 h4 ih1 ih2 =>
  simp only [AV.bnd,AQ]
  refine ⟨GM.2 λc hc=>?_,GM.2 λc hc=>?_⟩
  ·obtain ⟨i,hi⟩:=Ae hc
   have hl:=(AC.1 hi).1
   exact ih1 i c _ hi (Ai FQ)
  ·obtain ⟨i,hi⟩:=Ae hc
   have hl:=(AC.1 hi).1
   exact ih2 i c _ hi (Ai FQ)
 | mapr o b h hb hk=>simpa [AV.bnd] using (AC.1 h).1
 | it o b h hb hk=>simpa [AV.bnd] using (AC.1 h).1
 | yld o b L h hb hk=>simpa [AV.bnd] using (AC.1 h).1
 | ifc t a v hs h ih=>simpa [AV.bnd] using ih
 | agg cs vs hl hs h ih =>
  simp only [AV.bnd]
  refine GM.2 λc hc=>?_
  obtain ⟨i,hi⟩:=Ae hc
  have hlt:=(AC.1 hi).1
  exact ih i c _ hi (Ai FQ)
 | tup cs vs hl hs h ih =>
  simp only [AV.bnd]
  refine GM.2 λc hc=>?_
  obtain ⟨i,hi⟩:=Ae hc
  have hlt:=(AC.1 hi).1
  exact ih i c _ hi (Ai FQ)
 | _=>rfl
section
variable {P:Program} {F:Nat->Prop} {G:Gh} {w:World} {H:FR}
def ORel.bnd{cs:List AV}{b:Nat}(h:ORel F G w cs b):Fl G.obs.length cs=true:=by
 have hi:=h.is
 split at hi
 ·obtain ⟨C,E,g1,g2,g3⟩:=hi
  refine GM.2 λc hc=>?_
  obtain ⟨i,hci⟩:=Ae hc
  have hlt:=(AC.1 hci).1
  exact (g3 i c _ hci (Ai FQ)).2.1.bnd
 ·obtain ⟨es,ms,cl,g1,g2,g3,g4,g5⟩:=hi
  subst g2
  simp only [J0,Fl,AV.bnd,Bh]
  refine GM.2 λc hc=>?_
  obtain ⟨p,hp,hc⟩:=Bq.1 hc
  obtain ⟨i,hpi⟩:=Ae hp
  have hlt:=(AC.1 hpi).1
  obtain ⟨_,_,a3,a4⟩:=g4 i p _ hpi (Ai FQ)
  rcases AW.1 hc with rfl|hc
  ·exact a3.bnd
  ·rcases Ab.1 hc with rfl
   exact a4.bnd
 ·rcases hi with ⟨s,pos,h1,rfl⟩|⟨h1,rfl⟩|⟨o,mb,si,se,h1,rfl,h3⟩
  ·simp [WM,Fl,AV.bnd]
  ·simp [Fl,AV.bnd]
  ·have:=h3.bnd
   simp only [T1,Fl,this,By,Bh]
   simp only [AV.bnd,By]
   exact Hf λ_=>rfl
 ·obtain ⟨s,pe,t,D,st,vals,g1,g2,g3,g4,g5⟩:=hi
  subst g3
  simp only [G6,Fl,AV.bnd,Bh,By]
  refine GM.2 λc hc=>?_
  obtain ⟨i,hci⟩:=Ae hc
  have hlt:=(AC.1 hci).1
  exact (g5 i c _ hci (Ai FQ)).2.bnd
 ·exact hi.elim
def HRel.closed(h:HRel F G H w):SA H:=λo cs ho=>by
 have hlt:=(AC.1 ho).1
 have hl:=h.len
 have:=(h.obj o cs _ ho (AL FQ)).bnd
 rwa [hl] at this
def FZ.drop{f:FuncId}{vs:List AV}{v:AV}(hv:v.bnd H.length=true)(h:FZ P f vs H λv' H'=>v'=v /\ ∃ ext,H'=H++ext):FZ P f vs H λv' H'=>v'=v/\H'=H :=
 ⟨h.1,λF G w us hc=>Calls.mono (h.2 F G w us hc) λe w' he=>by
  obtain ⟨u,rfl,v',H2,G',⟨rfl,ext,rfl⟩,hcr,hext⟩:=he
  refine ⟨u,rfl,_,H,_,⟨rfl,rfl⟩,hcr.cut hv hc.h.closed,⟨hext.size,⟨λo b ho=>?_,hext.keeps.shape,hext.keeps.sp,hext.keeps.safe⟩,hext.kind,hext.cells,hext.io⟩⟩
  have hlt:=(AC.1 ho).1
  show (G'.obs.take H.length)[o]? =some b
  rw [Bu (by have:=hc.h.len;omega)]
  exact hext.keeps.obs o b ho⟩
end
def oB(H x:FR):(∃ ext,H++x=H++ext)=True:=eq_true ⟨x,rfl⟩
def iw(H:FR):(∃ ext,H=H++ext)=True:=eq_true ⟨[],sm⟩
def AUI(f:Fn)(a b:List AV)(n:Nat):(AV.fn f a b).bnd n=(Fl n a&&Fl n b):=rfl
end Go.AI
namespace Go.AI
section
variable {P:Program} {n:Nat} {h:Ee} {ops:Array Oper} {K:Kt} {p:Tmp×AV} {e:Ft} {H:FR} {d:Tmp} {ty:TypeId} {ps:String} {af:Array Edge} {Q:Exit->Kt}
def AdN(P:Program)(t:TypeId)(x:AV)(d:Tmp)(K:Kt)(e:Ft)(H:FR):Prop:=RC P t H x λv H'=>K ((d,v)::e) H'
def AWr(str:Bool)(x:AV)(d:Tmp)(K:Kt)(e:Ft)(H:FR):Prop :=
 match x with
 | .it o=>W3 str H o λv H'=>K ((d,v)::e) H'
 | _=>False
def AIy(P:Program)(t:TypeId)(ok:Bool)(m k:AV)(d:Tmp)(K:Kt)(e:Ft)(H:FR):Prop :=
 match P.underlying t with
 | some (.map kt et)=>match Ik H m with
  | some es=>MV P kt (k::es.map (·.1))/\R7 es /\ ∃ z,Fi P et=some z/\K ((d,gH ok z (JA k es 0))::e) H
  | none=>False
 | _=>False
def AIQ(P:Program)(t:TypeId)(m k v:AV)(K:Kt)(e:Ft)(H:FR):Prop :=
 match m with
 | .mapr o=>match P.underlying t with
  | some (.map kt _)=>match Ik H (.mapr o) with
   | some es=>MV P kt (k::es.map (·.1))/\R7 es/\v.isVal=true/\K e (H.set o (some (J0 (MT es k v))))
   | none=>False
  | _=>False
 | _=>False
def js(t:TypeId):IY P n h ops ⟨some d,.makeMap t none,ty,ps,af,none⟩ K (p::e) H=(d<n/\K ((d,.mapr H.length)::p::e) (H++[some (J0 [])])):=by
 rw [F6 _ rfl]
 simp only [Fz,HR,Op.operands,GD,put,Gi]
 rfl
def yq(t:TypeId)(x:Operand):IY P n h ops ⟨some d,.range t x,ty,ps,af,none⟩ K (p::e) H=(d<n/\AdN P t (G5 P none (p::e) x).borrow d K (p::e) H):=by
 rw [F6 _ rfl]
 simp only [Fz,HR,Op.operands,GD,AR,Ah,put,Gi]
 rfl
def ADr(x:Operand)(b:Bool):IY P n h ops ⟨some d,.next x b,ty,ps,af,none⟩ K (p::e) H=(d<n/\AWr b (G5 P none (p::e) x).borrow d K (p::e) H):=by
 rw [F6 _ rfl]
 simp only [Fz,HR,Op.operands,GD,AR,Ah,put,Gi]
 congr 1
 unfold AWr
 generalize (G5 P none (p::e) x).borrow=v
 cases v<;>rfl
def pf(t:TypeId)(x k:Operand)(ok:Bool):IY P n h ops ⟨some d,.lookup t x k ok,ty,ps,af,none⟩ K (p::e) H =
  (d<n/\AIy P t ok (G5 P none (p::e) x).borrow (G5 P none (p::e) k).borrow d K (p::e) H):=by
 rw [F6 _ rfl]
 simp only [Fz,HR,Op.operands,GD,AR,Ah,put,Gi]
 rfl
def YN(t:TypeId)(x k v:Operand):IY P n h ops ⟨none,.mapUpdate t x k v,ty,ps,af,none⟩ K (p::e) H =
  AIQ P t (G5 P none (p::e) x).borrow (G5 P none (p::e) k).borrow (G5 P none (p::e) v).borrow K (p::e) H:=by
 rw [F6 _ rfl]
 simp only [Fz,HR,Op.operands,GD,AR,Ah,put,Gi]
 rw [true_and]
 generalize (G5 P none (p::e) x).borrow=xv
 cases xv<;>rfl
end
def gF{H:FR}{o:Nat}{es:List (AV×AV)}(h:H[o]? =some (some (J0 es))):Ik H (.mapr o)=some es:=by
 simp only [Ik,h,Tk]
def WH{P:Program}{kt:TypeId}{k:IntKind}(h:P.underlying kt=some (.int k)){ks:List AV}(hk : ∀ a∈ks,∃ n,a = .int k n):MV P kt ks :=
 ⟨_,KLaw.plain h,λa ha=>by obtain ⟨n,rfl⟩:=hk a ha;exact ⟨_,rfl,rfl⟩⟩
def LO{α:Type}(f:α->AV)(l:List α):List (AV×AV):=l.map λx=>(f x,.bool true)
def Ps{α:Type}(f:α->AV)(k:AV): ∀ (l:List α) (i:Nat),(JA k (LO f l) i).map (·.2)=if l.any (λx=>Hp (f x) k)=true then some (.bool true) else none
 | [],i=>rfl
 | x::l,i=>by
  unfold LO
  rw [AR,JA,As]
  by_cases h:Hp (f x) k=true
  ·rw [iP h,h];rfl
  ·rw [iN h]
   have h2:Hp (f x) k=false:=by simpa using h
   rw [h2,Bp]
   exact Ps f k l (i+1)
def AIz{α:Type}(f:α->AV)(k:AV)(l:List α):gH false (.bool false) (JA k (LO f l) 0) = .bool (l.any λx=>Hp (f x) k):=by
 have h:=Ps f k l 0
 cases ha:JA k (LO f l) 0 with
 | none =>
  rw [ha] at h
  split at h
  ·cases h
  ·rename_i hn
   have:(l.any λx=>Hp (f x) k)=false:=by simpa using hn
   rw [this];rfl
 | some q =>
  rw [ha] at h
  split at h
  ·rename_i hy
   obtain ⟨j,v⟩:=q
   have hv:v = .bool true:=by simpa using h
   subst hv
   rw [hy];rfl
  ·cases h
def AEy{α:Type}(f:α->AV)(x:α)(l:List α)(h:(l.any λy=>Hp (f y) (f x))=false):MT (LO f l) (f x) (.bool true)=LO f (l++[x]):=by
 have h2:=Ps f (f x) l 0
 rw [h] at h2
 have h3:JA (f x) (LO f l) 0=none:=by
  cases ha:JA (f x) (LO f l) 0 with
  | none=>rfl
  | some q=>rw [ha] at h2;cases h2
 unfold MT
 rw [h3]
 simp [LO]
def d6{α:Type}(f:α->AV)(l:List α):(LO f l).map (·.1)=l.map f:=by simp [LO,List.map_map]
def R6{α:Type}(f:α->AV):List α->Prop
 | []=>True
 | x::l=>(∀ y∈l,Hp (f x) (f y)=false)/\R6 f l
def We{α:Type}(f:α->AV): ∀ {l:List α},R6 f l->R7 (LO f l)
 | [],_=>List.Pairwise.nil
 | x::l,h=>List.Pairwise.cons (λq hq=>by obtain ⟨y,hy,rfl⟩:=AN.1 hq;exact h.1 y hy) (We f h.2)
def Wf{α:Type}(f:α->AV)(x:α): ∀ {l:List α},R6 f l->(l.any λy=>Hp (f y) (f x))=false->R6 f (l++[x])
 | [],_,_=>⟨λy hy=>by simp at hy,trivial⟩
 | y::l,h,ha=>by
  rw [As,Bool.or_eq_false_iff] at ha
  refine ⟨λz hz=>?_,Wf f x h.2 ha.2⟩
  rcases Ar.1 hz with hz|hz
  ·exact h.1 z hz
  ·rcases Ab.1 hz with rfl
   exact ha.1
attribute [go_sem] td ABW xr oO AAf oE AF5 AF7 ACl AF6 ACi ACj ACh ACk f0 fy tL mZ tG mU tJ mY tI tH tK mW ABB mV tM tF ma md fQ mc pM ja pI pJ jZ yQ pL jX yR pN pH pO jb yD yC oW xz oS yA ACw yB uR uQ nV uN uO ABx uP mX tE tN fP jY pG oV oT ACx oU xy nU ABy uM AWK AIS AIR lx sQ ADK yU nq AFr AFu AFs AFt ACP AAL AGD AGE ADk ye ADh AGk ADi AGj yd ADj pS YK AF9 ACU ACT ACS d8 AAN sY je ADL ADM yV AD6 kP AE2 AE1 eI AAb AAW AAX AAV mC sP lw yu ADs pg ADq AGx ADt yo bo ADo YQ yv jt AGv yz AUM AUL fq fw ft fu ae Xy ADe ADU ADY ADW ADV ADd ADX ADZ ADa ADb ADc yY yX yc yb YP yr ph yf AGl AGs sb ADn yj ADm ADv bp yy W2 yp AGt AGu AFY AFZ ju YO AUR AUQ y5 yw AGw ADu jv ABd AFc ABc sK ii zp ig zr sH sL sF zm n8 iu dp dm sJ lr lm ij xi ll AEx zl aF sZ l8 oC jd jc bY pP aD dw sa xq jJ bP yT pQ AGc AGd AUH ASN xf ACz AHF jw ADw zB oB iw AUI js yq ADr pf YN
end Go.AI
