/- From the code's walk at the abstract side to the contract of a call. -/
import Derived.Test.YtnbekihfchfioaaGreatDoorLg
import Derived.ProofKit
import Derived.SizedLaws
set_option linter.unusedSimpArgs false
set_option linter.unusedVariables false
set_option linter.defProp false
open Go.AI renaming VRel->EZ,CRel->Ea,Hint->Eb,LoopRec->Ec
open Array renaming getElem?_eq_getElem->Ai,getElem?_toList->Ad,toList_append->C5
open Bool renaming and_eq_true->AR,and_true->Bn,false_eq_true->Bw,false_or->BL,not_false->Av,not_true->Ar,true_and->Bz
open Eq renaming trans->AH
open List renaming all_eq_true->Ao,any_cons->Au,append_nil->Ah,contains_iff_mem->De,drop_drop->A9,drop_eq_getElem_cons->BJ,drop_length->DB,drop_succ_cons->DA,drop_zero->BN,flatMap_cons->BH,getElem?_append_left->AW,getElem?_append_right->AM,getElem?_cons_zero->A8,getElem?_eq_getElem->AL,getElem?_eq_some_iff->AD,getElem?_map->Ac,getElem?_of_mem->Af,getElem?_take_of_lt->Bu,getElem?_toArray->Bf,getElem_mem->CY,length_cons->AC,length_nil->AG,length_range->DC,mapM_cons->Cz,map_cons->AT,map_nil->Ag,mem_append->Ay,mem_cons->AZ,mem_flatMap->Bx,mem_map->AO,mem_of_getElem?->AB,mem_singleton->Al,range->Am,range_zero->EC,replicate->A5,replicate_succ->Cm,sum_cons->B2,take_append_drop->A7,take_succ_cons->CO
open Nat renaming add_mul->A2,add_zero->BC,le_of_ble_eq_true->CP,le_of_eq->Dc,le_trans->AK,one_mul->DT,zero_add->AX,zero_le->BY,zero_mul->Bt
open Option renaming any_some->C9,bind_some->Bc,map_some->BU
open Or renaming inl->CI
open Go.Result renaming andThen_ok->Aa
open Go.Sem renaming run_bind->AJ,run_pure->Ab
namespace Go.AI
mutual
def AV.pure:AV->Bool
 | .ptr _ _=>false
 | .msl _ _ _ _=>false
 | .mslc _ _ _ _ _=>false
 | .mapr _=>false
 | .it _=>false
 | .yld _ _=>false
 | .ifc _ a=>a.pure
 | .cptr cs _=>FQ cs
 | .sl _ es=>FQ es
 | .fn _ a b=>FQ a&&FQ b
 | .agg cs=>FQ cs
 | .tup vs=>FQ vs
 | _=>true
def FQ:List AV->Bool
 | []=>true
 | v::vs=>v.pure&&FQ vs
end
def H7{vs:List AV}(h:FQ vs=true): ∀ v∈vs,v.pure=true:=by
 induction vs with
 | nil=>intro v hv;cases hv
 | cons x xs ih =>
  simp only [FQ,AR] at h
  intro v hv
  rcases AZ.1 hv with rfl|hv
  ·exact h.1
  ·exact ih h.2 v hv
def kX{v:AV}(h:v.pure=true): ∀ c∈v.cells,c.pure=true:=by
 cases v<;>first|(intro c hc;simp only [AV.cells,Al] at hc;subst hc;exact h)|skip
 simp only [AV.pure] at h
 exact H7 h
def yd{es:List AV}(h:FQ es=true): ∀ c∈HM es,c.pure=true:=by
 intro c hc
 obtain ⟨e,he,hc⟩:=Bx.1 hc
 exact kX (H7 h e he) c hc
def VRel.pure{G G':Gh}{w:World}(hk:G'.kind=G.kind){a:AV}{v:Value}(h:EZ G w a v)(hp:a.pure=true):EZ G' w a v:=by
 have hsafe : ∀ b o,G.safe b o->G'.safe b o:=λb o hs=>by unfold Gh.safe at *;rw [hk];exact hs
 induction h with
 | undef v=>exact .undef v
 | int k n=>exact .int k n
 | bool b=>exact .bool b
 | str s=>exact .str s
 | nilp=>exact .nilp
 | ptr o off b h hc=>cases hp
 | mapr o b h hb hk=>cases hp
 | it o b h hb hk=>cases hp
 | nilm=>exact .nilm
 | yld o b L h hb hk=>cases hp
 | ifc t a v hs h ih=>exact .ifc t a v hs (ih (by simpa [AV.pure] using hp))
 | nili=>exact .nili
 | cptr cs off b q u h hu ih =>
  simp only [AV.pure] at hp
  exact .cptr cs off b q u (λi c hi=>⟨(h i c hi).1,hsafe _ _ (h i c hi).2.1,(h i c hi).2.2⟩) λi c hi=>ih i c hi (H7 hp c (AB hi))
 | slnil own=>exact .slnil own
 | slany own a=>exact .slany own a
 | sl own es sz b q cap u hsz hown hl hm h hu ih =>
  simp only [AV.pure] at hp
  exact .sl own es sz b q cap u hsz hown hl hm (λi c hi=>⟨(h i c hi).1,hsafe _ _ (h i c hi).2.1,(h i c hi).2.2⟩) λi c hi=>ih i c hi (yd hp c (AB hi))
 | msl=>cases hp
 | mslc=>cases hp
 | fn f first captured fi ca h1 h2 h3 h4 ih1 ih2 =>
  simp only [AV.pure,AR] at hp
  exact .fn f first captured fi ca h1 h2 (λi c v hc hv=>ih1 i c v hc hv (H7 hp.1 c (AB hc))) (λi c v hc hv=>ih2 i c v hc hv (H7 hp.2 c (AB hc)))
 | nilf=>exact .nilf
 | agg cs vs hl hs h ih =>
  simp only [AV.pure] at hp
  exact .agg cs vs hl hs λi c v hc hv=>ih i c v hc hv (H7 hp c (AB hc))
 | tup cs vs hl hs h ih =>
  simp only [AV.pure] at hp
  exact .tup cs vs hl hs λi c v hc hv=>ih i c v hc hv (H7 hp c (AB hc))
def cV(P:Program)(n:Nat):List ResultVar->Fp->FN->(List AV->Fp->FN->Prop)->Prop
 | [],e,H,K=>K [] e H
 | .tmp t::rs,e,H,K=>t<n/\cV P n rs (M1 P none true (.tmp t) e).2 H λvs=>K ((M1 P none true (.tmp t) e).1::vs)
 | .cell t ty::rs,e,H,K=>t<n/\match Fm e t with
  | .ptr ob off=>match H[ob]? with
   | some (some cs)=>match LZ P ty cs off with
    | some v=>if v.owned=true then cV P n rs e (H.set ob (some (splice cs off (v.cells.map borrow1)))) λvs=>K (v::vs) else cV P n rs e H λvs=>K (v.borrow::vs)
    | none=>False
   | _=>False
  | _=>False
def QH(K:AV->FN->Prop)(vs:List AV)(H:FN):Prop :=
 match vs with
 | [v]=>K v H
 | vs=>(∀ v∈vs,v.isVal=true)/\K (.tup vs) H
def Sv(P:Program)(n:Nat)(rs:Array ResultVar)(K:AV->FN->Prop)(ex:Exit)(e:Fp)(H:FN):Prop :=
 match ex with
 | .normal | .ret=>cV P n rs.toList e H λvs _ H'=>QH K vs H'
 | _=>False
section
variable {P:Program} {F:Nat->Prop} {G:Gh} {w:World} {H:FN} {n:Nat}
def jR(k:Nat):LRel F G (A5 k .undef) (A5 k Go.undef) w:=by
 refine ⟨sm,λi a u h1 _=>?_,λi a u h1 _=>?_⟩<;>rw [List.getElem?_replicate] at h1<;>split at h1<;>cases h1
 ·exact .undef u
 ·exact Fd (HW u) F G w
def b8(b k:Nat):G7 b (A5 k .undef) (A5 k Go.undef)=0:=by
 induction k with
 | zero=>rfl
 | succ k ih=>rw [Cm,Cm,FW,ih,HW];rfl
def CRel.args{vs:List AV}{us:List Value}(h:Ea F G vs H us w)(k:Nat):Ea F G (vs++A5 k .undef) H (us++A5 k Go.undef) w:=by
 refine ⟨h.l.append (jR k),h.h,λb=>?_⟩
 rw [GU _ _ _ _ _ h.l.len,b8]
 exact h.cnt b
def ZM{v:AV}{u:Value}{vs:List AV}{us:List Value}(hv:v.isVal=true)(h:EZ G w v u):K4 (.tup (v::vs)) (.tuple (u::us).toArray)=K4 v u++K4 (.tup vs) (.tuple us.toArray):=by
 rw [PI hv h]
 simp only [K4,AV.flat,Hy,BH]
 rw [List.zip_append]
 have:=(Jh hv h).2.2
 simpa using this
def b7 : ∀ (vs:List AV) (us:List Value),LRel F G vs us w->(∀ v∈vs,v.isVal=true) ->
  EZ G w (.tup vs) (.tuple us.toArray)/\(∀ p∈K4 (.tup vs) (.tuple us.toArray),GA F G w p) /\ ∀ b,(Gp (.tup vs) (.tuple us.toArray)).count b=G7 b vs us:=by
 intro vs us hl hv
 refine ⟨.tup vs _ (by simpa using hl.len) hv (λi c u h1 h2=>hl.rel i c u h1 (by simpa using h2)), ?_⟩
 induction vs generalizing us with
 | nil =>
  match us,hl.len with
  | [],_=>exact ⟨λp hp=>by simp [K4,AV.flat] at hp,λb=>by simp [Gp,K4,AV.flat,G7]⟩
 | cons v vs ih =>
  match us,hl.len with
  | u::us,_ =>
   obtain ⟨h1,h2,h3⟩:=hl.uncons
   obtain ⟨g1,g2⟩:=ih us h3 λx hx=>hv x (by simp [hx])
   have e:=ZM (vs:=vs) (us:=us) (hv v sm) h1
   refine ⟨λp hp=>?_,λb=>?_⟩
   ·rw [e] at hp
    rcases Ay.1 hp with h|h
    ·exact h2 p h
    ·exact g1 p h
   ·have:=g2 b
    unfold Gp at this ⊢
    rw [e,List.filterMap_append,List.count_append,this,FW]
    rfl
def CRel.comm{A B:List AV}{ua ub:List Value}(h:Ea F G (A++B) H (ua++ub) w)(hl:A.length=ua.length):Ea F G (B++A) H (ub++ua) w:=by
 obtain ⟨h1,h2⟩:=h.l.split hl
 refine ⟨h2.append h1,h.h,λb=>?_⟩
 have:=h.cnt b
 rw [GU b A ua B ub hl] at this
 rw [GU b B ub A ua h2.len]
 omega
def CRel.turn {A B:List AV} {v:AV} {ua ub:List Value} {u:Value} {R:AV->FN->Prop} {u':Value} {w':World} (h:Ea F G (A++v::B) H (ua++u::ub) w) (hl:A.length=ua.length)
  (hk : ∀ F',(∀ b,F b->F' b)->Ea F' G [v] H [u] w->Fc F' G w R u' w') : ∃ v' H' G',R v' H'/\Ea F G' (A++v'::B) H' (ua++u'::ub) w'/\Ext F G w G' w':=by
 have h1:Ea F G ((v::B)++A) H ((u::ub)++ua) w:=h.comm hl
 have h2:Ea F G ([v]++(B++A)) H ([u]++(ub++ua)) w:=by simpa using h1
 have hB:=(h2.l.split (A:=[v]) rfl).2
 have hc:=h2.split (A:=[v]) rfl
 obtain ⟨v',H',G',hr,hc',he⟩:=hk _ (λb hb=>CI hb) hc
 have hcb : ∀ b,G7 b (B++A) (ub++ua)<=1:=λb=>by
  have:=h2.cnt b
  rw [GU b [v] [u] _ _ rfl] at this
  omega
 have hj:=S2 (F:=F) hB hcb (λb hb=>CI hb) (λb hb=>Or.inr hb) he hc'
 refine ⟨v',H',G',hr, ?_,he.mono λb hb=>CI hb⟩
 have hlB:B.length=ub.length:=by
  have:=hB.len
  simp at this
  omega
 have h3:Ea F G' ((v'::B)++A) H' ((u'::ub)++ua) w':=by simpa using hj
 exact h3.comm (by simp [hlB])
def IF(tm:Array Value):ResultVar->Sem Value
 | .tmp t=>pure (tm.getD t Go.undef)
 | .cell a t=>do loadVar t (<- asAddr (tm.getD a Go.undef))
def zg{t:TypeId}{u:Value}{R:AV->FN->Prop}{w:World}(hu : ∃ a,u = .pointer (some a))(h:Fw P ((do let r<-Instr.loadAt t u;pure (Next.value r):Sem Next).run P w) (Fc F G w R)):
  ∃ u' w',(do loadVar t (<- asAddr u):Sem Value).run P w = .ok u' w'/\Fc F G w R u' w':=by
 obtain ⟨a,rfl⟩:=hu
 have e1:(Instr.loadAt t (.pointer (some a)):Sem Value).run P w=(loadVar t a).run P w:=by
  simp [Instr.loadAt,Instr.sureAddr]
 have e2:(do loadVar t (<- asAddr (.pointer (some a))):Sem Value).run P w=(loadVar t a).run P w:=by
  simp [asAddr]
 rw [e2]
 rw [AJ,e1] at h
 cases hr:(loadVar t a).run P w with
 | ok u' w' =>
  rw [hr] at h
  simp only [Aa,Ab] at h
  exact ⟨u',w',rfl,h⟩
 | _=>rw [hr] at h;exact h.elim
def SD{a:Act}(hn:a.tmps.size=n): ∀ (rs:List ResultVar) (env:Fp) (H:FN) (G:Gh) (w:World) (pre:List AV) (upre:List Value) (K:List AV->Fp->FN->Prop),
  Ea F G (pre++Gi n env) H (upre++a.tmps.toList) w->pre.length=upre.length->(∀ t,n<=t->Fm env t = .undef)->cV P n rs env H K ->
  ∃ us,(rs.mapM (IF a.tmps)).run P w = .ok us w /\ ∃ vs env' H' G',K vs env' H'/\vs.length=us.length/\Ea F G' (pre++vs++Gi n env') H' (upre++us++a.tmps.toList) w/\Ext F G w G' w
 | [],env,H,G,w,pre,upre,K,h,hp,ho,hr=>⟨[],sm,[],env,H,G,hr,rfl,by simpa using h,.refl F G w⟩
 | .tmp t::rs,env,H,G,w,pre,upre,K,h,hp,ho,hr=>by
  obtain ⟨htn,hr⟩:=hr
  obtain ⟨h1,ho1⟩:=Vt (P:=P) none true (.tmp t) h hp hn ho
  obtain ⟨us,hrun,vs,env',H',G',hK,hlen,hc,he⟩:=SD hn rs (M1 P none true (.tmp t) env).2 H G w (pre++[(M1 P none true (.tmp t) env).1]) (upre++[a.eval (.tmp t)]) _ (by simpa using h1) (by simp [hp]) ho1 hr
  refine ⟨a.eval (.tmp t)::us, ?_,_,env',H',G',hK,by simp [hlen],by simpa using hc,he⟩
  have e0:IF a.tmps (.tmp t)=pure (a.eval (.tmp t)):=rfl
  simp only [Cz,AJ,e0,Ab,Aa,hrun]
 | .cell t ty::rs,env,H,G,w,pre,upre,K,h,hp,ho,hr=>by
  obtain ⟨htn,hr⟩:=hr
  split at hr
  ·rename_i ob off hlk
   split at hr
   ·rename_i cs hob
    split at hr
    ·rename_i v hv
     obtain ⟨h1,ho1⟩:=Vt (P:=P) none false (.tmp t) h hp hn ho
     have e1:M1 P none false (.tmp t) env=(.ptr ob off,env):=by simp [M1,Gy,hlk,AV.borrow,borrow0]
     rw [e1] at h1
     have key : ∀ R:AV->FN->Prop,(R v.borrow H\/R v (H.set ob (some (splice cs off (v.cells.map borrow1))))) -> ∃ u',(IF a.tmps (.cell t ty)).run P w = .ok u' w /\
       ∃ v' H' G',R v' H'/\Ea F G' (pre++v'::Gi n env) H' (upre++u'::a.tmps.toList) w/\Ext F G w G' w:=by
      intro R hR
      have hx:EZ G w (.ptr ob off) (a.eval (.tmp t)):=(((h1.l.split hp).2).uncons).1
      have hu : ∃ ad,a.eval (.tmp t) = .pointer (some ad):=by
       generalize a.eval (.tmp t)=u at hx
       cases hx;exact ⟨_,rfl⟩
      have hone:Ea (λ_=>False) G [AV.ptr ob off] H [a.eval (.tmp t)] w:=by
       have h2:Ea F G ((AV.ptr ob off::Gi n env)++pre) H ((a.eval (.tmp t)::a.tmps.toList)++upre) w:=h1.comm hp
       have h3:Ea F G ([AV.ptr ob off]++(Gi n env++pre)) H ([a.eval (.tmp t)]++(a.tmps.toList++upre)) w:=by simpa using h2
       have h4:=h3.split (A:=[AV.ptr ob off]) rfl
       exact ⟨h4.l.weaken λ_ h=>h.elim,h4.h.weaken λ_ h=>h.elim,h4.cnt⟩
      have hrun : ∃ u',(IF a.tmps (.cell t ty)).run P w = .ok u' w:=by
       have e0:IF a.tmps (.cell t ty)=(do loadVar ty (<- asAddr (a.eval (.tmp t)))):=rfl
       rw [e0]
       clear hone h1
       generalize a.eval (.tmp t)=u at hx
       cases hx with
       | ptr _ _ b hb hbc =>
        obtain ⟨u',h1,_⟩:=Zi (P:=P) hv (Ou hbc.choose_spec.choose_spec (h.h.obj ob cs b hob hb))
        rw [AX] at h1
        exact ⟨u',by simpa [asAddr] using h1⟩
      obtain ⟨u',hrun⟩:=hrun
      refine ⟨u',hrun, ?_⟩
      refine h1.turn hp λF' hF hc1=>?_
      obtain ⟨u2,w2,hrun2,hk⟩:=zg (P:=P) hu (OO (P:=P) hc1 hob hv hR)
      have e5:IF a.tmps (.cell t ty)=(do loadVar ty (<- asAddr (a.eval (.tmp t)))):=rfl
      rw [<- e5,hrun] at hrun2
      cases hrun2
      exact hk
     have fin : ∀ (v':AV) (H1:FN),(cV P n rs env H1 λvs=>K (v'::vs))->(∀ R:AV->FN->Prop,R v' H1->R v.borrow H\/R v (H.set ob (some (splice cs off (v.cells.map borrow1))))) ->
       ∃ us,((ResultVar.cell t ty::rs).mapM (IF a.tmps)).run P w = .ok us w /\ ∃ vs env' H' G',K vs env' H'/\vs.length=us.length/\Ea F G' (pre++vs++Gi n env') H' (upre++us++a.tmps.toList) w/\Ext F G w G' w:=by
      intro v' H1 hrev hR
      obtain ⟨u',hrun,v2,H2,G2,⟨rfl,rfl⟩,hc2,he2⟩:=key (λa b=>a=v'/\b=H1) (hR (λa b=>a=v'/\b=H1) ⟨rfl,rfl⟩)
      obtain ⟨us,hrun',vs,env',H',G',hK,hlen,hc,he⟩:=SD hn rs env H2 G2 w (pre++[v2]) (upre++[u']) _ (by simpa using hc2) (by simp [hp]) ho hrev
      refine ⟨u'::us, ?_,_,env',H',G',hK,by simp [hlen],by simpa using hc,he2.trans he⟩
      simp only [Cz,AJ,hrun,Ab,Aa,hrun']
     by_cases hw:v.owned=true
     ·rw [iP hw] at hr
      exact fin _ _ hr λR h => .inr h
     ·rw [iN hw] at hr
      exact fin _ _ hr λR h => .inl h
    ·exact hr.elim
   ·exact hr.elim
  ·exact hr.elim
def cO{fn:Func}{tm:Array Value}{w w':World}{us:List Value}(h:(fn.results.toList.mapM (IF tm)).run P w = .ok us w'):
  (results fn tm).run P w = .ok (match (generalizing:=false) us with
   | [u]=>u
   | us => .tuple us.toArray) w':=by
 unfold results
 rw [Array.mapM_eq_mapM_toList]
 rw [AJ,Sem.run_map]
 have e : ∀ (g g':ResultVar->Sem Value) (l:List ResultVar),(∀ r,g r=g' r)->l.mapM g=l.mapM g':=λg g' l hg=>by rw [show g=g' from funext hg]
 rw [e _ (IF tm) fn.results.toList (λr=>by cases r<;>rfl),h]
 simp only [Aa,Ab]
 match us with
 | []=>simp
 | [t]=>simp
 | t::t'::ts=>simp
def oc{env:Fp}{a:Act}{fn:Func}{K:AV->FN->Prop}{ex:Exit}(hs:SRel F G n env H a w)(hq:Sv P n fn.results K ex env H):
  (ex = .normal\/ex = .ret) /\ ∃ v u H' G',K v H'/\Ea F G' [v] H' [u] w/\Ext F G w G' w/\(results fn a.tmps).run P w = .ok u w:=by
 have main:(cV P n fn.results.toList env H λvs _ H'=>QH K vs H') -> ∃ v u H' G',K v H'/\Ea F G' [v] H' [u] w/\Ext F G w G' w/\(results fn a.tmps).run P w = .ok u w:=by
  intro hq
  obtain ⟨us,hrun,vs,env',H',G',hK,hlen,hc,he⟩:=SD (pre:=[]) (upre:=[]) hs.size fn.results.toList env H G w _ hs.c rfl hs.out hq
  have hres:=cO hrun
  have hc1:Ea F G' vs H' us w:=by
   have h1:=hc.split (A:=[]++vs) (B:=Gi n env') (by simpa using hlen)
   have h2:Ea (λb=>F b\/0<G7 b (Gi n env') a.tmps.toList) G' vs H' us w:=by simpa using h1
   exact ⟨h2.l.weaken λ_ h => .inl h,h2.h.weaken λ_ h => .inl h,h2.cnt⟩
  match vs,us,hlen with
  | [v],[u],_=>exact ⟨v,u,H',G',hK,hc1,he,hres⟩
  | [],[],_ =>
   obtain ⟨h1,h2,h3⟩:=b7 _ _ hc1.l hK.1
   exact ⟨_,_,H',G',hK.2,hc1.one h1 h2 λb=>Dc (h3 b),he,hres⟩
  | v::v2::vs,u::u2::us,_ =>
   obtain ⟨h1,h2,h3⟩:=b7 _ _ hc1.l hK.1
   exact ⟨_,_,H',G',hK.2,hc1.one h1 h2 λb=>Dc (h3 b),he,hres⟩
 cases ex with
 | normal=>exact ⟨.inl rfl,main hq⟩
 | ret=>exact ⟨.inr rfl,main hq⟩
 | _=>exact hq.elim
def CRel.shut{vs:List AV}{us:List Value}(h:Ea F G vs H us w){b:Nat}(hd:Zv w b)(hF : ¬ F b):Ea F G vs H us (w.putObj b (.deferred none))/\Ext F G w G (w.putObj b (.deferred none)):=by
 have he:Ext F G w G (w.putObj b (.deferred none)):=KZ hF hd (λ_ _ _ e=>by cases e)
 have hne : ∀ b',b'≠b->(w.putObj b (.deferred none)).heap[b']? =w.heap[b']?:=λb' hn=>World.putObj_heap_other hn
 have hcells : ∀ {b':Nat} {C:Array Value} {E:TypeId},w.heap[b']? =some (.cells C E (0,0))->b'≠b:=λh3 e=>by
  subst e;unfold Zv at hd;rw [hd] at h3;cases h3
 refine ⟨⟨⟨h.l.len,λi a u h1 h2=>(h.l.rel i a u h1 h2).keep he.keeps,λi a u h1 h2 p hp=>(h.l.tok i a u h1 h2 p hp).keep λb' hb'=>?_⟩,h.h.ext he rfl λb' hb'=>⟨rfl, ?_⟩,λb'=>?_⟩,he⟩
 ·obtain ⟨t1,_,C,E,t3⟩:=(h.l.tok i a u h1 h2 p hp).of_tok hb'
  exact ⟨t1,rfl,hne b' (hcells t3)⟩
 ·refine hne b' ?_
  rcases hb' with ⟨o,cs,h1,h2⟩|hb'
  ·intro e;subst e;exact (h.h.obj o cs _ h1 h2).not_isD hd
  ·obtain ⟨_,_,C,E,t3⟩:=h.h.tok_of_pos hb'
   exact hcells t3
 ·rw [Mv (G:=G) (w:=w) (G':=G) rfl λo cs b2 h1 h2=>hne b2 λe=>by subst e;exact (h.h.obj o cs _ h1 h2).not_isD hd]
  exact h.cnt b'
def RI{fn:Func}{tm:Array Value}{R:Ending->World->Prop}{vs:List AV}{us:List Value}{G0:Gh}{w0:World}: ∀ (bs:List Nat) {w:World},Ea F G vs H us w->bs.Nodup->(∀ b∈bs,¬ F b/\Zv w b)->Ext F G0 w0 G w ->
  (∀ w',Ea F G vs H us w'->Ext F G0 w0 G w' -> ∃ v,(results fn tm).run P w' = .ok v w'/\R (.returned v) w') ->
  LeavesInM Fence.wide 0 P fn tm R (bs.map λb=>{ target:=.collected b,args:=#[] }) .returning w
 | [],w,hc,_,_,he,hk=>hk w hc he
 | b::bs,w,hc,hn,hb,he,hk=>by
  obtain ⟨h1,h2⟩:=List.nodup_cons.1 hn
  obtain ⟨hF,hd⟩:=hb b sm
  obtain ⟨hc',he'⟩:=hc.shut hd hF
  refine ⟨sm,.inl ⟨b,_,rfl,run_takeDeferred (P:=P) hd,RI bs hc' h2 (λb' hb'=>⟨(hb b' (by simp [hb'])).1, ?_⟩) (he.trans he') hk⟩⟩
  have h3:=(hb b' (by simp [hb'])).2
  unfold Zv at h3 ⊢
  rw [World.putObj_heap_other (λ(e:b'=b)=>h1 (by rw [<- e];exact hb'))];exact h3
def J5 {f:FuncId} {fn:Func} {c:Code} {h:Eb} {vs:List AV} {us:List Value} {K:AV->FN->Prop} (hg:h.gc=[]\/G.obs=[]) (hm:P.follows .mixedOrders=true) (hd:fn.body.any (GX h)=true) (hf:P.funcs[f]? =some fn) (hb:fn.body=some c)
  (hn:vs.length<=fn.ntmps) (ha:I8 P fn.ntmps h none c (Sv P fn.ntmps fn.results K) (GM 0 vs) H) (hc:Ea F G vs H us w) :
  Calls P f us.toArray w λe w' => ∃ u,e = .returned u /\ ∃ v H' G',K v H'/\Ea F G' [v] H' [u] w'/\Ext F G w G' w':=by
 have hlen:=hc.l.len
 have hs:SRel F G fn.ntmps (GM 0 vs) H { tmps:=us.toArray++Array.replicate (fn.ntmps - us.toArray.size) Go.undef,defers:=[] } w:=by
  refine ⟨by simp;omega,.nil F w,λt ht=>?_, ?_⟩
  ·rw [Km,iP (BY _),List.getElem?_eq_none (by simp;exact AK hn ht)];rfl
  ·rw [Vv vs hn]
   have:=hc.args (fn.ntmps - vs.length)
   simp only [C5,Array.toList_replicate,List.size_toArray]
   rw [<- hlen]
   exact this
 refine callsIn_wide.1 (callsIn_of_wp_marks (F:=Fence.wide) (n:=0) hf hb trivial (show c.wpIn (br none) 0 P _ _ w from I1 hm c none none F G w hg trivial (by rw [hb] at hd;exact hd) _ _ G _ H _ w hs (.refl F G w) ha λex a' w' hl=>?_))
 obtain ⟨env',H',G',hq,hs',he⟩:=hl
 have hex:ex = .normal\/ex = .ret:=(oc hs' hq).1
 obtain ⟨bs,hb1,hb2,hb3⟩:=hs'.defers
 have hfin:LeavesInM Fence.wide 0 P fn a'.tmps (λe w' => ∃ u,e = .returned u /\ ∃ v H' G',K v H'/\Ea F G' [v] H' [u] w'/\Ext F G w G' w') a'.defers .returning w':=by
  rw [hb1]
  refine RI bs hs'.c hb2 hb3 he λw2 hc2 he2=>?_
  obtain ⟨_,v,u,H2,G2,hK,hcr,he3,hrun⟩:=oc (a:={ tmps:=a'.tmps,defers:=[] }) ⟨hs'.size,.nil F w2,hs'.out,hc2⟩ hq
  exact ⟨u,hrun,u,rfl,v,H2,G2,hK,hcr,he2.trans he3⟩
 rcases hex with rfl|rfl
 ·exact hfin
 ·exact hfin
def jj {f:FuncId} {fn:Func} {c:Code} {vs:List AV} {R:AV->FN->Prop} (h:Eb) (hg:h.gc=[]) (hm:P.follows .mixedOrders=true) (hd:fn.body.any (GX h)=true) (hf:P.funcs[f]? =some fn) (hb:fn.body=some c) (hcal:HP P f=true)
  (hn:vs.length<=fn.ntmps) (ha:I8 P fn.ntmps h none c (Sv P fn.ntmps fn.results R) (GM 0 vs) H):FT P f vs H R :=
 ⟨hcal,λF G w us hc=>J5 (.inl hg) hm hd hf hb hn ha hc⟩
def Zw(F:Nat->Prop)(G:Gh)(H:FN)(w:World)(b:Nat):Prop :=
 F b\/(∃ (o:Nat) (cs:List AV),H[o]? =some (some cs)/\G.obs[o]? =some b)\/0<ID G H w b
def CRel.hide{vs:List AV}{us:List Value}(hc:Ea F G vs H us w)(hp : ∀ v∈vs,v.pure=true):Ea (Zw F G H w) ⟨[],G.kind⟩ vs [] us w:=by
 refine ⟨⟨hc.l.len,λi a u h1 h2=>VRel.pure (G:=G) (G':=⟨[],G.kind⟩) rfl (hc.l.rel i a u h1 h2) (hp a (AB h1)),λi a u h1 h2 p hm=>?_⟩,
  ⟨rfl,λo cs b h1 _=>by simp at h1,λo o' cs cs' b h1 _ _ _=>by simp at h1,λb hb=>?_,hc.h.glob.same rfl⟩,λb=>?_⟩
 ·have ht:=hc.l.tok i a u h1 h2 p hm
  refine (Option.eq_none_or_eq_some (tok p)).elim F5 λ⟨b,hb⟩=>?_
  have hx:=ht.of_tok hb
  have key:GA (Zw F G H w) G w p:=ht.keep λb' hb'=>by
   rw [hb] at hb';cases hb'
   refine ⟨?_,rfl,rfl⟩
   rintro (h|⟨o,cs,h3,h4⟩|h)
   ·exact hx.1 h
   ·obtain ⟨_,⟨q,hq⟩,_⟩:=hx
    exact (hc.h.obj o cs b h3 h4).no_buf hq
   ·have h5:=L7 h1 h2 hm hb
    have:=hc.cnt b
    omega
  exact key
 ·rcases hb with h|⟨o,cs,h3,h4⟩|h
  ·exact hc.h.fore b h
  ·exact hc.h.block_lt h3 h4
  ·obtain ⟨_,_,C,E,hh⟩:=hc.h.tok_of_pos h
   exact (Array.getElem?_eq_some_iff.1 hh).1
 ·have:=hc.cnt b
  show G7 b vs us+ID _ [] w b<=1
  simp only [ID,AG,EC,Ag,List.sum_nil]
  omega
def CRel.unhide {vs:List AV} {us:List Value} (hc:Ea F G vs H us w) {G':Gh} {H2:FN} {v:AV} {u:Value} {w':World} (hv:v.pure=true)
  (hr:Ea (Zw F G H w) G' [v] H2 [u] w') (he:Ext (Zw F G H w) ⟨[],G.kind⟩ w G' w') :
  Ea F ⟨G.obs,G'.kind⟩ [v] H [u] w'/\Ext F G w ⟨G.obs,G'.kind⟩ w':=by
 have hk:Keeps G w ⟨G.obs,G'.kind⟩ w':=⟨λ_ _ h=>h,he.keeps.shape,λb hb hs=>he.keeps.sp b hb hs,λb o x hs hcell=>he.keeps.safe b o x hs hcell⟩
 have hext:Ext F G w ⟨G.obs,G'.kind⟩ w':=⟨he.size,hk,λb hb=>he.kind b (.inl hb),λb hb=>he.cells b (.inl hb),he.io⟩
 obtain ⟨h1,h2,_⟩:=hr.l.uncons
 refine ⟨⟨.cons (VRel.pure (G:=G') (G':=⟨G.obs,G'.kind⟩) rfl h1 hv) (λp hp=>?_) (.nil F _ _), ?_,λb=>?_⟩,hext⟩
 ·have:=(h2 p hp).weaken (F:=F) λb hb => .inl hb
  exact this
 ·exact hc.h.ext hext rfl λb hb=>⟨he.kind b (.inr hb),he.cells b (.inr hb)⟩
 ·have e:ID ⟨G.obs,G'.kind⟩ H w' b=ID G H w b:=Mv rfl (λo cs b' g1 g2=>he.cells b' (.inr (.inl ⟨o,cs,g1,g2⟩))) b
  rw [e,FW,GN]
  by_cases h0:0<ID G H w b
  ·have h3 : ¬ 0<G7 b [v] [u]:=λhp=>(hr.l.tok_of_pos hp).1 (.inr (.inr h0))
   rw [FW,GN] at h3
   have:=hc.cnt b
   omega
  ·have:=hr.cnt b
   rw [FW,GN] at this
   omega
def ACU {f:FuncId} {fn:Func} {c:Code} {vs:List AV} {Q:AV->Prop} (h:Eb) (hm:P.follows .mixedOrders=true) (hd:fn.body.any (GX h)=true) (hf:P.funcs[f]? =some fn) (hb:fn.body=some c) (hcal:HP P f=true)
  (hn:vs.length<=fn.ntmps) (hp:FQ vs=true) (ha:I8 P fn.ntmps h none c (Sv P fn.ntmps fn.results λv' _=>v'.pure=true/\Q v') (GM 0 vs) []):KG P f vs Q:=λH =>
 ⟨hcal,λF G w us hc=>Calls.mono (J5 (.inr rfl) hm hd hf hb hn ha (hc.hide (H7 hp))) λe w' he=>by
  obtain ⟨u,rfl,v',H2,G',⟨hv,hq⟩,hcr,hext⟩:=he
  obtain ⟨h1,h2⟩:=hc.unhide hv hcr hext
  exact ⟨u,rfl,v',H,_,⟨hq,rfl⟩,h1,h2⟩⟩
def ACY {f:FuncId} {fn:Func} {c:Code} {vs:List AV} {v:AV} (h:Eb) (hm:P.follows .mixedOrders=true) (hd:fn.body.any (GX h)=true) (hf:P.funcs[f]? =some fn) (hb:fn.body=some c) (hcal:HP P f=true)
  (hn:vs.length<=fn.ntmps) (hp:FQ vs=true) (hv:v.pure=true) (ha:I8 P fn.ntmps h none c (Sv P fn.ntmps fn.results λv' _=>v'=v) (GM 0 vs) []):FO P f vs v:=λH =>
 ⟨hcal,λF G w us hc=>Calls.mono (J5 (.inr rfl) hm hd hf hb hn ha (hc.hide (H7 hp))) λe w' he=>by
  obtain ⟨u,rfl,v',H2,G',rfl,hcr,hext⟩:=he
  obtain ⟨h1,h2⟩:=hc.unhide hv hcr hext
  exact ⟨u,rfl,_,H,_,⟨rfl,rfl⟩,h1,h2⟩⟩
end
end Go.AI
namespace Go.AI
abbrev Kt:=Fp->FN->Prop
def Wq(x:Operand)(v:AV)(e:Fp):Fp :=
 match v.owned,x with
 | true,.tmp t=>(t,v.borrow)::e
 | _,_=>e
def bnd(r:Option AV)(d:Tmp)(K:Kt)(e:Fp)(H:FN):Prop :=
 match r with
 | some v=>K ((d,v)::e) H
 | none=>False
def AEt(r:Option (AV×FN))(d:Option Tmp)(K:Kt)(e:Fp):Prop :=
 match r with
 | some (v,H)=>K (put d v e) H
 | none=>False
def Vk(c:AV)(b:Bool)(A B:Kt)(e:Fp)(H:FN):Prop :=
 match c with
 | .bool c=>if c=b then A e H else B e H
 | .tup _=>B e H
 | _=>False
def AAj(t:Option Tmp)(b:Bool)(A B:Kt)(e:Fp)(H:FN):Prop :=
 match t with
 | some t=>Vk (Fm e t) b A B e H
 | none=>False
def yI(n:Nat)(d:Option Tmp)(K:Kt)(e:Fp)(H:FN):Prop:=Gf n d/\K (put d (.tup []) e) H
def gF(c:AV)(A B:Kt)(e:Fp)(H:FN):Prop :=
 match c with
 | .bool t=>if t=true then A e H else B e H
 | _=>False
def yK(B:Kt)(Q:Exit->Kt)(ex:Exit):Kt:=λe H =>
 match ex with
 | .normal=>B e H
 | ex=>Q ex e H
def aL(id:Nat)(Q:Exit->Kt)(ex:Exit):Kt:=λe H =>
 match ex with
 | .exit j=>if j=id then Q .normal e H else Q (.exit j) e H
 | ex=>Q ex e H
def XK(zs:List (Tmp×Option Nat×Bool))(Q:Exit->Kt):Kt:=λe H=>Q .normal (KW zs e H).1 (KW zs e H).2
def gcK(g:Option Nat)(Q:Exit->Kt)(ex:Exit):Kt:=λe H =>
 match ex with
 | .normal=>Q .normal e (To g e H)
 | ex=>Q ex e H
def mT(live:List Tmp)(zs:List (Tmp×Option Nat×Bool))(Q:Exit->Kt):Kt:=λe H=>XK zs Q (Ha live e) H
def oR(P:Program)(t:TypeId)(a:AV)(H:FN):Option (AV×FN) :=
 match a with
 | .ptr ob off=>match H[ob]? with
  | some (some cs)=>match LZ P t cs off with
   | some v=>if v.owned=true then some (v,H.set ob (some (splice cs off (v.cells.map borrow1)))) else some (v.borrow,H)
   | none=>none
  | _=>none
 | _=>none
def rdK(r:Option (AV×FN))(K:AV->FN->Prop):Prop :=
 match r with
 | some (v,H)=>K v H
 | none=>False
def WY(P:Program)(f:FuncId)(vs:List AV)(d:Option Tmp)(K:Kt)(e:Fp)(H:FN):Prop:=∃ v,FO P f vs v/\K (put d v e) H
def Fs(P:Program)(f:FuncId)(vs:List AV)(d:Option Tmp)(K:Kt)(e:Fp)(H:FN):Prop:=FT P f vs H λv H'=>K (put d v e) H'
section
variable {P:Program} {n:Nat} {h:Eb} {ops:Array Oper} {K:Kt} {p:Tmp×AV} {e:Fp} {H:FN} {d:Tmp} {ty:TypeId} {ps:String} {af:Array Edge} {Q:Exit->Kt} {ar:Option Nat}
def rP(t k:Tmp)(v:AV):Fm ((k,v)::e) t=if k=t then v else Fm e t:=rfl
def ze(t:Tmp):Fm [] t = .undef:=rfl
def vq:Ha [] e=[]:=rfl
def mf(t:Tmp)(l:List Tmp):Ha (t::l) e=(t,Fm e t)::Ha l e:=rfl
def yZ(v:AV):put (some d) v e=(d,v)::e:=rfl
def mU:Gf n (some d)=(d<n):=rfl
def AEM(o:Option TypeId)(t:Tmp):Gy P o e (.tmp t)=Fm e t:=rfl
def AEO(o:Option TypeId)(k:IntKind)(m:Int):Gy P o e (.const (.int k m)) = .int k m:=rfl
def AA6(o:Option TypeId)(b:Bool):Gy P o e (.const (.bool b)) = .bool b:=rfl
def AEN(o:Option TypeId)(s:ByteArray):Gy P o e (.const (.string s)) = .str s:=rfl
def AA3(o:Option TypeId):Gy P o e (.const (.pointer none)) = .nilp:=rfl
def AA4(o:Option TypeId):Gy P o e (.const .nilFunc) = .nilf:=rfl
def AA2(o:Option TypeId):Gy P o e (.const (.slice none 0 0)) = .sl (SS P o) []:=rfl
def AA5(o:Option TypeId)(f:FuncId):Gy P o e (.func f) = .fn (.func f) [] []:=rfl
def di:SS P none=none:=rfl
def dh(t:TypeId):SS P (some t)=match P.underlying t with
  | some (.slice e)=>some (P.cellsOf e)
  | _=>none:=rfl
def rB(k:IntKind)(m:Int):(AV.int k m).owned=false:=rfl
def ky(b:Bool):(AV.bool b).owned=false:=rfl
def qz(b:ByteArray):(AV.str b).owned=false:=rfl
def kp:AV.nilp.owned=false:=rfl
def q9(a b:Nat):(AV.ptr a b).owned=false:=rfl
def kx(a:List AV)(b:Nat):(AV.cptr a b).owned=false:=rfl
def q8(es:List AV):(AV.sl none es).owned=false:=rfl
def q7(k:Nat)(es:List AV):(AV.sl (some k) es).owned=true:=rfl
def rA(a b c k:Nat):(AV.msl a b c k).owned=false:=rfl
def kv(a b c k m:Nat):(AV.mslc a b c k m).owned=false:=rfl
def zI(f:Fn)(a b:List AV):(AV.fn f a b).owned=false:=rfl
def ku:AV.nilf.owned=false:=rfl
def rC(cs:List AV):(AV.agg cs).owned=cs.any GB:=rfl
def qy(cs:List AV):(AV.tup cs).owned=(cs.flatMap AV.cells).any GB:=rfl
def kz(es:List AV):GB (AV.sl none es)=false:=rfl
def lB(k:IntKind)(m:Int):GB (AV.int k m)=false:=rfl
def dJ(b:Bool):GB (AV.bool b)=false:=rfl
def lA(a b c k:Nat):GB (AV.msl a b c k)=false:=rfl
def nJ(k:IntKind)(m:Int):(AV.int k m).borrow = .int k m:=rfl
def gf(b:Bool):(AV.bool b).borrow = .bool b:=rfl
def nG(b:ByteArray):(AV.str b).borrow = .str b:=rfl
def nH(a b:Nat):(AV.ptr a b).borrow = .ptr a b:=rfl
def ge(a:List AV)(b:Nat):(AV.cptr a b).borrow = .cptr a b:=rfl
def wO(o:Option Nat)(es:List AV):(AV.sl o es).borrow = .sl none es:=rfl
def nI(a b c k:Nat):(AV.msl a b c k).borrow = .msl a b c k:=rfl
def gY(a b c k m:Nat):(AV.mslc a b c k m).borrow = .mslc a b c k m:=rfl
def wP(f:Fn)(a b:List AV):(AV.fn f a b).borrow = .fn f a b:=rfl
def nK(cs:List AV):(AV.agg cs).borrow = .agg (cs.map borrow1):=rfl
def nF(cs:List AV):(AV.tup cs).borrow = .tup (cs.map borrow0):=rfl
def nL(o:Option Nat)(es:List AV):borrow1 (AV.sl o es) = .sl none es:=rfl
def gh(k:IntKind)(m:Int):borrow1 (AV.int k m) = .int k m:=rfl
def wA(cs:List AV):(AV.agg cs).cells=cs:=rfl
def vz(k:IntKind)(m:Int):(AV.int k m).cells=[.int k m]:=rfl
def mo(b:Bool):(AV.bool b).cells=[.bool b]:=rfl
def vw(b:ByteArray):(AV.str b).cells=[.str b]:=rfl
def mh:AV.nilp.cells=[.nilp]:=rfl
def vx(a b:Nat):(AV.ptr a b).cells=[.ptr a b]:=rfl
def ABI(o:Option Nat)(es:List AV):(AV.sl o es).cells=[.sl o es]:=rfl
def vy(a b c k:Nat):(AV.msl a b c k).cells=[.msl a b c k]:=rfl
def r9(cs:List AV):(AV.agg cs).isVal=true:=rfl
def r8(k:IntKind)(m:Int):(AV.int k m).isVal=true:=rfl
def lx(b:Bool):(AV.bool b).isVal=true:=rfl
def r5(b:ByteArray):(AV.str b).isVal=true:=rfl
def r6(a b:Nat):(AV.ptr a b).isVal=true:=rfl
def AAG(o:Option Nat)(es:List AV):(AV.sl o es).isVal=true:=rfl
def r7(a b c k:Nat):(AV.msl a b c k).isVal=true:=rfl
def kw(a:Nat):(AV.mapr a).owned=false:=rfl
def qx(a:Nat)(L:Ec):(AV.yld a L).owned=false:=rfl
def rD(f:Fn)(a b:List AV):GB (AV.fn f a b)=false:=rfl
def dI:GB AV.nilf=false:=rfl
def gd(a:Nat):(AV.mapr a).borrow = .mapr a:=rfl
def nE(a:Nat)(L:Ec):(AV.yld a L).borrow = .yld a L:=rfl
def ml(a:Nat):(AV.mapr a).cells=[.mapr a]:=rfl
def mi:AV.nilm.cells=[.nilm]:=rfl
def ABJ(f:Fn)(a b:List AV):(AV.fn f a b).cells=[.fn f a b]:=rfl
def mj:AV.nilf.cells=[.nilf]:=rfl
def vu(a:Nat)(L:Ec):(AV.yld a L).cells=[.yld a L]:=rfl
def lw(a:Nat):(AV.mapr a).isVal=true:=rfl
def AAH(f:Fn)(a b:List AV):(AV.fn f a b).isVal=true:=rfl
def rz(a:Nat)(L:Ec):(AV.yld a L).isVal=true:=rfl
def xt(b:Bool)(x:Operand)(v:AV)(e:Fp):Fp :=
 match b,x with
 | true,.tmp t=>(t,v.borrow)::e
 | _,_=>e
def ATy(x:Operand)(v:AV):Wq x v e=xt v.owned x v e:=rfl
def AGd(x:Operand)(v:AV):xt false x v e=e:=rfl
def AGc(t:Tmp)(v:AV):xt true (.tmp t) v e=(t,v.borrow)::e:=rfl
def kG(b:Bool)(c:Value)(v:AV):xt b (.const c) v e=e:=by cases b<;>rfl
def qR(b:Bool)(f:FuncId)(v:AV):xt b (.func f) v e=e:=by cases b<;>rfl
def ABh(v:AV):bnd (some v) d K e H=K ((d,v)::e) H:=AH rfl rfl
def wS(v:AV)(dd:Option Tmp):AEt (some (v,H)) dd K e=K (put dd v e) H:=AH rfl rfl
def mE(t:Tmp)(b:Bool)(A B:Kt):AAj (some t) b A B e H=Vk (Fm e t) b A B e H:=AH rfl rfl
def AEA(A B:Kt):Vk (.bool true) true A B e H=A e H:=AH rfl rfl
def AED(A B:Kt):Vk (.bool false) false A B e H=A e H:=AH rfl rfl
def AEB(A B:Kt):Vk (.bool true) false A B e H=B e H:=AH rfl rfl
def AEC(A B:Kt):Vk (.bool false) true A B e H=B e H:=AH rfl rfl
def AAk(b:Bool)(vs:List AV)(A B:Kt):Vk (.tup vs) b A B e H=B e H:=by simp [Vk]
def yH(dd:Option Tmp):yI n dd K e H=(Gf n dd/\K (put dd (.tup []) e) H):=AH rfl rfl
def AEU(A B:Kt):gF (.bool true) A B e H=A e H:=AH rfl rfl
def AEV(A B:Kt):gF (.bool false) A B e H=B e H:=AH rfl rfl
def TQ(t:Bool)(A B:Kt)(ht:t=true->A e H)(hf:t=false->B e H):gF (.bool t) A B e H:=by
 cases t
 ·exact hf rfl
 ·exact ht rfl
def mF(t b:Bool)(A B:Kt)(ht:t=b->A e H)(hf:t=(!b)->B e H):Vk (.bool t) b A B e H:=by
 cases t<;>cases b<;>first|exact ht rfl|exact hf rfl
def AB7:LA P n h ops [] K (p::e) H=K (p::e) H:=AH rfl rfl
def wb(o:Oper)(l:List Oper):LA P n h ops (o::l) K (p::e) H=IX P n h ops o (LA P n h ops l K) (p::e) H:=AH rfl rfl
def AB4:I8 P n h ar .skip Q (p::e) H=Q .normal (p::e) H:=AH rfl rfl
def AEy:I8 P n h ar .ret Q (p::e) H=Q .ret (p::e) H:=AH rfl rfl
def AB5(id:Nat):I8 P n h ar (.exit id) Q (p::e) H=Q (.exit id) (p::e) H:=AH rfl rfl
def AEx(a b:Code):I8 P n h ar (.seq a b) Q (p::e) H=I8 P n h ar a (yK (I8 P n h ar b Q) Q) (p::e) H:=AH rfl rfl
def wa(id:Nat)(c:Code):I8 P n h ar (.block id c) Q (p::e) H=I8 P n h ar c (aL id Q) (p::e) H:=AH rfl rfl
def AB6(c:Operand)(a b:Code):I8 P n h ar (.cond c a b) Q (p::e) H=gF (Gy P none (p::e) c) (I8 P n h ar a Q) (I8 P n h ar b Q) (p::e) H:=AH rfl rfl
def nP(id:Nat)(ops:Array Oper)(dr:Bool)(hd:h.dn id=false):I8 P n h ar (.region id ops dr) Q (p::e) H=LA P n h ops ops.toList (mT (h.lv id) (h.at id) (gcK (h.ct id) Q)) (p::e) H:=by
 obtain ⟨h1,h2⟩:=oE hd ops
 have e1:(λe H=>(h.da id=true->Je P h ops e)/\Q .normal (KW (h.at id) (Ha (h.lv id) e) H).1 (To (h.ct id) (KW (h.at id) (Ha (h.lv id) e) H).1 (KW (h.at id) (Ha (h.lv id) e) H).2))=mT (h.lv id) (h.at id) (gcK (h.ct id) Q):=by
  funext e H
  simp only [h1,Bw,false_implies,true_and]
  rfl
 show LA P n h ops (h.ord id ops) _ (p::e) H=_
 rw [<- e1,h2]
def AaX(P:Program)(h:Eb)(ops:Array Oper)(K:Kt):Kt:=λe H=>Je P h ops e/\K e H
def HQ(id:Nat)(ops:Array Oper)(dr:Bool)(hd:h.dn id=true)(ha:h.da id=true)(hm:h.mv id=[]):I8 P n h ar (.region id ops dr) Q (p::e) H=LA P n h ops ops.toList (AaX P h ops (mT (h.lv id) (h.at id) (gcK (h.ct id) Q))) (p::e) H:=by
 have e1:(λe H=>(h.da id=true->Je P h ops e)/\Q .normal (KW (h.at id) (Ha (h.lv id) e) H).1 (To (h.ct id) (KW (h.at id) (Ha (h.lv id) e) H).1 (KW (h.at id) (Ha (h.lv id) e) H).2))=AaX P h ops (mT (h.lv id) (h.at id) (gcK (h.ct id) Q)):=by
  funext e H
  simp only [ha,true_implies]
  rfl
 have h2:h.ord id ops=ops.toList:=by unfold Hint.ord;rw [hm]
 show LA P n h ops (h.ord id ops) _ (p::e) H=_
 rw [<- e1,h2]
def O1(id:Nat)(ops:Array Oper)(dr:Bool)(hd:h.dn id=true)(ha:h.da id=false):I8 P n h ar (.region id ops dr) Q (p::e) H=LA P n h ops (h.ord id ops) (mT (h.lv id) (h.at id) (gcK (h.ct id) Q)) (p::e) H:=by
 have e1:(λe H=>(h.da id=true->Je P h ops e)/\Q .normal (KW (h.at id) (Ha (h.lv id) e) H).1 (To (h.ct id) (KW (h.at id) (Ha (h.lv id) e) H).1 (KW (h.at id) (Ha (h.lv id) e) H).2))=mT (h.lv id) (h.at id) (gcK (h.ct id) Q):=by
  funext e H
  simp only [ha,Bw,false_implies,true_and]
  rfl
 show LA P n h ops (h.ord id ops) _ (p::e) H=_
 rw [<- e1]
def rfK(P:Program)(n:Nat)(h:Eb)(ar:Option Nat)(g:Operand)(rs:Array Tmp)(assign body:Code)(Q:Exit->Kt):Kt:=I8 P n h ar (.rangeFunc g rs assign body) Q
def XQ(g:Operand)(rs:Array Tmp)(assign body:Code):I8 P n h ar (.rangeFunc g rs assign body) Q (p::e) H=rfK P n h ar g rs assign body Q (p::e) H:=AH rfl rfl
def AEQ(live:List Tmp)(zs:List (Tmp×Option Nat×Bool)):mT live zs Q (p::e) H=XK zs Q (Ha live (p::e)) H:=AH rfl rfl
def AAp:XK [] Q e H=Q .normal e H:=AH rfl rfl
def vY(z:Tmp×Option Nat×Bool)(zs:List (Tmp×Option Nat×Bool)):XK (z::zs) Q e H=XK zs Q (fM z e H).1 (fM z e H).2:=rfl
def AAo:gcK none Q=Q:=by
 funext ex e H
 cases ex<;>rfl
def AAn(k:Nat):gcK (some k) Q .normal e H=if k<=H.length/\Fj k (e.map (·.2))=true/\UV (H.take k)=true then Q .normal e (H.take k) else Q .normal e H:=by
 simp only [gcK,To]
 split<;>rfl
def cM(B:Kt):yK B Q .normal=B:=AH rfl rfl
def yJ(B:Kt):yK B Q .ret=Q .ret:=AH rfl rfl
def qZ(B:Kt)(j:Nat):yK B Q (.exit j)=Q (.exit j):=AH rfl rfl
def gk(id:Nat):aL id Q .normal=Q .normal:=AH rfl rfl
def ABi(id:Nat):aL id Q .ret=Q .ret:=AH rfl rfl
def ABj(id:Nat):aL id Q (.exit id)=Q .normal:=by
 funext e H;simp [aL]
def wT(id j:Nat)(hj:(j==id)=false):aL id Q (.exit j)=Q (.exit j):=by
 funext e H
 have:j≠id:=by simpa using hj
 simp [aL,this]
def ACT(rs:Array ResultVar)(K:AV->FN->Prop):Sv P n rs K .ret e H=cV P n rs.toList e H λvs _ H'=>QH K vs H':=AH rfl rfl
def ip(rs:Array ResultVar)(K:AV->FN->Prop):Sv P n rs K .normal e H=cV P n rs.toList e H λvs _ H'=>QH K vs H':=AH rfl rfl
def ADN(K:List AV->Fp->FN->Prop):cV P n [] e H K=K [] e H:=AH rfl rfl
def ADM(t:Tmp)(rs:List ResultVar)(K:List AV->Fp->FN->Prop):cV P n (.tmp t::rs) e H K=(t<n/\cV P n rs (Wq (.tmp t) (Fm e t) e) H λvs=>K (Fm e t::vs)):=by
 have e1:(M1 P none true (.tmp t) e).2=Wq (.tmp t) (Fm e t) e:=by
  simp only [M1,Gy,Wq]
  cases (Fm e t).owned<;>rfl
 simp only [cV,e1]
 rfl
def cT(t:Tmp)(ty:TypeId)(rs:List ResultVar)(K:List AV->Fp->FN->Prop):cV P n (.cell t ty::rs) e H K=(t<n/\rdK (oR P ty (Fm e t) H) λv H'=>cV P n rs e H' λvs=>K (v::vs)):=by
 simp only [cV,oR]
 congr 1
 cases Fm e t with
 | ptr ob off =>
  dsimp only
  cases H[ob]? with
  | none=>rfl
  | some c=>cases c with
   | none=>rfl
   | some cs =>
    dsimp only
    cases LZ P ty cs off with
    | none=>rfl
    | some v =>
     dsimp only
     by_cases hv:v.owned=true
     ·rw [iP hv,iP hv];rfl
     ·rw [iN hv,iN hv];rfl
 | _=>rfl
def yV(v:AV)(K:AV->FN->Prop):rdK (some (v,H)) K=K v H:=AH rfl rfl
def yR(v:AV)(K:AV->FN->Prop):QH K [v] H=K v H:=AH rfl rfl
def yS(K:AV->FN->Prop):QH K [] H=K (.tup []) H:=by simp [QH]
def yQ(u v:AV)(K:AV->FN->Prop):QH K [u,v] H=(u.isVal=true/\v.isVal=true/\K (.tup [u,v]) H):=by simp [QH,and_assoc]
def kS(u v x:AV)(K:AV->FN->Prop):QH K [u,v,x] H=(u.isVal=true/\v.isVal=true/\x.isVal=true/\K (.tup [u,v,x]) H):=by simp [QH,and_assoc]
def WY.intro{f:FuncId}{vs:List AV}{dd:Option Tmp}{v:AV}(hc:FO P f vs v)(hk:K (put dd v e) H):WY P f vs dd K e H:=⟨v,hc,hk⟩
def Fs.intro{f:FuncId}{vs:List AV}{dd:Option Tmp}{R:AV->FN->Prop}(hc:FT P f vs H R)(hk : ∀ v H',R v H'->K (put dd v e) H'):Fs P f vs dd K e H:=hc.mono hk
def Fs.pure{f:FuncId}{vs:List AV}{dd:Option Tmp}{v:AV}(hc:FO P f vs v)(hk:K (put dd v e) H):Fs P f vs dd K e H:=(hc H).mono λv' H' hq=>by obtain ⟨rfl,rfl⟩:=hq;exact hk
def K3{f:FuncId}{vs:List AV}{dd:Option Tmp}{Q:AV->Prop}(hc:KG P f vs Q)(hk : ∀ v,Q v->K (put dd v e) H):Fs P f vs dd K e H:=(hc H).mono λv' H' hq=>by obtain ⟨h1,rfl⟩:=hq;exact hk v' h1
end
end Go.AI
namespace Go.AI
def JD(P:Program):List Operand->Fp->List AV×Fp
 | [],e=>([],e)
 | x::xs,e=>((Gy P none e x)::(JD P xs (Wq x (Gy P none e x) e)).1,(JD P xs (Wq x (Gy P none e x) e)).2)
def X6(P:Program)(tk:Bool)(t:TypeId)(a:AV)(H:FN):Option (AV×FN) :=
 match a with
 | .ptr ob off=>match H[ob]? with
  | some (some cs)=>match LZ P t cs off with
   | some v=>match tk with
    | true=>if v.owned=true/\v.scalar=true then some (v,H.set ob (some (splice cs off (v.cells.map borrow1)))) else none
    | false=>some (v.borrow,H)
   | none=>none
  | _=>none
 | .cptr cs off=>match LZ P t cs off with
  | some v=>some (v.borrow,H)
  | none=>none
 | _=>none
def Uc(P:Program)(t:TypeId)(a v:AV)(H:FN):Option FN :=
 match a with
 | .ptr ob off=>match H[ob]? with
  | some (some cs)=>if v.isVal=true/\v.cells.length=P.cellsOf t/\0<P.cellsOf t/\off+P.cellsOf t<=cs.length then some (H.set ob (some (splice cs off v.cells))) else none
  | _=>none
 | _=>none
def stK(r:Option FN)(K:Kt)(e:Fp):Prop :=
 match r with
 | some H=>K e H
 | none=>False
def qL(a:AV)(k:Nat):Option AV :=
 match a with
 | .ptr ob off=>some (.ptr ob (off+k))
 | .cptr cs off=>some (.cptr cs (off+k))
 | _=>none
def fieldAt(P:Program)(s f:Nat):Option Field :=
 match P.underlying s with
 | some (.struct fs)=>fs[f]?
 | _=>none
def R6(P:Program)(fd:Option Field)(x:AV):Option AV :=
 match fd with
 | some fd=>if 0<P.cellsOf fd.type then qL x fd.offset else none
 | none=>none
def X5(P:Program)(fd:Option Field)(x:AV):Option AV :=
 match fd,x with
 | some fd,.agg cs=>LZ P fd.type cs fd.offset
 | _,_=>none
def xl(x:AV):Option AV :=
 match x with
 | .ptr ob off=>some (.ptr ob off)
 | .cptr cs off=>some (.cptr cs off)
 | .fn (.func f) a b=>some (.fn (.func f) a b)
 | .yld o L=>some (.yld o L)
 | _=>none
def xh(c a b:AV):Option AV :=
 match c with
 | .bool c=>some (if c=true then a else b)
 | _=>none
def OE(x:AV)(i:Nat):Option AV :=
 match x with
 | .tup vs=>vs[i]?
 | _=>none
def xm(d:Option TypeDesc)(x:AV):Option AV :=
 match d,x with
 | some (.slice _),.sl _ es=>some (.int .i64 es.length)
 | some (.slice _),.msl _ _ len _=>some (.int .i64 len)
 | some (.slice _),.mslc _ _ len _ _=>some (.int .i64 len)
 | some .string,.str s=>some (.int .i64 s.size)
 | some (.array n _),_=>some (.int .i64 n)
 | _,_=>none
def vUn(op:UnOp)(x:AV):Option AV :=
 match op,x with
 | .neg,.int k m=>some (.int k (k.wrap (0 - m)))
 | .not,.bool b=>some (.bool !b)
 | _,_=>none
section
variable {P:Program} {n:Nat} {h:Eb} {ops:Array Oper} {K:Kt} {p:Tmp×AV} {e:Fp} {H:FN} {d:Tmp} {ty:TypeId} {ps:String} {af:Array Edge} {Q:Exit->Kt}
def M0 : ∀ (xs:List Operand) (e:Fp),OC P none true xs e=JD P xs e
 | [],e=>rfl
 | x::xs,e=>by
  have:(M1 P none true x e).2=Wq x (Gy P none e x) e:=by
   simp only [M1,Wq]
   cases x with
   | tmp t=>simp only [Gy];cases (Fm e t).owned<;>rfl
   | _=>cases (Gy P none e _).owned<;>rfl
  simp only [OC,JD,this,M0 xs]
  rfl
def GC(ty:Option TypeId): ∀ (xs:List Operand) (e:Fp),OC P ty false xs e=(xs.map λx=>(Gy P ty e x).borrow,e)
 | [],e=>rfl
 | x::xs,e=>by simp only [OC,M1,GC ty xs,AT]
def qQ:JD P [] e=([],e):=rfl
def kF(x:Operand)(xs:List Operand):JD P (x::xs) e=((Gy P none e x)::(JD P xs (Wq x (Gy P none e x) e)).1,(JD P xs (Wq x (Gy P none e x) e)).2):=rfl
def F3(o:Oper)(hg:o.guard=none):IX P n h ops o K e H=(Gf n o.dst/\Fb P h o (OC P (HN o) (Fy h o) o.op.operands.toList e).1 H λv H'=>K (put o.dst v (OC P (HN o) (Fy h o) o.op.operands.toList e).2) H'):=by
 simp only [IX,jn,hg]
def wq(op:Op)(j:Nat)(b:Bool)(dd:Option Tmp):IX P n h ops ⟨dd,op,ty,ps,af,some (j,b)⟩ K (p::e) H =
  AAj ((ops[j]?).bind Oper.dst) b (IX P n h ops ⟨dd,op,ty,ps,af,none⟩ K) (yI n dd K) (p::e) H:=by
 simp only [IX,jn,AAj,Vk,yI]
 cases (ops[j]?).bind Oper.dst with
 | none=>rfl
 | some t =>
  simp only
  cases Fm (p::e) t with
  | bool c=>cases c<;>cases b<;>rfl
  | _=>rfl
def Y8(x:Operand)(o:Option TypeId):(M1 P o true x e).2=Wq x (Gy P o e x) e:=by
 simp only [M1,Wq]
 cases x with
 | tmp t=>simp only [Gy];cases (Fm e t).owned<;>rfl
 | _=>cases (Gy P o e _).owned<;>rfl
def ACF(x:Operand):IX P n h ops ⟨some d,.move x,ty,ps,af,none⟩ K (p::e) H =
  (d<n/\bif h.tk.contains d then K ((d,Gy P (some ty) (p::e) x)::Wq x (Gy P (some ty) (p::e) x) (p::e)) H else K ((d,(Gy P (some ty) (p::e) x).borrow)::p::e) H):=by
 rw [F3 _ rfl]
 cases ht:h.tk.contains d
 ·simp only [Fy,C9,ht,HN,Op.operands,OC,Fb,put,Gf,cond_false];rfl
 ·simp only [Fy,C9,ht,HN,Op.operands,OC,Y8,Fb,put,Gf,cond_true];rfl
def nZ(x:Operand):IX P n h ops ⟨some d,.assign x,ty,ps,af,none⟩ K (p::e) H =
  (d<n/\K ((d,Gy P (some ty) (p::e) x)::Wq x (Gy P (some ty) (p::e) x) (p::e)) H):=by
 rw [F3 _ rfl]
 simp only [Fy,HN,Op.operands,OC,Y8,Fb,put,Gf];rfl
def ACD(c a b:Operand):IX P n h ops ⟨some d,.pick c a b,ty,ps,af,none⟩ K (p::e) H =
  (d<n/\bnd (xh (Gy P none (p::e) c).borrow (Gy P none (p::e) a).borrow (Gy P none (p::e) b).borrow) d K (p::e) H):=by
 rw [F3 _ rfl]
 simp only [Fy,HN,Op.operands,GC,AT,Ag,Fb,put,Gf,xh]
 cases (Gy P none (p::e) c).borrow<;>rfl
def AFA(el:TypeId)(x:Operand):IX P n h ops ⟨some d,.box el x,ty,ps,af,none⟩ K (p::e) H =
  (d<n/\(Gy P none (p::e) x).isVal=true/\K ((d,.ptr H.length 0)::Wq x (Gy P none (p::e) x) (p::e)) (H++[some (Gy P none (p::e) x).cells])):=by
 rw [F3 _ rfl]
 simp only [Fy,HN,Op.operands,OC,Y8,Fb,put,Gf];rfl
def ACG(t:TypeId)(x:Operand):IX P n h ops ⟨some d,.load t x,ty,ps,af,none⟩ K (p::e) H =
  (d<n/\AEt (X6 P (h.tk.contains d) t (Gy P none (p::e) x).borrow H) (some d) K (p::e)):=by
 rw [F3 _ rfl]
 simp only [Fy,HN,Op.operands,GC,AT,Ag,Fb,put,Gf,X6]
 congr 1
 cases (Gy P none (p::e) x).borrow with
 | ptr ob off =>
  simp only
  cases H[ob]? with
  | none=>rfl
  | some c=>cases c with
   | none=>rfl
   | some cs =>
    simp only
    cases LZ P t cs off with
    | none=>rfl
    | some v =>
     simp only [C9]
     cases h.tk.contains d
     ·rfl
     ·dsimp only
      by_cases hc:v.owned=true/\v.scalar=true
      ·rw [iP hc];simp [hc.1,hc.2,AEt,put]
      ·rw [iN hc]
       simp only [AEt,eq_iff_iff,iff_false]
       intro hx
       exact hc ⟨hx.1,hx.2.1⟩
 | cptr cs off =>
  simp only
  cases LZ P t cs off<;>rfl
 | _=>rfl
def wl(t:TypeId)(a v:Operand):IX P n h ops ⟨none,.store t a v,ty,ps,af,none⟩ K (p::e) H =
  stK (Uc P t (Gy P (some t) (p::e) a) (Gy P (some t) (Wq a (Gy P (some t) (p::e) a) (p::e)) v) H) K (Wq v (Gy P (some t) (Wq a (Gy P (some t) (p::e) a) (p::e)) v) (Wq a (Gy P (some t) (p::e) a) (p::e))):=by
 rw [F3 _ rfl]
 have e1 : ∀ (x:Operand) (e:Fp),(M1 P (some t) true x e).1=Gy P (some t) e x:=λ_ _=>rfl
 simp only [Fy,HN,Op.operands,OC,Y8,e1,Fb,put,Gf,Uc,true_and]
 generalize Gy P (some t) (Wq a (Gy P (some t) (p::e) a) (p::e)) v=vv
 generalize Wq v vv (Wq a (Gy P (some t) (p::e) a) (p::e))=e'
 cases Gy P (some t) (p::e) a with
 | ptr ob off =>
  simp only
  cases H[ob]? with
  | none=>rfl
  | some c=>cases c with
   | none=>rfl
   | some cs =>
    simp only
    by_cases hc:vv.isVal=true/\vv.cells.length=P.cellsOf t/\0<P.cellsOf t/\off+P.cellsOf t<=cs.length
    ·rw [iP hc]
     obtain ⟨h1,h2,h3,h4⟩:=hc
     simp only [h1,h2,h3,h4,true_and,stK]
    ·rw [iN hc]
     simp only [stK,eq_iff_iff,iff_false]
     intro hx
     exact hc ⟨hx.1,hx.2.1,hx.2.2.1,hx.2.2.2.1⟩
 | _=>rfl
def aY(x:Operand):IX P n h ops ⟨some d,.nilCheck x,ty,ps,af,none⟩ K (p::e) H=(d<n/\bnd (xl (Gy P none (p::e) x).borrow) d K (p::e) H):=by
 rw [F3 _ rfl]
 simp only [Fy,HN,Op.operands,GC,AT,Ag,Fb,put,Gf,xl]
 congr 1
 cases (Gy P none (p::e) x).borrow with
 | fn f a b=>cases f<;>rfl
 | _=>rfl
def ACB(op:UnOp)(t:TypeId)(x:Operand):IX P n h ops ⟨some d,.unOp op t x,ty,ps,af,none⟩ K (p::e) H=(d<n/\bnd (vUn op (Gy P none (p::e) x).borrow) d K (p::e) H):=by
 rw [F3 _ rfl]
 simp only [Fy,HN,Op.operands,GC,AT,Ag,Fb,put,Gf,vUn]
 congr 1
 cases op<;>cases (Gy P none (p::e) x).borrow<;>rfl
def XW(s f:Nat)(x:Operand):IX P n h ops ⟨some d,.fieldAddr s x f,ty,ps,af,none⟩ K (p::e) H=(d<n/\bnd (R6 P (fieldAt P s f) (Gy P none (p::e) x).borrow) d K (p::e) H):=by
 rw [F3 _ rfl]
 simp only [Fy,HN,Op.operands,GC,AT,Ag,Fb,put,Gf,R6,fieldAt]
 congr 1
 cases P.underlying s with
 | none=>rfl
 | some dd=>cases dd with
  | struct fs =>
   simp only
   cases fs[f]? with
   | none=>rfl
   | some fd =>
    simp only
    by_cases hc:0<P.cellsOf fd.type
    ·rw [iP hc]
     simp only [hc,true_and]
     cases (Gy P none (p::e) x).borrow<;>rfl
    ·rw [iN hc]
     simp only [hc,false_and,bnd]
  | _=>rfl
def wr(s f:Nat)(x:Operand):IX P n h ops ⟨some d,.field s x f,ty,ps,af,none⟩ K (p::e) H=(d<n/\bnd (X5 P (fieldAt P s f) (Gy P none (p::e) x).borrow) d K (p::e) H):=by
 rw [F3 _ rfl]
 simp only [Fy,HN,Op.operands,GC,AT,Ag,put,Gf,X5,fieldAt]
 congr 1
 generalize (Gy P none (p::e) x).borrow=a
 unfold Fb
 dsimp only
 cases hu:P.underlying s with
 | none=>cases a<;>simp [bnd,hu]
 | some dd=>cases dd with
  | struct fs =>
   dsimp only
   cases hf:fs[f]? with
   | none=>cases a<;>simp [bnd,hu,hf]
   | some fd=>cases a with
    | agg cs=>simp only [hu,hf];cases LZ P fd.type cs fd.offset<;>rfl
    | _=>simp [bnd]
  | _=>cases a<;>simp [bnd,hu]
def iJ(x:Operand)(i:Nat):IX P n h ops ⟨some d,.extract x i,ty,ps,af,none⟩ K (p::e) H=(d<n/\bnd (OE (Gy P none (p::e) x).borrow i) d K (p::e) H):=by
 rw [F3 _ rfl]
 simp only [Fy,HN,Op.operands,GC,AT,Ag,Fb,put,Gf,OE]
 congr 1
 cases (Gy P none (p::e) x).borrow with
 | tup vs=>simp only;cases vs[i]?<;>simp [bnd]
 | _=>rfl
def AE8(x:Operand)(t:TypeId):IX P n h ops ⟨some d,.call ⟨.builtin .len,#[x],#[t]⟩,ty,ps,af,none⟩ K (p::e) H=(d<n/\bnd (xm (P.underlying t) (Gy P none (p::e) x).borrow) d K (p::e) H):=by
 rw [F3 _ rfl]
 have e1:(#[]++#[x]:Array Operand).toList=[x]:=rfl
 simp only [Fy,HN,Op.operands,Call.operands,e1,GC,AT,Ag,Fb,put,Gf,xm]
 congr 1
 simp only [Bf,A8,Bc]
 cases P.underlying t with
 | none=>cases (Gy P none (p::e) x).borrow<;>rfl
 | some dd=>cases dd<;>cases (Gy P none (p::e) x).borrow<;>rfl
end
end Go.AI
namespace Go.AI
def Ie(P:Program)(op:BinOp)(t:TypeId)(a b:AV)(d:Tmp)(K:Kt)(e:Fp)(H:FN):Prop:=J9 P op t a b λv=>K ((d,v)::e) H
def ly(P:Program)(t:TypeId):Bool:=match P.underlying t with|some (.slice _)=>true|_=>false
def rL(P:Program)(op:BinOp)(t:TypeId)(a:AV)(d:Tmp)(K:Kt)(e:Fp)(H:FN):Prop:=NP P op t a λv=>K ((d,v)::e) H
def AEv(P:Program)(op:BinOp)(t:TypeId)(z:Bool)(a b:AV)(d:Tmp)(K:Kt)(e:Fp)(H:FN):Prop :=
 match z with
 | true=>rL P op t a d K e H
 | false=>Ie P op t a b d K e H
def Le(P:Program)(u:Option TypeDesc)(x:AV)(i:AV):Option AV :=
 match i with
 | .int _ i=>match u,x with
  | some (.slice e),.sl _ es=>if 0<=i then (es[i.toNat]?).bind λv=>if v.cells.length=P.cellsOf e/\0<P.cellsOf e then some (.cptr v.cells 0) else none else none
  | some (.slice e),.msl ob off len sz=>if 0<=i/\i<len/\sz=P.cellsOf e/\0<sz then some (.ptr ob (off+i.toNat*sz)) else none
  | some (.array n e),.ptr ob off=>if 0<=i/\i<n/\0<P.cellsOf e then some (.ptr ob (off+i.toNat*P.cellsOf e)) else none
  | some (.array n e),.cptr cs off=>if 0<=i/\i<n/\0<P.cellsOf e then some (.cptr cs (off+i.toNat*P.cellsOf e)) else none
  | _,_=>none
 | _=>none
def Ud(P:Program)(u:Option TypeDesc)(x:AV)(i:AV):Option AV :=
 match i with
 | .int _ i=>match u,x with
  | some .string,.str s=>if 0<=i/\i<s.size then some (.int .u8 ((s.data[i.toNat]?).getD 0).toNat) else none
  | some (.array n e),.agg cs=>if 0<=i/\i<n/\0<P.cellsOf e then LZ P e cs (i.toNat*P.cellsOf e) else none
  | _,_=>none
 | _=>none
def iF(P:Program)(el:TypeId)(mt ln:Bool)(H:FN)(a:AV)(xs:List AV)(d:Tmp)(K:Kt)(e:Fp):Prop:=Nl P el mt ln H a xs λv H'=>K ((d,v)::e) H'
def Aav(P:Program)(el:TypeId)(mt ln:Bool)(xs:Option (List AV))(a:AV)(d:Tmp)(K:Kt)(e:Fp)(H:FN):Prop :=
 match xs with
 | some xs=>iF P el mt ln H a xs d K e
 | none=>False
def ARy(P:Program)(mt tk ln:Bool)(t:TypeId)(vs:List AV)(d:Tmp)(K:Kt)(e:Fp)(H:FN):Prop :=
 match vs with
 | [a,b]=>match P.underlying t with
  | some (.slice el)=>0<P.cellsOf el/\Gg P el=true/\Aav P el mt ln (Sn P el (mt||tk) H b) a d K e H
  | _=>False
 | _=>False
def ACj(P:Program)(f:FuncId)(vs:List AV)(d:Option Tmp)(K:Kt)(e:Fp)(H:FN):Prop:=∃ v ext,FT P f vs H (λv2 H2=>v2=v/\H2=H++ext)/\K (put d v e) (H++ext)
def nz(P:Program)(f:FuncId)(vs:List AV)(d:Option Tmp)(K:Kt)(e:Fp)(H:FN):Prop:=∃ v,(O7 P f vs H v\/P5 P f vs H v)/\K (put d v e) H
def Nn(P:Program)(o:Nat)(L:Ec)(vs:List AV)(d:Option Tmp)(K:Kt)(e:Fp)(H:FN):Prop:=M3 P o L vs H λv H'=>K (put d v e) H'
def Nn.intro{P:Program}{o:Nat}{L:Ec}{vs:List AV}{d:Option Tmp}{K:Kt}{e:Fp}{H:FN}{R:AV->FN->Prop}(hc:M3 P o L vs H R)(hk : ∀ v H',R v H'->K (put d v e) H'):Nn P o L vs d K e H:=hc.mono hk
def AFx(P:Program)(pc mt:Bool)(vs:List AV)(d:Option Tmp)(K:Kt)(e:Fp)(H:FN):Prop :=
 match vs with
 | .fn (.func f) first captured::args=>match pc with
  | true=>match mt with
   | true=>nz P f (first.map AV.borrow++args++captured.map AV.borrow) d K e H
   | false=>WY P f (first.map AV.borrow++args++captured.map AV.borrow) d K e H
  | false=>match mt with
   | true=>ACj P f (first.map AV.borrow++args++captured.map AV.borrow) d K e H
   | false=>Fs P f (first.map AV.borrow++args++captured.map AV.borrow) d K e H
 | .yld o L::args=>(pc=false/\mt=false)/\Nn P o L args d K e H
 | _=>False
def R7(P:Program)(t:TypeId)(is:List Nat)(vs:List AV):Option AV :=
 match P.underlying t with
 | some (.struct fs)=>if My P fs=true then match Fg P t with
  | some (.agg z)=>(IA ((Il P fs)[·]?) z is vs).map .agg
  | _=>none
  else none
 | some (.array _ e)=>if (P.info? e).isSome=true then match Fg P t with
  | some (.agg z)=>(IA (λi=>some (i*P.cellsOf e,P.cellsOf e)) z is vs).map .agg
  | _=>none
  else none
 | _=>none
def AG6(P:Program)(mt:Bool)(t len:Nat)(is:List Nat)(vs:List AV)(d:Tmp)(K:Kt)(e:Fp)(H:FN):Prop :=
 match P.underlying t with
 | some (.slice el)=>0<P.cellsOf el/\len*P.cellsOf el<=16777216/\is=Am len/\(∀ v∈vs,v.isVal=true/\v.cells.length=P.cellsOf el)/\Gg P el=true /\
   match mt with
   | true=>K ((d,.msl H.length 0 len (P.cellsOf el))::e) (H++[some (HM (vs.map AV.borrow))])
   | false=>K ((d,.sl (some (P.cellsOf el)) (vs.map AV.borrow))::e) H
 | _=>False
def yF(P:Program)(mt:Bool)(t:TypeId)(bl bh bm:Bool)(vs:List AV)(d:Tmp)(K:Kt)(e:Fp)(H:FN):Prop :=
 match vs with
 | x::rest=>match Pb bl bh bm rest with
  | some (l,hh,m)=>match mt with
   | true=>J6 P t x l hh m H λv=>K ((d,v)::e) H
   | false=>Nj P t x l hh m λv=>K ((d,v)::e) H
  | none=>False
 | []=>False
def mmK(mn:Bool)(vs:List AV)(d:Tmp)(K:Kt)(e:Fp)(H:FN):Prop :=
 match vs with
 | [.int k a,.int k' b]=>k=k'/\K ((d,.int k (if mn then (if b<a then b else a) else (if b>a then b else a)))::e) H
 | _=>False
def AFv(P:Program)(su du:Option TypeDesc)(x:AV)(d:Tmp)(K:Kt)(e:Fp)(H:FN):Prop :=
 match su,du,x with
 | some _,some (.int k),.int _ m=>K ((d,.int k (k.wrap m))::e) H
 | some .string,some .string,.str s=>K ((d,.str s)::e) H
 | some (.slice el),some .string,.sl _ es=>P.underlying el=some (.int .u8)/\(∀ x∈es,Ob x=true)/\K ((d,.str (Pa es))::e) H
 | _,_,_=>False
def mkK(P:Program)(t:TypeId)(vs:List AV)(d:Tmp)(K:Kt)(e:Fp)(H:FN):Prop :=
 match vs with
 | [.int _ n,.int _ c]=>match P.underlying t with
  | some (.slice el)=>n=c/\0<=n/\n*P.bytesOf el<=140737488355328/\n<=9223372036854775807/\(P.info? el).isSome=true /\ ∃ z,Fg P el=some z/\z.cells.length=P.cellsOf el/\0<P.cellsOf el /\
    K ((d,.msl H.length 0 n.toNat (P.cellsOf el))::e) (H++[some (A5 n.toNat z.cells).flatten])
  | _=>False
 | _=>False
section
variable {P:Program} {n:Nat} {h:Eb} {ops:Array Oper} {K:Kt} {p:Tmp×AV} {e:Fp} {H:FN} {d:Tmp} {ty:TypeId} {ps:String} {af:Array Edge} {Q:Exit->Kt}
def wu(op:BinOp)(t t':TypeId)(x y:Operand):IX P n h ops ⟨some d,.binOp op t x y t',ty,ps,af,none⟩ K (p::e) H =
  (d<n/\AEv P op t (Kl y) (Gy P none (p::e) x).borrow (Gy P none (p::e) y).borrow d K (p::e) H):=by
 rw [F3 _ rfl]
 simp only [Fy,HN,Op.operands,GC,AT,Ag,Fb,put,Gf,AEv]
 cases Kl y<;>rfl
def ARx{op:BinOp}{t:TypeId}{a b:AV}:AEv P op t false a b d K e H=Ie P op t a b d K e H:=AH rfl rfl
def ARw{op:BinOp}{t:TypeId}{a b:AV}:AEv P op t true a b d K e H=rL P op t a d K e H:=AH rfl rfl
def dZ(t:Tmp):Kl (.tmp t)=false:=rfl
def dg(k:IntKind)(m:Int):Kl (.const (.int k m))=false:=rfl
def db(s:ByteArray):Kl (.const (.string s))=false:=rfl
def de:Kl (.const (.slice none 0 0))=true:=rfl
section
variable {t:TypeId}
def pH(hp:ly P t=true): ∃ e,P.underlying t=some (.slice e):=by
 unfold ly at hp
 split at hp
 ·exact ⟨_,‹_›⟩
 ·cases hp
def Zd{o:Option Nat}(hp:ly P t=true):rL P .eql t (.sl o []) d K e H=(K ((d,.bool true)::e) H/\K ((d,.bool false)::e) H):=by
 obtain ⟨el,hu⟩:=pH hp;simp [rL,NP,hu]
def W9{o:Option Nat}{x:AV}{xs:List AV}(hp:ly P t=true):rL P .eql t (.sl o (x::xs)) d K e H=K ((d,.bool false)::e) H:=by
 obtain ⟨el,hu⟩:=pH hp;simp [rL,NP,hu]
end
def ACM(t:TypeId)(k k':IntKind)(x y:Int):KB P t (.int k x) (.int k' y)=none:=by
 unfold KB;split<;>simp_all
def ACL(t:TypeId)(x y:ByteArray):KB P t (.str x) (.str y)=none:=by
 unfold KB;split<;>simp_all
def HI{op:BinOp}{t:TypeId}{k k':IntKind}{x y:Int}:Ie P op t (.int k x) (.int k' y) d K e H=KA op (.int k x) (.int k' y) λv=>K ((d,v)::e) H:=by
 unfold Ie J9
 rw [ACM]
 cases op<;>rfl
def Oy{op:BinOp}{t:TypeId}{x y:ByteArray}:Ie P op t (.str x) (.str y) d K e H=KA op (.str x) (.str y) λv=>K ((d,v)::e) H:=by
 unfold Ie J9
 rw [ACL]
 cases op<;>rfl
section
variable {t:TypeId} {k:IntKind} {x y:Int}
def AB1:Ie P .add t (.int k x) (.int k y) d K e H=K ((d,.int k (k.wrap (x+y)))::e) H:=by rw [HI];simp [KA]
def ABr:Ie P .sub t (.int k x) (.int k y) d K e H=K ((d,.int k (k.wrap (x - y)))::e) H:=by rw [HI];simp [KA]
def ABv:Ie P .mul t (.int k x) (.int k y) d K e H=K ((d,.int k (k.wrap (x*y)))::e) H:=by rw [HI];simp [KA]
def ABt:Ie P .quo t (.int k x) (.int k y) d K e H=(y≠0/\K ((d,.int k (k.wrap (x.tdiv y)))::e) H):=by rw [HI];simp [KA]
def ABs:Ie P .rem t (.int k x) (.int k y) d K e H=(y≠0/\K ((d,.int k (x.tmod y))::e) H):=by rw [HI];simp [KA]
def AB0:Ie P .eql t (.int k x) (.int k y) d K e H=K ((d,.bool (x==y))::e) H:=by rw [HI];simp [KA]
def ABu:Ie P .neq t (.int k x) (.int k y) d K e H=K ((d,.bool (x !=y))::e) H:=by rw [HI];simp [KA]
def ABw:Ie P .lss t (.int k x) (.int k y) d K e H=K ((d,.bool (decide (x<y)))::e) H:=by rw [HI];simp [KA]
def ABx:Ie P .leq t (.int k x) (.int k y) d K e H=K ((d,.bool (decide (x<=y)))::e) H:=by rw [HI];simp [KA]
def ABy:Ie P .gtr t (.int k x) (.int k y) d K e H=K ((d,.bool (decide (y<x)))::e) H:=by rw [HI];simp [KA]
def ABz:Ie P .geq t (.int k x) (.int k y) d K e H=K ((d,.bool (decide (y<=x)))::e) H:=by rw [HI];simp [KA]
end
def wW{t:TypeId}{x y:ByteArray}:Ie P .eql t (.str x) (.str y) d K e H=K ((d,.bool (x.toList==y.toList))::e) H:=by rw [Oy];simp [KA]
def wV{t:TypeId}{x y:ByteArray}:Ie P .neq t (.str x) (.str y) d K e H=K ((d,.bool !(x.toList==y.toList))::e) H:=by rw [Oy];simp [KA]
def Vf(P:Program)(t:TypeId):Bool:=match P.underlying t with|some .bool=>true|_=>false
def wZ{t:TypeId}{x y:Bool}(hp:Vf P t=true):Ie P .eql t (.bool x) (.bool y) d K e H=K ((d,.bool (x==y))::e) H:=by
 unfold Vf at hp
 split at hp
 ·rename_i hu;simp [Ie,J9,KB,hu]
 ·cases hp
def wY{t:TypeId}{x y:Bool}(hp:Vf P t=true):Ie P .neq t (.bool x) (.bool y) d K e H=K ((d,.bool !(x==y))::e) H:=by
 unfold Vf at hp
 split at hp
 ·rename_i hu;simp [Ie,J9,KB,hu]
 ·cases hp
def XV(t:TypeId)(x i:Operand):IX P n h ops ⟨some d,.indexAddr t x i,ty,ps,af,none⟩ K (p::e) H =
  (d<n/\bnd (Le P (P.underlying t) (Gy P none (p::e) x).borrow (Gy P none (p::e) i).borrow) d K (p::e) H):=by
 rw [F3 _ rfl]
 simp only [Fy,HN,Op.operands,GC,AT,Ag,put,Gf]
 congr 1
 generalize (Gy P none (p::e) x).borrow=a
 generalize (Gy P none (p::e) i).borrow=b
 unfold Fb
 dsimp only
 cases b with
 | int k i =>
  dsimp only [Le]
  cases hu:P.underlying t with
  | none=>rfl
  | some dd=>cases dd with
   | slice el=>cases a with
    | sl own es =>
     dsimp only
     by_cases h0:0<=i
     ·simp only [h0,true_and,if_true]
      cases hi:es[i.toNat]? with
      | none=>simp [bnd]
      | some v =>
       by_cases hc:v.cells.length=P.cellsOf el/\0<P.cellsOf el
       ·obtain ⟨h1,h2⟩:=hc
        simp only [Bc,h1,h2,and_self,if_true,bnd]
        simp [h1,h2]
       ·simp only [Bc,iN hc,bnd,eq_iff_iff,iff_false]
        rintro ⟨v',hv,h1,h2,_⟩
        cases hv
        exact hc ⟨h1,h2⟩
     ·simp [h0,bnd]
    | msl ob off len sz =>
     dsimp only
     by_cases hc:0<=i/\i<len/\sz=P.cellsOf el/\0<sz
     ·rw [iP hc];simp only [hc.1,hc.2.1,hc.2.2.1,hc.2.2.2,true_and,bnd]
      have:=hc.2.2.2
      rw [hc.2.2.1] at this
      simp [this]
     ·rw [iN hc];simp only [bnd,eq_iff_iff,iff_false]
      rintro ⟨h1,h2,h3,h4,_⟩
      exact hc ⟨h1,h2,h3,h4⟩
    | _=>rfl
   | array m el=>cases a with
    | ptr ob off =>
     dsimp only
     by_cases hc:0<=i/\i<m/\0<P.cellsOf el
     ·rw [iP hc];simp only [hc.1,hc.2.1,hc.2.2,true_and,bnd]
     ·rw [iN hc];simp only [bnd,eq_iff_iff,iff_false]
      rintro ⟨h1,h2,h3,_⟩
      exact hc ⟨h1,h2,h3⟩
    | cptr cs off =>
     dsimp only
     by_cases hc:0<=i/\i<m/\0<P.cellsOf el
     ·rw [iP hc];simp only [hc.1,hc.2.1,hc.2.2,true_and,bnd]
     ·rw [iN hc];simp only [bnd,eq_iff_iff,iff_false]
      rintro ⟨h1,h2,h3,_⟩
      exact hc ⟨h1,h2,h3⟩
    | _=>rfl
   | _=>cases a<;>rfl
 | _=>rfl
def wp(t:TypeId)(x i:Operand):IX P n h ops ⟨some d,.index t x i,ty,ps,af,none⟩ K (p::e) H =
  (d<n/\bnd (Ud P (P.underlying t) (Gy P none (p::e) x).borrow (Gy P none (p::e) i).borrow) d K (p::e) H):=by
 rw [F3 _ rfl]
 simp only [Fy,HN,Op.operands,GC,AT,Ag,put,Gf]
 congr 1
 generalize (Gy P none (p::e) x).borrow=a
 generalize (Gy P none (p::e) i).borrow=b
 unfold Fb
 dsimp only
 cases b with
 | int k i =>
  dsimp only [Ud]
  cases hu:P.underlying t with
  | none=>rfl
  | some dd=>cases dd with
   | string=>cases a with
    | str s =>
     dsimp only
     by_cases hc:0<=i/\i<s.size
     ·rw [iP hc];simp only [hc.1,hc.2,true_and,bnd]
     ·rw [iN hc];simp only [bnd,eq_iff_iff,iff_false]
      rintro ⟨h1,h2,_⟩
      exact hc ⟨h1,h2⟩
    | _=>rfl
   | array m el=>cases a with
    | agg cs =>
     dsimp only
     by_cases hc:0<=i/\i<m/\0<P.cellsOf el
     ·rw [iP hc];simp only [hc.1,hc.2.1,hc.2.2,true_and]
      cases LZ P el cs (i.toNat*P.cellsOf el)<;>simp [bnd]
     ·rw [iN hc];simp only [bnd,eq_iff_iff,iff_false]
      rintro ⟨h1,h2,h3,_⟩
      exact hc ⟨h1,h2,h3⟩
    | _=>rfl
   | _=>cases a<;>rfl
 | _=>rfl
def Gw(xs:Array Operand):((#[]:Array Operand)++xs).toList=xs.toList:=sm
def na(x y:Operand)(t:TypeId):IX P n h ops ⟨some d,.call ⟨.builtin .append,#[x,y],#[t,t]⟩,ty,ps,af,none⟩ K (p::e) H =
  (d<n/\ARy P (h.mt.contains d) (h.tk.contains d) (h.pc.contains d) t (JD P [x,y] (p::e)).1 d K (JD P [x,y] (p::e)).2 H):=by
 rw [F3 _ rfl]
 simp only [Fy,HN,Op.operands,Call.operands,Gw,M0,put,Gf]
 congr 1
 generalize hg:JD P [x,y] (p::e)=r
 unfold Fb ARy
 dsimp only
 generalize r.1=vs
 cases vs with
 | nil=>rfl
 | cons v vs=>cases vs with
  | nil=>rfl
  | cons v2 vs=>cases vs with
   | nil =>
    dsimp only
    rw [iP rfl]
    cases P.underlying t with
    | none=>rfl
    | some dd=>cases dd<;>rfl
   | cons v3 vs=>rfl
def wc(el:TypeId)(mt ln:Bool)(xs:List AV)(a:AV):Aav P el mt ln (some xs) a d K e H=iF P el mt ln H a xs d K e:=AH rfl rfl
def AEz(el:TypeId)(rd:Bool)(o:Option Nat)(xs:List AV):Sn P el rd H (.sl o xs)=some xs:=rfl
def iA{el:TypeId}{ob off len sz:Nat}{cs:List AV}(ho:H[ob]? =some (some cs))(h1:off+len*sz<=cs.length)(h2:sz=P.cellsOf el)(h3:Ri P el=true\/sz=1):Sn P el true H (.msl ob off len sz)=some (IV (Ri P el) sz len ((cs.drop off).map borrow1)):=by
 simp only [Sn,ho]
 rw [iP ⟨h1,h2,h3⟩]
def AE5(el:TypeId)(ln:Bool)(o:Option Nat)(es xs:List AV):iF P el false ln H (.sl o es) xs d K e=((∀ x∈xs,x.cells.length=P.cellsOf el)/\o=some (P.cellsOf el)/\(es.length+xs.length)*P.bytesOf el<=140737488355328/\es.length+xs.length<=9223372036854775807/\K ((d,.sl (bif ln then none else some (P.cellsOf el)) (es++xs))::e) H):=AH rfl rfl
def yN(o:Option (Option (List AV)))(F:List AV->Prop):Prop:=match o with
 | some (some cs)=>F cs
 | _=>False
def qc(cs:List AV)(F:List AV->Prop):yN (some (some cs)) F=F cs:=AH rfl rfl
def ACA(el:TypeId)(ln:Bool)(ob off len sz:Nat)(xs:List AV):iF P el true ln H (.msl ob off len sz) xs d K e=((∀ x∈xs,x.cells.length=P.cellsOf el)/\off=0/\sz=P.cellsOf el/\(len+xs.length)*P.bytesOf el<=140737488355328/\len+xs.length<=9223372036854775807 /\
  yN H[ob]? λcs=>cs.length=len*sz/\cs.map borrow1=cs/\K ((d,.msl H.length 0 (len+xs.length) (P.cellsOf el))::e) (H.set ob none++[some (cs++(HM xs).map borrow1)])):=by
 unfold iF Nl yN
 rfl
def wh(el:TypeId)(ln:Bool)(ob off len sz c:Nat)(xs:List AV):iF P el true ln H (.mslc ob off len sz c) xs d K e=((∀ x∈xs,x.cells.length=P.cellsOf el)/\off=0/\sz=P.cellsOf el/\(len+xs.length)*P.bytesOf el<=140737488355328/\len+xs.length<=9223372036854775807 /\
  yN H[ob]? λcs=>cs.length=len*sz/\cs.map borrow1=cs/\K ((d,.msl H.length 0 (len+xs.length) (P.cellsOf el))::e) (H.set ob none++[some (cs++(HM xs).map borrow1)])):=by
 unfold iF Nl yN
 rfl
def AB9(el:TypeId)(ln:Bool)(xs:List AV):iF P el true ln H (.sl (some 0) []) xs d K e=((∀ x∈xs,x.cells.length=P.cellsOf el)/\0<xs.length/\xs.length*P.bytesOf el<=140737488355328/\xs.length<=9223372036854775807/\K ((d,.msl H.length 0 xs.length (P.cellsOf el))::e) (H++[some ((HM xs).map borrow1)])):=AH rfl rfl
def ACI(f:Operand)(xs:Array Operand)(ts:Array TypeId)(dd:Option Tmp):IX P n h ops ⟨dd,.call ⟨.value f,xs,ts⟩,ty,ps,af,none⟩ K (p::e) H =
  (Gf n dd/\AFx P (dd.any h.pc.contains) (dd.any h.mt.contains) (JD P (f::xs.toList) (p::e)).1 dd K (JD P (f::xs.toList) (p::e)).2 H):=by
 rw [F3 _ rfl]
 have e1:(#[f]++xs:Array Operand).toList=f::xs.toList:=sm
 simp only [Fy,HN,Op.operands,Call.operands,e1,M0]
 congr 1
def aZ(fn:Fn)(xs ys:Array Operand):IX P n h ops ⟨some d,.makeFunc fn xs ys,ty,ps,af,none⟩ K (p::e) H =
  (d<n/\K ((d,.fn fn (xs.toList.map λx=>(Gy P none (p::e) x).borrow) (ys.toList.map λx=>(Gy P none (p::e) x).borrow))::p::e) H):=by
 rw [F3 _ rfl]
 simp only [Fy,HN,Op.operands,C5,GC,List.map_append,Fb,put,Gf]
 congr 3
 rw [show xs.size=(xs.toList.map λx=>(Gy P none (p::e) x).borrow).length by simp,List.take_left,List.drop_left]
def AA0{z:List AV}{f:List AV->Option (List AV)}:(∃ z' cs,some (AV.agg z)=some (AV.agg z')/\f z'=some cs/\K ((d,.agg cs)::e) H)=bnd ((f z).map .agg) d K e H:=by
 cases hf:f z<;>simp [bnd,hf]
def wt(t:TypeId)(qs:Array (Nat×Operand)):IX P n h ops ⟨some d,.build t qs,ty,ps,af,none⟩ K (p::e) H =
  (d<n/\bnd (R7 P t (qs.toList.map (·.1)) (JD P (qs.toList.map (·.2)) (p::e)).1) d K (JD P (qs.toList.map (·.2)) (p::e)).2 H):=by
 rw [F3 _ rfl]
 simp only [Fy,HN,Op.operands,M0,put,Gf]
 congr 1
 generalize hg:JD P (qs.toList.map (·.2)) (p::e)=r
 unfold Fb R7
 dsimp only
 cases P.underlying t with
 | none=>rfl
 | some dd=>cases dd with
  | struct fs =>
   dsimp only
   by_cases hf:My P fs=true
   ·simp only [hf,true_and,if_true]
    cases Fg P t with
    | none=>simp [bnd]
    | some z=>cases z with
     | agg z =>
      exact AA0
     | _=>simp [bnd]
   ·simp [hf,bnd]
  | array m el =>
   dsimp only
   by_cases hf:(P.info? el).isSome=true
   ·simp only [hf,true_and,if_true]
    cases Fg P t with
    | none=>simp [bnd]
    | some z=>cases z with
     | agg z =>
      exact AA0
     | _=>simp [bnd]
   ·simp [hf,bnd]
  | _=>rfl
def WI(t len:Nat)(qs:Array (Nat×Operand)):IX P n h ops ⟨some d,.buildSlice t len qs,ty,ps,af,none⟩ K (p::e) H =
  (d<n/\AG6 P (h.mt.contains d) t len (qs.toList.map (·.1)) (qs.toList.map λq=>(Gy P none (p::e) q.2).borrow) d K (p::e) H):=by
 rw [F3 _ rfl]
 simp only [Fy,HN,Op.operands,GC,put,Gf]
 congr 1
 unfold Fb AG6
 dsimp only
 rw [show ((qs.toList.map (·.2)).toArray.toList.map λx=>(Gy P none (p::e) x).borrow)=qs.toList.map λq=>(Gy P none (p::e) q.2).borrow by simp]
 cases P.underlying t with
 | none=>rfl
 | some dd=>cases dd<;>rfl
def wn(t:TypeId)(x:Operand)(lo hi mx:Option Operand):IX P n h ops ⟨some d,.slice t x lo hi mx,ty,ps,af,none⟩ K (p::e) H =
  (d<n/\yF P (h.mt.contains d) t lo.isSome hi.isSome mx.isSome (JD P (x::(lo.toList++hi.toList++mx.toList)) (p::e)).1 d K (JD P (x::(lo.toList++hi.toList++mx.toList)) (p::e)).2 H):=by
 rw [F3 _ rfl]
 have e1:(#[x]++lo.toArray++hi.toArray++mx.toArray:Array Operand).toList=x::(lo.toList++hi.toList++mx.toList):=by
  cases lo<;>cases hi<;>cases mx<;>simp
 simp only [Fy,HN,Op.operands,e1,M0,put,Gf]
 congr 1
def AE6(x y:Operand)(ts:Array TypeId):IX P n h ops ⟨some d,.call ⟨.builtin .min,#[x,y],ts⟩,ty,ps,af,none⟩ K (p::e) H =
  (d<n/\mmK true [(Gy P none (p::e) x).borrow,(Gy P none (p::e) y).borrow] d K (p::e) H):=by
 rw [F3 _ rfl]
 simp only [Fy,HN,Op.operands,Call.operands,Gw,GC,AT,Ag,put,Gf]
 congr 1
def AE7(x y:Operand)(ts:Array TypeId):IX P n h ops ⟨some d,.call ⟨.builtin .max,#[x,y],ts⟩,ty,ps,af,none⟩ K (p::e) H =
  (d<n/\mmK false [(Gy P none (p::e) x).borrow,(Gy P none (p::e) y).borrow] d K (p::e) H):=by
 rw [F3 _ rfl]
 simp only [Fy,HN,Op.operands,Call.operands,Gw,GC,AT,Ag,put,Gf]
 congr 1
def ADr(k:IntKind)(a b:Int):mmK true [.int k a,.int k b] d K e H=K ((d,.int k (if b<a then b else a))::e) H:=by simp [mmK]
def ADs(k:IntKind)(a b:Int):mmK false [.int k a,.int k b] d K e H=K ((d,.int k (if b>a then b else a))::e) H:=by simp [mmK]
def iK(s t:TypeId)(x:Operand):IX P n h ops ⟨some d,.convert s t x,ty,ps,af,none⟩ K (p::e) H =
  (d<n/\AFv P (P.underlying s) (P.underlying t) (Gy P none (p::e) x).borrow d K (p::e) H):=by
 rw [F3 _ rfl]
 simp only [Fy,HN,Op.operands,GC,AT,Ag,put,Gf]
 congr 1
def XU(t:TypeId)(x y:Operand):IX P n h ops ⟨some d,.makeSlice t x y,ty,ps,af,none⟩ K (p::e) H =
  (d<n/\mkK P t [(Gy P none (p::e) x).borrow,(Gy P none (p::e) y).borrow] d K (p::e) H):=by
 rw [F3 _ rfl]
 simp only [Fy,HN,Op.operands,GC,AT,Ag,put,Gf]
 congr 1
 unfold Fb mkK
 dsimp only
 cases (Gy P none (p::e) x).borrow<;>cases (Gy P none (p::e) y).borrow<;>rfl
def AR3(P:Program)(mt:Bool)(el:TypeId)(d:Tmp)(K:Kt)(e:Fp)(H:FN):Prop:=match mt with
 | true=>zW P el=true/\K ((d,.ptr H.length 0)::e) (H++[some [.sl (some 0) []]])
 | false => ∃ z,Fg P el=some z/\K ((d,.ptr H.length 0)::e) (H++[some z.cells])
def AR2(el:TypeId):AR3 P false el d K e H = ∃ z,Fg P el=some z/\K ((d,.ptr H.length 0)::e) (H++[some z.cells]):=AH rfl rfl
def AR1(el:TypeId):AR3 P true el d K e H=(zW P el=true/\K ((d,.ptr H.length 0)::e) (H++[some [.sl (some 0) []]])):=AH rfl rfl
def wv(el:TypeId):IX P n h ops ⟨some d,.alloc el,ty,ps,af,none⟩ K (p::e) H =
  (d<n/\AR3 P (h.mt.contains d) el d K (p::e) H):=by
 rw [F3 _ rfl]
 have e1:(#[]:Array Operand).toList=[]:=rfl
 simp only [Fy,HN,Op.operands,e1,GC,Ag,put,Gf]
 rfl
def AEW(P:Program)(t:TypeId)(x:AV)(K:Kt)(e:Fp)(H:FN):Prop :=
 match x with
 | .msl ob off len sz=>match P.underlying t with
  | some (.slice el)=>match H[ob]? with
   | some (some cs) => ∃ z,Fg P el=some z/\sz=z.cells.length/\0<len/\off+len*sz<=cs.length/\K e (H.set ob (some (splice cs off (GY z len))))
   | _=>False
  | _=>False
 | _=>False
def ws(x:Operand)(t:TypeId):IX P n h ops ⟨none,.call ⟨.builtin .clear,#[x],#[t]⟩,ty,ps,af,none⟩ K (p::e) H =
  AEW P t (Gy P none (p::e) x).borrow K (p::e) H:=by
 rw [F3 _ rfl]
 simp only [Fy,HN,Op.operands,Call.operands,Gw,GC,AT,Ag,put,Gf]
 rw [true_and]
 unfold Fb AEW
 dsimp only
 generalize (Gy P none (p::e) x).borrow=v
 cases v<;>rfl
def AEZ(P:Program)(t:TypeId)(x:AV)(d:Tmp)(K:Kt)(e:Fp)(H:FN):Prop :=
 match x with
 | .mslc _ _ _ _ c=>match P.underlying t with
  | some (.slice _)=>K ((d,.int .i64 c)::e) H
  | _=>False
 | _=>False
def AE9(x:Operand)(t:TypeId):IX P n h ops ⟨some d,.call ⟨.builtin .cap,#[x],#[t]⟩,ty,ps,af,none⟩ K (p::e) H =
  (d<n/\AEZ P t (Gy P none (p::e) x).borrow d K (p::e) H):=by
 rw [F3 _ rfl]
 simp only [Fy,HN,Op.operands,Call.operands,Gw,GC,AT,Ag,put,Gf]
 congr 1
 unfold Fb AEZ
 dsimp only
 generalize (Gy P none (p::e) x).borrow=v
 cases v<;>rfl
def AET(P:Program)(t:TypeId)(a b:AV)(d:Tmp)(K:Kt)(e:Fp)(H:FN):Prop:=TT P t a b H λv H'=>K ((d,v)::e) H'
def ACH(x y:Operand)(t t':TypeId):IX P n h ops ⟨some d,.call ⟨.builtin .copy,#[x,y],#[t,t']⟩,ty,ps,af,none⟩ K (p::e) H =
  (d<n/\AET P t (Gy P none (p::e) x).borrow (Gy P none (p::e) y).borrow d K (p::e) H):=by
 rw [F3 _ rfl]
 simp only [Fy,HN,Op.operands,Call.operands,Gw,GC,AT,Ag,put,Gf]
 congr 1
def AE4(P:Program)(t t':TypeId)(mt:Bool)(vs:List AV)(d:Tmp)(K:Kt)(e:Fp)(H:FN):Prop :=
 match vs with
 | [a,b]=>apz P t t' mt a b H λv H'=>K ((d,v)::e) H'
 | _=>False
def iL(x y:Operand)(t t':TypeId)(hn:(t==t')=false):IX P n h ops ⟨some d,.call ⟨.builtin .append,#[x,y],#[t,t']⟩,ty,ps,af,none⟩ K (p::e) H =
  (d<n/\AE4 P t t' (h.mt.contains d) (JD P [x,y] (p::e)).1 d K (JD P [x,y] (p::e)).2 H):=by
 rw [F3 _ rfl]
 simp only [Fy,HN,Op.operands,Call.operands,Gw,M0,put,Gf]
 congr 1
 generalize hg:JD P [x,y] (p::e)=r
 unfold Fb AE4
 dsimp only
 generalize r.1=vs
 cases vs with
 | nil=>rfl
 | cons v vs=>cases vs with
  | nil=>rfl
  | cons v2 vs=>cases vs with
   | nil =>
    dsimp only
    rw [iN (by simpa using hn)]
    rfl
   | cons v3 vs=>rfl
def xK{f:FuncId}{vs:List AV}{dd:Option Tmp}{v:AV}(hc:P5 P f vs H v)(hk:K (put dd v e) H):nz P f vs dd K e H:=⟨v,.inr hc,hk⟩
def ABF {t el:TypeId} {a b:AV} {ob off len sz m:Nat} {gr:Bool} {cs X:List AV} (hu:P.underlying t=some (.slice el)) (hrow:mX a=some (ob,off,len,sz,gr)) (hm:yG b=some m) (ho:H[ob]? =some (some cs)) (h1:sz=P.cellsOf el)
  (h2:(P.info? el).isSome=true) (h3:cs.map borrow1=cs) (h4:off<=cs.length) (h5:gr=true\/off+Nat.min m len*sz<=cs.length) (hs:gE P el H (Nat.min m len) b=some X)
  (hk:K ((d,.int .i64 (Nat.min m len:Nat))::e) (H.set ob (some (cs.take off++X.map borrow1++cs.drop (off+Nat.min m len*sz))))):AET P t a b d K e H:=by
 unfold AET TT
 simp only [hu,hrow,hm,ho,hs]
 exact ⟨⟨h1,h2,h3,h4,h5⟩,hk⟩
end
end Go.AI
namespace Go.AI
attribute [go_sem] Option.getD_some Option.getD_none true_and and_true false_and and_false
 dT dF Au List.any_nil Bool.or_false Bool.or_true Bool.true_or BL Bn Bz Bool.and_false Bool.false_and Ar Av
 List.contains_cons List.contains_nil cond_true cond_false List.nil_append AG AC AT Ag Bool.or_self Bool.and_self Bf List.getElem?_cons_succ A8
 Bc Option.bind_none BU Option.map_none Option.some.injEq List.set_cons_zero List.set_cons_succ List.cons_append List.append_assoc C9 Option.any_none
 Ah Int.toNat_natCast CO List.take_zero DA BN BH List.flatMap_nil beq_iff_eq bne_iff_ne ne_eq not_true_eq_false not_false_eq_true
 List.getElem?_nil Option.isSome_some Option.isSome_none Option.toList_some Option.toList_none if_true if_false Bw AX BC
 Nat.mul_zero Nat.mul_one DT Bt GM
def JC(P:Program)(t:TypeId):Option (Option Nat) :=
 match P.underlying t with
 | some (.struct _)=>some (some (P.cellsOf t))
 | some (.array _ _)=>some (some (P.cellsOf t))
 | some _=>some none
 | none=>none
def ldx(k:Option (Option Nat))(cs:List AV)(off:Nat):Option AV :=
 match k with
 | some (some n)=>if off+n<=cs.length then some (.agg ((cs.drop off).take n)) else none
 | some none=>cs[off]?
 | none=>none
def FU(P:Program)(s f:Nat):Option (TypeId×Nat):=(fieldAt P s f).map λfd=>(fd.type,fd.offset)
def mM(P:Program)(fp:Option (TypeId×Nat))(x:AV):Option AV :=
 match fp with
 | some (t,o)=>if 0<P.cellsOf t then qL x o else none
 | none=>none
def mL(P:Program)(fp:Option (TypeId×Nat))(x:AV):Option AV :=
 match fp,x with
 | some (t,o),.agg cs=>ldx (JC P t) cs o
 | _,_=>none
inductive BK where
 | none
 | struct (ps:List (Nat×Nat))
 | array (c:Nat)
def KF(P:Program)(t:TypeId):BK :=
 match P.underlying t with
 | some (.struct fs)=>if My P fs=true then .struct (Il P fs).toList else .none
 | some (.array _ e)=>if (P.info? e).isSome=true then .array (P.cellsOf e) else .none
 | _ => .none
def vb(k:BK)(z:Option AV)(is:List Nat)(vs:List AV):Option AV :=
 match k,z with
 | .struct ps,some (.agg z)=>(IA (λi=>ps[i]?) z is vs).map .agg
 | .array c,some (.agg z)=>(IA (λi=>some (i*c,c)) z is vs).map .agg
 | _,_=>Option.none
section
variable {P:Program}
def zn(t:TypeId)(cs:List AV)(off:Nat):LZ P t cs off=ldx (JC P t) cs off:=by
 unfold LZ ldx JC
 cases P.underlying t with
 | none=>rfl
 | some d=>cases d<;>rfl
def ADu(cs:List AV)(off:Nat):ldx (some none) cs off=cs[off]?:=rfl
def zm(n:Nat)(cs:List AV)(off:Nat):ldx (some (some n)) cs off=if off+n<=cs.length then some (.agg ((cs.drop off).take n)) else none:=rfl
def qN(s f:Nat)(x:AV):R6 P (fieldAt P s f) x=mM P (FU P s f) x:=by
 unfold R6 mM FU
 cases fieldAt P s f<;>rfl
def fX(t o:Nat)(x:AV):mM P (some (t,o)) x=if 0<P.cellsOf t then qL x o else none:=rfl
def xi(s f:Nat)(x:AV):X5 P (fieldAt P s f) x=mL P (FU P s f) x:=by
 unfold X5 mL FU
 cases fieldAt P s f with
 | none=>rfl
 | some fd=>cases x<;>first|rfl|exact zn _ _ _
def fV(t o:Nat)(cs:List AV):mL P (some (t,o)) (.agg cs)=ldx (JC P t) cs o:=rfl
def xk(a b k:Nat):qL (.ptr a b) k=some (.ptr a (b+k)):=rfl
def qK(cs:List AV)(b k:Nat):qL (.cptr cs b) k=some (.cptr cs (b+k)):=rfl
def qO(t:TypeId)(is:List Nat)(vs:List AV):R7 P t is vs=vb (KF P t) (Fg P t) is vs:=by
 unfold R7 KF
 cases P.underlying t with
 | none=>rfl
 | some d=>cases d with
  | struct fs =>
   dsimp only
   by_cases hf:My P fs=true
   ·rw [iP hf,iP hf]
    cases Fg P t with
    | none=>rfl
    | some z=>cases z<;>first|rfl|(dsimp only [vb];simp only [Ad])
   ·rw [iN hf,iN hf];rfl
  | array m e =>
   dsimp only
   by_cases hf:(P.info? e).isSome=true
   ·rw [iP hf,iP hf]
    cases Fg P t with
    | none=>rfl
    | some z=>cases z<;>rfl
   ·rw [iN hf,iN hf];rfl
  | _=>rfl
def qI(ps:List (Nat×Nat))(z:List AV)(is:List Nat)(vs:List AV):vb (.struct ps) (some (.agg z)) is vs=(IA (λi=>ps[i]?) z is vs).map .agg:=rfl
def xf(c:Nat)(z:List AV)(is:List Nat)(vs:List AV):vb (.array c) (some (.agg z)) is vs=(IA (λi=>some (i*c,c)) z is vs).map .agg:=rfl
def mO(place:Nat->Option (Nat×Nat))(cells:List AV):IA place cells [] []=some cells:=rfl
def fh(place:Nat->Option (Nat×Nat))(cells:List AV)(i:Nat)(is:List Nat)(v:AV)(vs:List AV):IA place cells (i::is) (v::vs)=match place i with
  | some (off,size)=>if v.isVal=true/\v.cells.length=size/\off+size<=cells.length then IA place (splice cells off v.cells) is vs else none
  | none=>none:=rfl
def cE(a:AV)(cs:List AV)(o:Nat)(xs:List AV):splice (a::cs) (o+1) xs=a::splice cs o xs:=by
 unfold splice
 rw [Nat.add_right_comm,CO,DA]
 rfl
def cF{cs xs:List AV}(h:cs.length=xs.length):splice cs 0 xs=xs:=by
 unfold splice
 rw [AX,<- h,DB]
 simp
def Hl(cs xs:List AV):List AV:=splice cs 0 xs
def cD{cs xs:List AV}:splice cs 0 xs=if cs.length=xs.length then xs else Hl cs xs:=by
 by_cases h:cs.length=xs.length
 ·rw [iP h,cF h]
 ·rw [iN h];rfl
def qM{P:Program}{H:FN}(tk:Bool)(t:TypeId)(ob off:Nat):X6 P tk t (.ptr ob off) H=match H[ob]? with
  | some (some cs)=>match LZ P t cs off with
   | some v=>match tk with
    | true=>if v.owned=true/\v.scalar=true then some (v,H.set ob (some (splice cs off (v.cells.map borrow1)))) else none
    | false=>some (v.borrow,H)
   | none=>none
  | _=>none:=rfl
def kC{P:Program}{H:FN}(tk:Bool)(t:TypeId)(cs:List AV)(off:Nat):X6 P tk t (.cptr cs off) H=match LZ P t cs off with
  | some v=>some (v.borrow,H)
  | none=>none:=rfl
def kA{P:Program}{H:FN}(t:TypeId)(ob off:Nat)(v:AV):Uc P t (.ptr ob off) v H=match H[ob]? with
  | some (some cs)=>if v.isVal=true/\v.cells.length=P.cellsOf t/\0<P.cellsOf t/\off+P.cellsOf t<=cs.length then some (H.set ob (some (splice cs off v.cells))) else none
  | _=>none:=rfl
attribute [go_sem] stK xl xh OE xm vUn Le Ud Pb AFv mkK oR ARy AG6 yF Nj J6 AFx
end
end Go.AI
namespace Go.AI
section
variable {P:Program} {F:Nat->Prop} {G:Gh} {w:World}
def FT.gc {f:FuncId} {vs:List AV} {H:FN} {R:AV->FN->Prop} (hn : ∀ v H1,R v H1->H.length<=H1.length)
  (h:FT P f vs H λv H' => ∃ H1 junk,H'=H1++junk/\v.bnd H1.length=true/\Rb H1/\R v H1):FT P f vs H R :=
 ⟨h.1,λF G w us hc=>Calls.mono (h.2 F G w us hc) λe w' he=>by
  obtain ⟨u,rfl,v,H',G',⟨H1,junk,rfl,h1,h2,h3⟩,hcr,hext⟩:=he
  refine ⟨u,rfl,v,H1,G'.cut H1.length,h3,hcr.cut h1 h2,hext.size,⟨λo b ho=>?_,hext.keeps.shape,hext.keeps.sp,hext.keeps.safe⟩,hext.kind,hext.cells,hext.io⟩
  have hlt:o<H.length:=by rw [<- hc.h.len];exact (AD.1 ho).1
  have:=hn v H1 h3
  show (G'.obs.take H1.length)[o]? =some b
  rw [Bu FM]
  exact hext.keeps.obs o b ho⟩
def CRel.lend{vs:List AV}{H:FN}{us:List Value}(h:Ea F G vs H us w):Ea F G (vs.map AV.borrow) H us w:=by
 refine ⟨⟨by simpa using h.l.len,λi a u h1 h2=>?_,λi a u h1 h2=>?_⟩,h.h,λb=>?_⟩
 ·rw [Ac] at h1
  cases hi:vs[i]? with
  | none=>rw [hi] at h1;cases h1
  | some x=>rw [hi] at h1;cases h1;exact (h.l.rel i x u hi h2).borrow
 ·rw [Ac] at h1
  cases hi:vs[i]? with
  | none=>rw [hi] at h1;cases h1
  | some x=>rw [hi] at h1;cases h1;exact Fd (GZ _ _) F G w
 ·have h0:G7 b (vs.map AV.borrow) us=0:=by
   have : ∀ (l:List AV) (us:List Value),G7 b (l.map AV.borrow) us=0:=by
    intro l
    induction l with
    | nil=>intro us;exact GN b us
    | cons x xs ih =>
     intro us
     cases us with
     | nil=>simp [G7]
     | cons u us=>rw [AT,FW,GZ,ih];rfl
   exact this vs us
  have:=h.cnt b
  omega
def FT.lend{f:FuncId}{vs:List AV}{H:FN}{R:AV->FN->Prop}(h:FT P f (vs.map AV.borrow) H R):FT P f vs H R :=
 ⟨h.1,λF G w us hc=>h.2 F G w us hc.lend⟩
def KG.lend{f:FuncId}{vs:List AV}{Q:AV->Prop}(h:KG P f (vs.map AV.borrow) Q):KG P f vs Q:=λH=>(h H).lend
def FO.lend{f:FuncId}{vs:List AV}{v:AV}(h:FO P f (vs.map AV.borrow) v):FO P f vs v:=λH=>(h H).lend
end
end Go.AI
namespace Go.AI
inductive Rd (P:Program):TypeId->AV->Prop where
 | bool {t:TypeId} (b:Bool) (h:P.underlying t=some .bool):Rd P t (.bool b)
 | int {t:TypeId} {k:IntKind} {n:Int} (h:P.underlying t=some (.int k)) (hw:k.min<=n/\n<=k.max):Rd P t (.int k n)
 | str {t:TypeId} {s:ByteArray} (h:P.underlying t=some .string) (hs:s.size<=reachBytes):Rd P t (.str s)
 | slice {t e:TypeId} {es:List AV} (h:P.underlying t=some (.slice e)) (hl:es.length<=maxLen) (hb:es.length*P.bytesOf e<=reachBytes) (he : ∀ x∈es,Rd P e x):Rd P t (.sl none es)
 | struct {t:TypeId} {fs:Array Field} {parts:List AV} (h:P.underlying t=some (.struct fs)) (hl:parts.length=fs.size)
   (hp : ∀ (i:Nat) (f:Field) (x:AV),fs[i]? =some f->parts[i]? =some x->Rd P f.type x):Rd P t (.agg (HM parts))
 | array {t e:TypeId} {n:Nat} {parts:List AV} (h:P.underlying t=some (.array n e)) (hl:parts.length=n) (hp : ∀ x∈parts,Rd P e x):Rd P t (.agg (HM parts))
def Jn(P:Program):Nat->List Field->Nat->Bool
 | off,[],total=>off==total
 | off,f::fs,total=>f.offset==off&&Jn P (off+P.cellsOf f.type) fs total
def xq(P:Program)(S:List TypeId):Bool:=S.all λt=>match P.underlying t with
 | some .bool|some (.int _)|some .string=>P.cellsOf t==1
 | some (.slice e)=>P.cellsOf t==1&&S.contains e&&decide (0<P.cellsOf e)
 | some (.struct fs)=>Jn P 0 fs.toList (P.cellsOf t)&&fs.toList.all λf=>S.contains f.type
 | some (.array n e)=>S.contains e&&P.cellsOf t==n*P.cellsOf e
 | _=>false
mutual
def AV.bulk:AV->Nat
 | .str s=>s.size+1
 | .sl _ es=>1+FP es
 | .agg cs=>FP cs
 | .tup cs=>FP cs
 | _=>1
def FP:List AV->Nat
 | []=>0
 | a::l=>a.bulk+FP l
end
structure BulkOk {H:Type} (μ:DataW H->Nat):Prop where
 one : ∀ d,1<=μ d
 str : ∀ s:List UInt8,s.length+1<=μ (.lit (.string s))
 sl : ∀ es sp,1+(es.map μ).sum<=μ (.slice es sp)
 agg : ∀ ps,(ps.map μ).sum<=μ (.agg ps)
def Nd(l l':List AV):FP (l++l')=FP l+FP l':=by
 induction l with
 | nil=>simp [FP]
 | cons a l ih=>simp [FP,ih];omega
def gW(a:AV):FP a.cells=a.bulk:=by
 cases a<;>simp [AV.cells,FP,AV.bulk]
def Ys(es:List AV):FP (HM es)=FP es:=by
 induction es with
 | nil=>rfl
 | cons e es ih =>
  have:HM (e::es)=e.cells++HM es:=by simp [HM]
  rw [this,Nd,gW,ih];rfl
def WA{D:Type}{μ:D->Nat}: ∀ {es:List AV} {ds:List D},es.length=ds.length->(∀ (i:Nat) (x:AV) (d:D),es[i]? =some x->ds[i]? =some d->x.bulk<=μ d)->FP es<=(ds.map μ).sum
 | [],_,_,_=>by simp [FP]
 | e::es,[],h,_=>by simp at h
 | e::es,d::ds,hl,h=>by
  have h0:=h 0 e d rfl rfl
  have h1:=WA (es:=es) (ds:=ds) (by simpa using hl) λi x y hx hy=>h (i+1) x y (by simpa using hx) (by simpa using hy)
  simp only [FP,AT,B2]
  omega
structure FitL (G:Gh) (w:World) (as:List AV) (cs:List Value):Prop where
 len:as.length=cs.length
 sc : ∀ c∈as,c.scalar=true/\GB c=false
 rel : ∀ (i:Nat) (c:AV) (v:Value),as[i]? =some c->cs[i]? =some v->EZ G w c v
section
variable {P:Program} {G:Gh} {w:World}
def FitL.nil:FitL G w [] []:=⟨rfl,λc hc=>by simp at hc,λi c v h=>by simp at h⟩
def FitL.append{as bs:List AV}{cs ds:List Value}(h:FitL G w as cs)(h':FitL G w bs ds):FitL G w (as++bs) (cs++ds):=by
 refine ⟨by simp [h.len,h'.len],λc hc=>?_,λi c v h1 h2=>?_⟩
 ·rcases Ay.1 hc with hc|hc
  ·exact h.sc c hc
  ·exact h'.sc c hc
 ·have:=h.len
  by_cases hi:i<as.length
  ·rw [AW hi] at h1
   rw [AW FM] at h2
   exact h.rel i c v h1 h2
  ·rw [AM FM] at h1
   rw [AM FM] at h2
   exact h'.rel (i - as.length) c v h1 (by rw [h.len];exact h2)
def FitL.one{c:AV}{v:Value}(hs:c.scalar=true)(ho:GB c=false)(h:EZ G w c v):FitL G w [c] [v]:=by
 refine ⟨rfl,λd hd=>by simp at hd;subst hd;exact ⟨hs,ho⟩,λi d u h1 h2=>?_⟩
 cases i with
 | zero=>simp at h1 h2;subst h1;subst h2;exact h
 | succ i=>simp at h1
def Ok{α:Type}{p:Nat->α->Prop}: ∀ (n:Nat),(∀ i,i<n -> ∃ x,p i x) -> ∃ l:List α,l.length=n /\ ∀ (i:Nat) (x:α),l[i]? =some x->p i x
 | 0,_=>⟨[],rfl,λi x h=>by simp at h⟩
 | n+1,h=>by
  obtain ⟨l,h1,h2⟩:=Ok n λi hi=>h i FM
  obtain ⟨x,hx⟩:=h n FM
  refine ⟨l++[x],by simp [h1],λi y hy=>?_⟩
  by_cases hi:i<l.length
  ·rw [AW hi] at hy;exact h2 i y hy
  ·rw [AM FM] at hy
   have h0:i - l.length=0:=by
    have:=(AD.1 hy).1
    simp at this;omega
   rw [h0] at hy
   simp at hy
   have:i=n:=FM
   subst this;subst hy;exact hx
def AEY{es:List AV}{n i:Nat}{c:AV}(hn : ∀ e∈es,e.cells.length=n)(h:(HM es)[i]? =some c): ∃ (k j:Nat) (x:AV),i=k*n+j/\j<n/\es[k]? =some x/\x.cells[j]? =some c:=by
 induction es generalizing i with
 | nil=>simp [HM] at h
 | cons e es ih =>
  simp only [HM,BH] at h
  have he:=hn e sm
  by_cases hi:i<n
  ·rw [AW FM] at h
   exact ⟨0,i,e,FM,hi,rfl,h⟩
  ·rw [AM FM,he] at h
   obtain ⟨k,j,x,h1,h2,h3,h4⟩:=ih (λe he=>hn e (by simp [he])) h
   exact ⟨k+1,j,x,by rw [A2];omega,h2,by simpa using h3,h4⟩
section
variable {H:Type} {enc:TypeId×Value->H} {base:Nat} {held:Bool}
def Ld{e:TypeId}: ∀ {ds:List (DataW H)} {d:DataW H},d∈ds -> ∀ m∈d.weights P e,m∈DataW.weightsAll P e ds
 | x::ds,d,hd,m,hm=>by
  simp only [DataW.weightsAll,Ay]
  rcases AZ.1 hd with rfl|hd
  ·exact .inl hm
  ·exact .inr (Ld hd m hm)
def YC{a:Addr}{v:Value}(h:w.cell? a=some v):a.spot=none:=by
 unfold World.cell? at h
 split at h
 ·split at h
  ·cases h
  ·rename_i hs;simpa using hs
 ·cases h
def fit_fields {S:List TypeId} {rec:TypeId->List Value->Option (DataW H×List MemPlace)} {cs:List Value}
  (hrec : ∀ t cs d ps,t∈S->rec t cs=some (d,ps)->(∀ m∈d.weights P t,m<=reachBytes) -> ∃ a,Rd P t a/\FitL G w a.cells cs /\ ∀ μ:DataW H->Nat,BulkOk μ->a.bulk<=μ d) :
  ∀ (fs:List Field) (off:Nat) (xs:List (DataW H×List MemPlace)),Jn P off fs cs.length=true->(∀ f∈fs,f.type∈S)->off<=cs.length ->
   fs.mapM (λf=>rec f.type ((cs.drop f.offset).take (P.cellsOf f.type)))=some xs->(∀ m∈DataW.weightsEach P (fs.map (·.type)) (xs.map (·.1)),m<=reachBytes) ->
   ∃ parts,parts.length=fs.length/\(∀ (i:Nat) (f:Field) (x:AV),fs[i]? =some f->parts[i]? =some x->Rd P f.type x)/\FitL G w (HM parts) (cs.drop off) /\ ∀ μ:DataW H->Nat,BulkOk μ->FP parts<=((xs.map (·.1)).map μ).sum
 | [],off,xs,hf,_,hle,hm,_=>by
  simp only [Jn,beq_iff_eq] at hf
  subst hf
  exact ⟨[],rfl,λi f x h=>by simp at h,by simpa [HM] using FitL.nil,fun μ _=>by simp [FP]⟩
 | f::fs,off,xs,hf,hS,hle,hm,hw=>by
  simp only [Jn,AR,beq_iff_eq] at hf
  obtain ⟨hoff,hf⟩:=hf
  subst hoff
  simp only [Cz,Option.bind_eq_bind] at hm
  cases h1:rec f.type ((cs.drop f.offset).take (P.cellsOf f.type)) with
  | none=>rw [h1] at hm;simp at hm
  | some x =>
   rw [h1] at hm
   simp only [Bc] at hm
   cases h2:fs.mapM (λf=>rec f.type ((cs.drop f.offset).take (P.cellsOf f.type))) with
   | none=>rw [h2] at hm;simp at hm
   | some ys =>
    rw [h2] at hm
    simp only [Bc] at hm
    cases hm
    simp only [AT,DataW.weightsEach,Ay] at hw
    have hle' : ∀ (fs:List Field) (o:Nat),Jn P o fs cs.length=true->o<=cs.length:=by
     intro fs
     induction fs with
     | nil=>intro o h;simp only [Jn,beq_iff_eq] at h;omega
     | cons g gs ih=>intro o h;simp only [Jn,AR,beq_iff_eq] at h;have:=ih _ h.2;omega
    have hle2:=hle' fs _ hf
    obtain ⟨a,ha,hfa,hba⟩:=hrec _ _ x.1 x.2 (hS f sm) h1 λm hm=>hw m (.inl hm)
    obtain ⟨parts,p1,p2,p3,p4⟩:=fit_fields hrec fs (f.offset+P.cellsOf f.type) ys hf (λg hg=>hS g (by simp [hg])) hle2 h2 λm hm=>hw m (.inr hm)
    refine ⟨a::parts,by simp [p1],λi g y hg hy=>?_, ?_,fun μ hμ=>?_⟩
    ·cases i with
     | zero=>simp at hg hy;subst hg;subst hy;exact ha
     | succ i=>exact p2 i g y (by simpa using hg) (by simpa using hy)
    ·have e:cs.drop f.offset=(cs.drop f.offset).take (P.cellsOf f.type)++cs.drop (f.offset+P.cellsOf f.type):=by
      rw [<- A9,A7]
     rw [e]
     simp only [HM,BH]
     exact hfa.append p3
    ·have h1:=hba μ hμ
     have h2:=p4 μ hμ
     simp only [FP,AT,B2]
     omega
def vd{n:Nat}{parts:List AV}{cs:List Value}(hp : ∀ (i:Nat) (x:AV),parts[i]? =some x->FitL G w x.cells ((cs.drop (i*n)).take n))(hc:cs.length=parts.length*n):FitL G w (HM parts) cs:=by
 induction parts generalizing cs with
 | nil=>simp at hc;subst hc;simpa [HM] using FitL.nil
 | cons x xs ih =>
  have h0:=hp 0 x rfl
  simp only [Bt,BN] at h0
  have h1:=ih (cs:=cs.drop n) (λi y hy=>by
   have:=hp (i+1) y (by simpa using hy)
   rw [A9]
   rw [A2,DT,Nat.add_comm] at this
   exact this) (by simp at hc ⊢;rw [A2] at hc;omega)
  have:=h0.append h1
  rw [A7] at this
  simpa [HM] using this
def Uq{S:List TypeId}(hS:xq P S=true)(hG : ∀ b,G.kind b = .imm): ∀ (fuel:Nat) (t:TypeId) (cs:List Value) (d:DataW H) (ps:List MemPlace),t∈S ->
  DataW.trod enc P w base (λ_=>true) held fuel t cs=some (d,ps)->(∀ m∈d.weights P t,m<=reachBytes) -> ∃ a,Rd P t a/\FitL G w a.cells cs /\ ∀ μ:DataW H->Nat,BulkOk μ->a.bulk<=μ d
 | 0,t,cs,d,ps,_,h,_=>by simp [DataW.trod] at h
 | fuel+1,t,cs,d,ps,ht,h,hw=>by
  have ih:=Uq hS hG fuel
  have hst:=Ao.1 hS t ht
  unfold DataW.trod at h
  cases hu:P.underlying t with
  | none=>rw [hu] at hst;cases hst
  | some dd =>
   rw [hu] at hst h
   cases dd<;>try (cases hst;done)
   case bool =>
    dsimp only at h
    split at h
    case h_1=>rename_i b hd;exact ⟨.bool b,.bool b hu,.one rfl rfl (.bool b),fun μ hμ=>hμ.one _⟩
    all_goals first|(simp at *;done)|(rename_i heq _;cases heq)
   case int k =>
    dsimp only at h
    split at h
    case h_2 =>
     rename_i k1 k2 n hd
     cases hd
     split at h
     ·rename_i hk
      obtain ⟨rfl,hk⟩:=hk
      simp only [Lit.wf,AR,decide_eq_true_eq] at hk
      exact ⟨.int k2 n,.int hu hk,.one rfl rfl (.int _ _),fun μ hμ=>hμ.one _⟩
     ·cases h
    all_goals first|(simp at *;done)|(rename_i heq _;cases heq)
   case string =>
    dsimp only at h
    split at h
    case h_4 =>
     rename_i s hd
     split at h
     ·cases h
      simp only [DataW.weights,Al,forall_eq] at hw
      exact ⟨.str s,.str hu (by simpa using hw),.one rfl rfl (.str s),fun μ hμ=>by have:=hμ.str s.data.toList;simpa [AV.bulk] using this⟩
     ·cases h
    all_goals first|(simp at *;done)|(rename_i heq _;cases heq)
   case slice e =>
    simp only [AR,beq_iff_eq,De,decide_eq_true_eq] at hst
    obtain ⟨⟨_,he⟩,hpos⟩:=hst
    dsimp only at h
    split at h
    case h_7=>exact ⟨.sl none [],.slice hu sm sm  (λx hx=>by simp at hx),.one rfl rfl (.slnil _),fun μ hμ=>by have:=hμ.one d;simpa [AV.bulk,FP] using this⟩
    case h_8 =>
     rename_i e' a len cap hd
     cases hd
     split at h
     case isFalse=>cases h
     rename_i hcond
     cases hm:(Am len).mapM λi=>(w.cells? base (a.add (i*P.cellsOf e)) (P.cellsOf e)).bind (DataW.trod enc P w base (λ_=>true) held fuel e) with
     | none=>rw [hm] at h;simp at h
     | some elems =>
      rw [hm] at h
      simp only [Bc,if_true] at h
      cases hr:(Am (cap - len)).mapM λj=>(w.cells? base (a.add ((len+j)*P.cellsOf e)) (P.cellsOf e)).bind (DataW.trod enc P w base (λ_=>true) held fuel e) with
      | none=>rw [hr] at h;simp at h
      | some rest =>
       rw [hr] at h
       simp only [BU,Option.some.injEq,Prod.mk.injEq] at h
       obtain ⟨rfl,_⟩:=h
       simp only [DataW.weights,hu,AZ,Ay,List.length_map] at hw
       have hel:=mapM_some_length hm
       simp only [DC] at hel
       have hb:(elems.length+rest.length)*P.bytesOf e<=reachBytes:=hw _ (.inl rfl)
       have hb2:len*P.bytesOf e<=reachBytes:=AK (Nat.mul_le_mul_right _ FM) hb
       have hat : ∀ i,i<len -> ∃ x,Rd P e x/\(∃ ci,w.cells? base (a.add (i*P.cellsOf e)) (P.cellsOf e)=some ci/\FitL G w x.cells ci) /\ ∀ y,elems[i]? =some y -> ∀ μ:DataW H->Nat,BulkOk μ->x.bulk<=μ y.1:=by
        intro i hi
        have hg:=mapM_some_get hm i i (by simp [hi])
        have hlt:i<elems.length:=FM
        rw [AL hlt] at hg
        cases hc:w.cells? base (a.add (i*P.cellsOf e)) (P.cellsOf e) with
        | none=>rw [hc] at hg;simp at hg
        | some ci =>
         rw [hc] at hg
         simp only [Bc] at hg
         obtain ⟨x,hx,hf,hbx⟩:=ih e ci elems[i].1 elems[i].2 he hg λm hm=>hw m (.inr (.inl (Ld (AO.2 ⟨elems[i],CY hlt,rfl⟩) m hm)))
         exact ⟨x,hx,⟨ci,rfl,hf⟩,λy hy μ hμ=>by rw [AL hlt] at hy;cases hy;exact hbx μ hμ⟩
       have hspot:0<cap->a.spot=none:=by
        intro hc0
        by_cases h0:0<len
        ·obtain ⟨x,_,⟨ci,hci,_⟩,_⟩:=hat 0 h0
         obtain ⟨_,h1,h2⟩:=World.cells?_some hci
         have h3:=h2 0 hpos
         rw [Bt,show (a.add 0).add 0=a from rfl] at h3
         have hlt:0<ci.length:=FM
         rw [AL hlt] at h3
         exact YC h3
        ·have hg:=mapM_some_get hr 0 0 (by rw [List.getElem?_range FM])
         have hrl:=mapM_some_length hr
         simp only [DC] at hrl
         have hlt:0<rest.length:=FM
         rw [AL hlt] at hg
         have hl0:len=0:=FM
         subst hl0
         cases hc:w.cells? base (a.add ((0+0)*P.cellsOf e)) (P.cellsOf e) with
         | none=>rw [hc] at hg;simp at hg
         | some ci =>
          obtain ⟨_,h1,h2⟩:=World.cells?_some hc
          have h3:=h2 0 hpos
          rw [BC,Bt,show (a.add 0).add 0=a from rfl] at h3
          have hlt:0<ci.length:=FM
          rw [AL hlt] at h3
          exact YC h3
       obtain ⟨es,hes,hes2⟩:=Ok len hat
       have hrd : ∀ x∈es,Rd P e x:=λx hx=>by
        obtain ⟨i,hi⟩:=Af hx
        exact (hes2 i x hi).1
       refine ⟨.sl none es,.slice hu FM (by rw [hes];exact hb2) hrd,.one rfl rfl ?_,fun μ hμ=>AK (Nat.add_le_add_left (WA (ds:=elems.map (·.1)) (by simp;omega) λi x d hx hd=>by
        rw [Ac] at hd
        cases hy:elems[i]? with
        | none=>rw [hy] at hd;cases hd
        | some y=>rw [hy] at hd;cases hd;exact (hes2 i x hx).2.2 y hy μ hμ) 1) (hμ.sl _ _)⟩
       by_cases hc0:0<cap
       ·have hsp:=hspot hc0
        have hsz : ∀ x∈es,x.cells.length=P.cellsOf e:=λx hx=>by
         obtain ⟨i,hi⟩:=Af hx
         obtain ⟨_,⟨ci,hci,hf⟩,_⟩:=hes2 i x hi
         rw [hf.len];exact (World.cells?_some hci).2.1
        have haddr:a=⟨a.block,a.off,none⟩:=by cases a;simp at hsp;subst hsp;rfl
        have key : ∀ (i:Nat) (c:AV),(HM es)[i]? =some c->c.scalar=true /\ ∃ v,w.cell? ⟨a.block,a.off+i,none⟩=some v/\EZ G w c v:=by
         intro i c hi
         obtain ⟨k,j,x,h1,h2,h3,h4⟩:=AEY hsz hi
         obtain ⟨_,⟨ci,hci,hf⟩,_⟩:=hes2 k x h3
         obtain ⟨_,g1,g2⟩:=World.cells?_some hci
         have g3:=g2 j h2
         have hlt:j<ci.length:=FM
         rw [AL hlt] at g3
         rw [haddr,Gz,Gz] at g3
         refine ⟨(hf.sc c (AB h4)).1,ci[j], ?_,hf.rel j c _ h4 (AL hlt)⟩
         rw [h1,<- Nat.add_assoc];exact g3
        rw [haddr]
        have:=VRel.sl (G:=G) (w:=w) none es (P.cellsOf e) a.block a.off cap (λi=>(w.cell? ⟨a.block,a.off+i,none⟩).getD Go.undef) hsz (λn hn=>by cases hn) FM hcond.2.2
         (λi c hi=>by
          obtain ⟨s,v,hv,_⟩:=key i c hi
          exact ⟨s,by simp [Gh.safe,hG],by rw [hv];rfl⟩)
         (λi c hi=>by
          obtain ⟨_,v,hv,hr⟩:=key i c hi
          rw [hv];exact hr)
        rw [hes] at this
        exact this
       ·have h0:cap=0:=FM
        have h1:len=0:=FM
        subst h0;subst h1
        have:es=[]:=List.eq_nil_of_length_eq_zero hes
        subst this
        exact .slany none a
    all_goals first|(simp at *;done)|(rename_i heq _;cases heq)
   case struct fs =>
    simp only [AR,Ao,De] at hst
    dsimp only at h
    split at h
    case isFalse=>cases h
    rename_i hlen
    cases hm:fs.toList.mapM λf=>DataW.trod enc P w base (λ_=>true) held fuel f.type ((cs.drop f.offset).take (P.cellsOf f.type)) with
    | none=>rw [hm] at h;simp at h
    | some xs =>
     rw [hm] at h
     simp only [BU,Option.some.injEq,Prod.mk.injEq] at h
     obtain ⟨rfl,_⟩:=h
     simp only [DataW.weights,hu] at hw
     obtain ⟨parts,p1,p2,p3,p4⟩:=fit_fields (G:=G) (w:=w) (P:=P) (S:=S) ih fs.toList 0 xs (by rw [hlen];exact hst.1) hst.2 (BY _) hm hw
     exact ⟨.agg (HM parts),.struct hu (by simpa using p1) (λi f x hf hx=>p2 i f x (by simpa using hf) hx),by simpa [AV.cells] using p3,fun μ hμ=>by
      have h1:=p4 μ hμ
      have h2:=hμ.agg (xs.map (·.1))
      simp only [AV.bulk,Ys]
      omega⟩
   case array n e =>
    simp only [AR,beq_iff_eq,De] at hst
    dsimp only at h
    split at h
    case isFalse=>cases h
    rename_i hlen
    cases hm:(Am n).mapM λi=>DataW.trod enc P w base (λ_=>true) held fuel e ((cs.drop (i*P.cellsOf e)).take (P.cellsOf e)) with
    | none=>rw [hm] at h;simp at h
    | some xs =>
     rw [hm] at h
     simp only [BU,Option.some.injEq,Prod.mk.injEq] at h
     obtain ⟨rfl,_⟩:=h
     simp only [DataW.weights,hu] at hw
     have hxl:=mapM_some_length hm
     simp only [DC] at hxl
     obtain ⟨parts,q1,q2⟩:=Ok (p:=λi x=>Rd P e x/\FitL G w x.cells ((cs.drop (i*P.cellsOf e)).take (P.cellsOf e)) /\ ∀ y,xs[i]? =some y -> ∀ μ:DataW H->Nat,BulkOk μ->x.bulk<=μ y.1) n λi hi=>by
      have hg:=mapM_some_get hm i i (by simp [hi])
      have hlt:i<xs.length:=FM
      rw [AL hlt] at hg
      obtain ⟨x,hx1,hx2,hx3⟩:=ih e _ xs[i].1 xs[i].2 hst.1 hg λm hm=>hw m (Ld (AO.2 ⟨xs[i],CY hlt,rfl⟩) m hm)
      exact ⟨x,hx1,hx2,λy hy μ hμ=>by rw [AL hlt] at hy;cases hy;exact hx3 μ hμ⟩
     refine ⟨.agg (HM parts),.array hu q1 (λx hx=>?_), ?_,fun μ hμ=>?_⟩
     ·obtain ⟨i,hi⟩:=Af hx
      exact (q2 i x hi).1
     ·exact vd (λi x hx=>(q2 i x hx).2.1) (by rw [q1,hlen,hst.2])
     ·have h1:=WA (μ:=μ) (es:=parts) (ds:=xs.map (·.1)) (by simp;omega) λi x d hx hd=>by
       rw [Ac] at hd
       cases hy:xs[i]? with
       | none=>rw [hy] at hd;cases hd
       | some y=>rw [hy] at hd;cases hd;exact (q2 i x hx).2.2 y hy μ hμ
      have h2:=hμ.agg (xs.map (·.1))
      simp only [AV.bulk,Ys]
      omega
end
end
end Go.AI
namespace Go.AI
open Go.RowKit Go.ChangeShapes
def Ge(P:Program):List TypeId->List AV->Prop
 | [],[]=>True
 | t::ts,a::as=>Rd P t a/\Ge P ts as
 | _,_=>False
section
variable {P:Program} {G:Gh} {w:World} {H:Type} {enc:TypeId×Value->H} {base:Nat}
def OM{a:AV}(hv:a.isVal=true)(h : ∀ c∈a.cells,GB c=false):a.owned=false:=by
 unfold AV.owned
 rw [List.any_eq_false]
 intro c hc
 have:a.flat=a.cells:=by cases a<;>first|rfl|cases hv
 rw [this] at hc
 simp [h c hc]
def AE0{t:TypeId}{a:AV}{v:Value}(hr:Rd P t a)(hf:FitL G w a.cells v.cells.toList)(hok:Value.okWide P w .any base t v):EZ G w a v/\a.owned=false:=by
 have one : ∀ (a:AV) (v:Value),a.scalar=true->a.cells=[a]->(∀ cs,v ≠ .agg cs)->FitL G w a.cells v.cells.toList->EZ G w a v:=by
  intro a v h1 h2 h3 h4
  have h5:v.cells=#[v]:=by cases v<;>first|rfl|exact absurd rfl (h3 _)
  rw [h2,h5] at h4
  exact h4.rel 0 a v rfl rfl
 have noAgg : ∀ (u:TypeDesc),P.underlying t=some u->(u = .bool\/(∃ k,u = .int k)\/u = .string \/ ∃ e,u = .slice e) -> ∀ cs,v ≠ .agg cs:=by
  intro u hu hk cs hv
  subst hv
  rcases hk with rfl|⟨k,rfl⟩|rfl|⟨e,rfl⟩<;>simp [Value.okWide,hu,Cell.okWide,Cell.ok] at hok
 cases hr with
 | bool b h=>exact ⟨one _ _ rfl rfl (noAgg _ h (.inl rfl)) hf,rfl⟩
 | int h hw=>exact ⟨one _ _ rfl rfl (noAgg _ h (.inr (.inl ⟨_,rfl⟩))) hf,rfl⟩
 | str h hs=>exact ⟨one _ _ rfl rfl (noAgg _ h (.inr (.inr (.inl rfl)))) hf,rfl⟩
 | slice h hl hb he=>exact ⟨one _ _ rfl rfl (noAgg _ h (.inr (.inr (.inr ⟨_,rfl⟩)))) hf,rfl⟩
 | struct h hl hp =>
  refine ⟨?_,OM rfl λc hc=>(hf.sc c hc).2⟩
  simp only [Value.okWide,h] at hok
  obtain ⟨cs,rfl,_⟩:=hok
  exact .agg _ _ (by simpa [AV.cells,Value.cells] using hf.len) (λc hc=>(hf.sc c hc).1) λi c x h1 h2=>hf.rel i c x h1 (by simpa [Value.cells] using h2)
 | array h hl hp =>
  refine ⟨?_,OM rfl λc hc=>(hf.sc c hc).2⟩
  simp only [Value.okWide,h] at hok
  obtain ⟨cs,rfl,_⟩:=hok
  exact .agg _ _ (by simpa [AV.cells,Value.cells] using hf.len) (λc hc=>(hf.sc c hc).1) λi c x h1 h2=>hf.rel i c x h1 (by simpa [Value.cells] using h2)
def iC{S:List TypeId}(hS:xq P S=true)(hG : ∀ b,G.kind b = .imm): ∀ (ts:List TypeId) (vs:List Value) (ds:List (DataW H)) (ps:List MemPlace),(∀ t∈ts,t∈S) ->
  DataW.TrodAll enc P w 0 (λ_=>true) true ts vs ds ps->(∀ m∈DataW.weightsEach P ts ds,m<=reachBytes)->(∀ (j:Nat) t v,ts[j]? =some t->vs[j]? =some v->Value.okWide P w .any base t v) ->
  ∃ as,Ge P ts as/\as.length=vs.length/\(∀ (i:Nat) (a:AV) (v:Value),as[i]? =some a->vs[i]? =some v->EZ G w a v/\a.owned=false) /\ ∀ μ:DataW H->Nat,BulkOk μ->FP as<=(ds.map μ).sum
 | [],vs,ds,ps,_,h,_,_=>by
  obtain ⟨rfl,rfl,rfl⟩:=trodAll_nil h
  exact ⟨[],trivial,rfl,λi a v h=>by simp at h,fun μ _=>by simp [FP]⟩
 | t::ts,vs,ds,ps,hin,h,hw,hok=>by
  obtain ⟨v,vs',d,ds',p,q,rfl,rfl,rfl,⟨fuel,h1⟩,h2⟩:=trodAll_cons h
  simp only [DataW.weightsEach,Ay] at hw
  obtain ⟨a,ha,hf,hba⟩:=Uq hS hG fuel t _ d p (hin t sm) h1 λm hm=>hw m (.inl hm)
  obtain ⟨as,g1,g2,g3,g4⟩:=iC hS hG ts vs' ds' q (λt ht=>hin t (by simp [ht])) h2 (λm hm=>hw m (.inr hm)) λj t v h1 h2=>hok (j+1) t v (by simpa using h1) (by simpa using h2)
  refine ⟨a::as,⟨ha,g1⟩,by simp [g2],λi x y hx hy=>?_,fun μ hμ=>?_⟩
  ·cases i with
   | zero =>
    simp at hx hy
    subst hx;subst hy
    exact AE0 ha hf (hok 0 t v rfl rfl)
   | succ i=>exact g3 i x y (by simpa using hx) (by simpa using hy)
  ·have h1:=hba μ hμ
   have h2:=g4 μ hμ
   simp only [FP,AT,B2]
   omega
def Pq(hl:laidOutB P=true){W W':World}(hb:Below W.heap.size W W'): ∀ (ts:List TypeId) (vs:List Value) (ds:List (DataW H)) (ps:List MemPlace),(∀ t∈ts,P.readableRec t=true/\t<P.types.size) ->
  DataW.TrodAll enc P W 0 (λ_=>true) true ts vs ds ps->(∀ x∈ps,x.block<W.heap.size)->DataW.TrodAll enc P W' 0 (λb=>decide (b<W.heap.size)) true ts vs ds ps
 | [],vs,ds,ps,_,h,_=>by
  obtain ⟨rfl,rfl,rfl⟩:=trodAll_nil h
  rfl
 | t::ts,vs,ds,ps,hr,h,hlt=>by
  obtain ⟨v,vs',d,ds',p,q,rfl,rfl,rfl,h1,h2⟩:=trodAll_cons h
  exact ⟨p,q,Below.trod hl (hr t sm).1 (hr t sm).2 h1 hb λx hx=>hlt x (by simp [hx]),
   Pq hl hb ts vs' ds' q (λt ht=>hr t (by simp [ht])) h2 λx hx=>hlt x (by simp [hx]),rfl⟩
def qW{as:List AV}{us:List Value}(hg:xT ⟨[],λ_ => .imm⟩ w)(hlen:as.length=us.length)(hrel : ∀ (i:Nat) (a:AV) (v:Value),as[i]? =some a->us[i]? =some v->EZ ⟨[],λ_ => .imm⟩ w a v/\a.owned=false):
  Ea (λb=>b<w.heap.size) ⟨[],λ_ => .imm⟩ as [] us w:=by
 refine ⟨⟨hlen,λi a u h1 h2=>(hrel i a u h1 h2).1,λi a u h1 h2=>Fd (GJ (hrel i a u h1 h2).2 u) _ _ _⟩,⟨rfl,λo cs b h=>by simp at h,λo o' cs cs' b h=>by simp at h,λb h=>h,hg⟩,λb=>?_⟩
 have h0:G7 b as us=0:=by
  have : ¬ 0<G7 b as us:=λhp=>by
   obtain ⟨i,a,u,h1,h2,p,hp,ht⟩:=Q6 as us hp
   have h3:=GJ (hrel i a u h1 h2).2 u
   have:b∈Gp a u:=List.mem_filterMap.2 ⟨p,hp,ht⟩
   rw [h3] at this
   cases this
  omega
 rw [h0]
 simp [ID]
def Zj {C:Checked} {f:FuncId} {fn:Func} {s:ChangeSpec} {apart handsOn:Bool} {tb:TypeId} (S:List TypeId)
  (hl:laidOutB C.prog=true) (hS:xq C.prog S=true) (hpar : ∀ t∈fn.params.toList,t∈S/\C.prog.readableRec t=true/\t<C.prog.types.size)
  (hres:fn.resultTypes=#[tb]) (htb:C.prog.underlying tb=some .bool) (hv:s.vars=[])
  (hs : ∀ (H:Type) (ds:List (DataW H)),ds.length=fn.params.size->s.fn H ds={ results:=[.lit (.bool true)],args:=ds })
  (W:World) (hglob:xT ⟨[],λ_ => .imm⟩ W) (base:Nat) (args:Array Value) (ds gs:List (DataW H)) (before:List MemPlace)
  (law : ∀ as,Ge C.prog fn.params.toList as->(∀ μ:DataW H->Nat,BulkOk μ->FP as<=(ds.map μ).sum)->FO C.prog f as (.bool true))
  (hval : ∀ (j:Nat) t v,fn.params[j]? =some t->args[j]? =some v->Value.okWide C.prog W .any base t v)
  (hW:DataW.Whole enc C.prog fn.params.toList s.vars apart W args.toList ds gs before)
  (hwt:(DataW.weightsEach C.prog (fn.params.toList++s.plain.varTypes C.prog) (ds++gs)).all (· <= reachBytes)=true) :
  Calls C.prog f args W λe W' => ∃ v,e = .returned v/\s.post enc C.prog fn apart true handsOn false W args v W':=by
 have hW':=hW
 obtain ⟨p,q,hA,hV,rfl,hfz,hnd⟩:=hW
 rw [hv] at hV
 have hg:gs=[]/\q=[]:=by
  cases gs with
  | nil=>simp [DataW.TrodVars] at hV;exact ⟨rfl,hV⟩
  | cons g gs=>simp [DataW.TrodVars] at hV
 obtain ⟨rfl,rfl⟩:=hg
 have hwt' : ∀ m∈DataW.weightsEach C.prog fn.params.toList ds,m<=reachBytes:=by
  intro m hm
  have e:s.plain.varTypes C.prog=[]:=by
   have:s.plain.vars=[]:=by rw [<- hv];rfl
   simp [DataSpec.varTypes,this]
  rw [e,Ah,Ah] at hwt
  have:=Ao.1 hwt m hm
  simpa using this
 obtain ⟨as,h1,h2,h3,h4⟩:=iC (G:=⟨[],λ_ => .imm⟩) (base:=base) hS (λ_=>rfl) fn.params.toList args.toList ds p (λt ht=>(hpar t ht).1) hA hwt' λj t v hj hv=>hval j t v (by simpa using hj) (by simpa using hv)
 have hc:=qW hglob h2 h3
 have hcall:=(law as h1 h4 []).2 _ _ W args.toList hc
 rw [Array.toArray_toList] at hcall
 refine hcall.mono λe W' he=>?_
 obtain ⟨u,rfl,v,H',G',⟨rfl,rfl⟩,hcr,hext⟩:=he
 obtain ⟨hu,_,_⟩:=hcr.l.uncons
 have hu':u = .bool true:=by cases hu;rfl
 subst hu'
 have hb:Below W.heap.size W W':=⟨hext.io.1,hext.io.2.1,hext.io.2.2,hext.size,λk hk=>hext.cells k hk⟩
 have hdl:ds.length=fn.params.size:=by
  have : ∀ (ts:List TypeId) (vs:List Value) (ds:List (DataW H)) (ps:List MemPlace),DataW.TrodAll enc C.prog W 0 (λ_=>true) true ts vs ds ps->ds.length=ts.length:=by
   intro ts
   induction ts with
   | nil=>intro vs ds ps h;obtain ⟨_,rfl,_⟩:=trodAll_nil h;rfl
   | cons t ts ih=>intro vs ds ps h;obtain ⟨v,vs',d,ds',p,q,_,rfl,_,_,h2⟩:=trodAll_cons h;simp [ih _ _ _ h2]
  simpa using this _ _ _ _ hA
 refine ⟨_,rfl,ds,[],p++[],[],p,[],hW', ?_, ?_, ?_,hb.frame _,λh=>by cases h⟩
 ·rw [Ah,hs H ds hdl,hres]
  exact trodAll_mk1 ⟨1,by simp [DataW.trod,Value.cells,htb]⟩
 ·rw [Ah,hs H ds hdl]
  exact Pq hl hb _ _ _ _ (λt ht=>(hpar t ht).2) hA λx hx=>hW'.lt x (by simp [hx])
 ·rw [Ah,hs H ds hdl,hv]
  rfl
end
end Go.AI
namespace Go.AI
section
variable {P:Program} {m:Nat} {h:Eb} {ops:Array Oper} {e:Fp} {H:FN} {Q:Exit->Kt} {ar:Option Nat}
def Qm : ∀ (l:List Oper) (K K':Fp->FN->Prop) (e:Fp) (H:FN),(∀ e H,K e H->K' e H)->LA P m h ops l K e H->LA P m h ops l K' e H
 | [],K,K',e,H,hk,ha=>hk e H ha
 | o::l,K,K',e,H,hk,ha=>K2 (λe H=>Qm l K K' e H hk) ha
def GV : ∀ (c:Code) {ar:Option Nat} (Q Q':Exit->Kt) (e:Fp) (H:FN),(∀ ex e H,Q ex e H->Q' ex e H)->I8 P m h ar c Q e H->I8 P m h ar c Q' e H
 | .skip,ar,Q,Q',e,H,hq,ha=>hq _ _ _ ha
 | .exit id,ar,Q,Q',e,H,hq,ha=>hq _ _ _ ha
 | .ret,ar,Q,Q',e,H,hq,ha=>hq _ _ _ ha
 | .region id ops draw,ar,Q,Q',e,H,hq,ha=>Qm _ _ _ _ _ (λ_ _ h=>⟨h.1,hq _ _ _ h.2⟩) ha
 | .seq a b,ar,Q,Q',e,H,hq,ha=>GV a _ _ e H (λex e H h=>by
   cases ex with
   | normal=>exact GV b Q Q' e H hq h
   | _=>exact hq _ _ _ h) ha
 | .cond c a b,ar,Q,Q',e,H,hq,ha=>by
  simp only [I8] at ha ⊢
  split at ha
  ·rename_i t ht
   cases t with
   | true=>exact GV a Q Q' e H hq ha
   | false=>exact GV b Q Q' e H hq ha
  ·exact ha.elim
 | .block id c,ar,Q,Q',e,H,hq,ha=>GV c _ _ e H (λex e H h=>by
   cases ex with
   | exit j =>
    dsimp only at h ⊢
    split at h
    ·rename_i hj;rw [iP hj];exact hq _ _ _ h
    ·rename_i hj;rw [iN hj];exact hq _ _ _ h
   | _=>exact hq _ _ _ h) ha
 | .loop c,ar,Q,Q',e,H,hq,ha=>by
  obtain ⟨I,μ,h0,hr⟩:=ha
  exact ⟨I,μ,h0,λe H hi=>GV c _ _ e H (λex e H h=>by
   cases ex with
   | normal=>exact h
   | _=>exact hq _ _ _ h) (hr e H hi)⟩
 | .rangeFunc g ps assign body,ar,Q,Q',e,H,hq,ha=>by
  obtain ⟨h1,tag,f,first,captured,h2,h3⟩:=ha
  refine ⟨h1,tag,f,first,captured,h2,h3.mono λv H2 hp=>?_⟩
  obtain ⟨st,av,g1,g2⟩:=hp
  refine ⟨st,av,g1, ?_⟩
  rcases g2 with ⟨a,b⟩|⟨a,b⟩|⟨k,a,b⟩
  ·exact .inl ⟨a,hq _ _ _ b⟩
  ·exact .inr (.inl ⟨a,hq _ _ _ b⟩)
  ·exact .inr (.inr ⟨k,a,hq _ _ _ b⟩)
 | .scope _,ar,_,_,_,_,_,ha=>ha.elim
 | .label _,ar,_,_,_,_,_,ha=>ha.elim
 | .goto _,ar,_,_,_,_,_,ha=>ha.elim
 | .refuse _,ar,_,_,_,_,_,ha=>ha.elim
def Abc(J:Nat->Kt)(r:Nat)(Q:Exit->Kt)(ex:Exit):Kt:=λe H =>
 match ex with
 | .normal => ∃ r',r'<r/\J r' e H
 | ex=>Q ex e H
def Ni{c:Code}(J:Nat->Kt)(h0 : ∃ r,J r e H)(round : ∀ r e H,J r e H->I8 P m h ar c (Abc J r Q) e H):I8 P m h ar (.loop c) Q e H:=by
 have hl : ∀ (e:Fp) (H:FN),∃ r,(∃ r,J r e H)->J r e H /\ ∀ k,J k e H->r<=k:=λe H=>by
  by_cases he : ∃ r,J r e H
  ·obtain ⟨r,h1,h2⟩:=RU he
   exact ⟨r,λ_=>⟨h1,h2⟩⟩
  ·exact ⟨0,λh=>absurd h he⟩
 refine ⟨λe H => ∃ r,J r e H,λe H=>Classical.choose (hl e H),h0,λe H hI=>?_⟩
 obtain ⟨h1,h2⟩:=Classical.choose_spec (hl e H) hI
 refine GV c _ _ e H (λex e' H' hq=>?_) (round _ e H h1)
 cases ex with
 | normal =>
  obtain ⟨r',hr,hJ⟩:=hq
  refine ⟨⟨r',hJ⟩, ?_⟩
  obtain ⟨_,h4⟩:=Classical.choose_spec (hl e' H') ⟨r',hJ⟩
  exact Nat.lt_of_le_of_lt (h4 r' hJ) hr
 | _=>exact hq
end
end Go.AI
namespace Go.AI
def ABq(m:Nat):List Nat:=(Am (m.log2+1)).filter λi=>m.testBit i
def lvM:Nat->List Nat->List (Nat×List Tmp)
 | _,[]=>[]
 | k,m::l=>(k,ABq m)::lvM (k+1) l
def hm(l:List Nat)(tk mt pc:List Tmp):Eb:=⟨lvM 0 l,tk,mt,[],pc,[],[]⟩
def hx(l:List Nat)(tk mt:List Tmp)(fz:List (Nat×List (Tmp×Option Nat×Bool)))(pc:List Tmp)(gc:List (Nat×Nat))(dy:List Nat):Eb:=⟨lvM 0 l,tk,mt,fz,pc,gc,dy⟩
def OD{n:Int}(h1 : -9223372036854775808<=n)(h2:n<=9223372036854775807):IntKind.i64.wrap n=n:=IntWalk.i64_in _ ⟨h1,h2⟩
def Mc{k:Nat}(h:k<9223372036854775807):IntKind.i64.wrap ((k:Int)+1)=((k+1:Nat):Int):=by
 rw [OD FM FM];rfl
section
variable {P:Program} {m:Nat} {h:Eb} {e:Fp} {H:FN} {Q:Exit->Kt} {ops:Array Oper} {ar:Option Nat}
def At(e e':Fp)(H H':FN):Prop:=e=e'/\H=H'
def APt(n:Nat)(E:Nat->Fp)(HH:Nat->FN)(k:Nat)(Q:Exit->Kt)(ex:Exit):Kt:=λe H =>
 match ex with
 | .normal=>k<n/\At e (E (k+1)) H (HH (k+1))
 | ex=>Q ex e H
def fY(n:Nat)(E:Nat->Fp)(HH:Nat->FN)(k:Nat):APt n E HH k Q .normal e H=(k<n/\At e (E (k+1)) H (HH (k+1))):=AH rfl rfl
def vc(n:Nat)(E:Nat->Fp)(HH:Nat->FN)(k j:Nat):APt n E HH k Q (.exit j)=Q (.exit j):=AH rfl rfl
def aQ{c:Code}(n:Nat)(E:Nat->Fp)(HH:Nat->FN)(he:e=E 0)(hH:H=HH 0)(round : ∀ k,k<=n->I8 P m h ar c (APt n E HH k Q) (E k) (HH k)):I8 P m h ar (.loop c) Q e H:=by
 subst he;subst hH
 refine Ni (λr e H => ∃ k,k+r=n/\e=E k/\H=HH k) ⟨n,0,FM,rfl,rfl⟩ λr e H hJ=>?_
 obtain ⟨k,hk,rfl,rfl⟩:=hJ
 refine GV c _ _ _ _ (λex e H hq=>?_) (round k FM)
 cases ex with
 | normal =>
  obtain ⟨h1,rfl,rfl⟩:=hq
  exact ⟨r - 1,FM,k+1,FM,rfl,rfl⟩
 | _=>exact hq
def whK{σ:Type}(E:σ->Fp)(HH:σ->FN)(I:σ->Prop)(μ:σ->Nat)(s:σ)(Q:Exit->Kt)(ex:Exit):Kt:=λe H =>
 match ex with
 | .normal => ∃ s',I s'/\μ s'<μ s/\At e (E s') H (HH s')
 | ex=>Q ex e H
section
variable {σ:Type}
def j3(E:σ->Fp)(HH:σ->FN)(I:σ->Prop)(μ:σ->Nat)(s:σ):whK E HH I μ s Q .normal e H = ∃ s',I s'/\μ s'<μ s/\At e (E s') H (HH s'):=AH rfl rfl
def ADI(E:σ->Fp)(HH:σ->FN)(I:σ->Prop)(μ:σ->Nat)(s:σ):whK E HH I μ s Q .ret=Q .ret:=AH rfl rfl
def xe(E:σ->Fp)(HH:σ->FN)(I:σ->Prop)(μ:σ->Nat)(s:σ)(j:Nat):whK E HH I μ s Q (.exit j)=Q (.exit j):=AH rfl rfl
def Kj{c:Code}(E:σ->Fp)(HH:σ->FN)(I:σ->Prop)(μ:σ->Nat)(s:σ)(h0:I s)(he:e=E s)(hH:H=HH s)(round : ∀ s,I s->I8 P m h ar c (whK E HH I μ s Q) (E s) (HH s)):I8 P m h ar (.loop c) Q e H:=by
 subst he;subst hH
 refine Ni (λr e H => ∃ s,I s/\μ s=r/\e=E s/\H=HH s) ⟨μ s,s,h0,rfl,rfl,rfl⟩ λr e H hJ=>?_
 obtain ⟨s,hs,rfl,rfl,rfl⟩:=hJ
 refine GV c _ _ _ _ (λex e H hq=>?_) (round s hs)
 cases ex with
 | normal =>
  obtain ⟨s',h1,h2,rfl,rfl⟩:=hq
  exact ⟨μ s',h2,s',h1,rfl,rfl,rfl⟩
 | _=>exact hq
end
section
variable {α σ ρ:Type}
def oW(F:σ->List α->ρ)(E:Nat->σ->Fp)(HH:Nat->σ->FN)(I:Nat->σ->Prop)(k:Nat)(s:σ)(x:α)(xs:List α)(Q:Exit->Kt)(ex:Exit):Kt:=λe H =>
 match ex with
 | .normal => ∃ s',F s (x::xs)=F s' xs/\I (k+1) s'/\At e (E (k+1) s') H (HH (k+1) s')
 | ex=>Q ex e H
def ZI(F:σ->List α->ρ)(E:Nat->σ->Fp)(HH:Nat->σ->FN)(I:Nat->σ->Prop)(k:Nat)(s:σ)(x:α)(xs:List α):oW F E HH I k s x xs Q .normal e H = ∃ s',F s (x::xs)=F s' xs/\I (k+1) s'/\At e (E (k+1) s') H (HH (k+1) s'):=AH rfl rfl
def qa(F:σ->List α->ρ)(E:Nat->σ->Fp)(HH:Nat->σ->FN)(I:Nat->σ->Prop)(k:Nat)(s:σ)(x:α)(xs:List α):oW F E HH I k s x xs Q .ret=Q .ret:=AH rfl rfl
def kO(F:σ->List α->ρ)(E:Nat->σ->Fp)(HH:Nat->σ->FN)(I:Nat->σ->Prop)(k:Nat)(s:σ)(x:α)(xs:List α)(j:Nat):oW F E HH I k s x xs Q (.exit j)=Q (.exit j):=AH rfl rfl
def pV(Q:Exit->Kt)(ex:Exit):Kt:=λe H =>
 match ex with
 | .normal=>False
 | ex=>Q ex e H
def mS(j:Nat):pV Q (.exit j)=Q (.exit j):=AH rfl rfl
def Fo {c:Code} (l:List α) (F:σ->List α->ρ) (I:Nat->σ->Prop) (E:Nat->σ->Fp) (HH:Nat->σ->FN) (s0:σ) (hl:l.length<=9223372036854775807) (h0:I 0 s0) (he:e=E 0 s0) (hH:H=HH 0 s0)
  (round : ∀ k s x xs,l.drop k=x::xs->l[k]? =some x->I k s->F s0 l=F s (x::xs)->0<=(k:Int)->(k:Int)<(l.length:Int)->IntKind.i64.wrap ((k:Int)+1)=((k+1:Nat):Int)->I8 P m h ar c (oW F E HH I k s x xs Q) (E k s) (HH k s))
  (fin : ∀ s,I l.length s->F s0 l=F s []->I8 P m h ar c (pV Q) (E l.length s) (HH l.length s)):I8 P m h ar (.loop c) Q e H:=by
 subst he;subst hH
 refine Ni (λr e H => ∃ k s,k+r=l.length/\I k s/\F s0 l=F s (l.drop k)/\e=E k s/\H=HH k s) ⟨l.length,0,s0,FM,h0,sm,rfl,rfl⟩ λr e H hJ=>?_
 obtain ⟨k,s,hk,hI,hF,rfl,rfl⟩:=hJ
 by_cases hlt:k<l.length
 ·have hx:=AL hlt
  have hd:l.drop k=l[k]::l.drop (k+1):=BJ hlt
  rw [hd] at hF
  refine GV c _ _ _ _ (λex e H hq=>?_) (round k s _ _ hd hx hI hF FM FM  (Mc FM))
  cases ex with
  | normal =>
   obtain ⟨s',h1,h2,rfl,rfl⟩:=hq
   exact ⟨r - 1,FM,k+1,s',FM,h2,hF.trans h1,rfl,rfl⟩
  | _=>exact hq
 ·have hk':k=l.length:=FM
  subst hk'
  rw [DB] at hF
  refine GV c _ _ _ _ (λex e H hq=>?_) (fin s hI hF)
  cases ex with
  | normal=>exact hq.elim
  | _=>exact hq
end
end
section
variable {P:Program} {t:TypeId} {a b:AV} {r:Bool} {d:Tmp} {K:Kt} {e:Fp} {H:FN}
def wX(ha:KB P t a b=some r):Ie P .neq t a b d K e H=K ((d,.bool !r)::e) H:=by simp [Ie,J9,ha]
end
mutual
def AV.fit:AV->Prop
 | .sl _ es=>es.length<=9223372036854775807/\HR es
 | .agg cs=>HR cs
 | .tup vs=>HR vs
 | _=>True
def HR:List AV->Prop
 | []=>True
 | v::vs=>v.fit/\HR vs
end
def Fv{vs:List AV}:HR vs ↔ ∀ v∈vs,v.fit:=by
 induction vs with
 | nil=>simp [HR]
 | cons x xs ih=>simp [HR,ih]
def Z0{a:AV}(h : ∀ c∈a.cells,c.fit):a.fit:=by
 cases a with
 | agg cs=>exact Fv.2 h
 | _=>exact h _ (by simp [AV.cells])
def VRel.fit{G:Gh}{w:World}{a:AV}{v:Value}(h:EZ G w a v):a.fit:=by
 induction h with
 | sl own es sz b q cap u hsz hown hl hm h hu ih =>
  refine ⟨AK hl hm,Fv.2 λx hx=>Z0 λc hc=>?_⟩
  have:c∈HM es:=Bx.2 ⟨x,hx,hc⟩
  obtain ⟨i,hi⟩:=Af this
  exact ih i c hi
 | slnil own=>exact ⟨sm,trivial⟩
 | slany own a=>exact ⟨sm,trivial⟩
 | agg cs vs hl hs h ih =>
  refine Fv.2 λc hc=>?_
  obtain ⟨i,hi⟩:=Af hc
  have hlt:=(AD.1 hi).1
  exact ih i c _ hi (Ai FM)
 | tup cs vs hl hs h ih =>
  refine Fv.2 λc hc=>?_
  obtain ⟨i,hi⟩:=Af hc
  have hlt:=(AD.1 hi).1
  exact ih i c _ hi (Ai FM)
 | _=>exact trivial
def CRel.fit{F:Nat->Prop}{G:Gh}{w:World}{vs:List AV}{H:FN}{us:List Value}(h:Ea F G vs H us w):HR vs:=by
 refine Fv.2 λa ha=>?_
 obtain ⟨i,hi⟩:=Af ha
 have hlt:=(AD.1 hi).1
 have:=h.l.len
 exact (h.l.rel i a _ hi (AL FM)).fit
def FT.fit{P:Program}{f:FuncId}{vs:List AV}{H:FN}{R:AV->FN->Prop}(hcal:HP P f=true)(h:HR vs->FT P f vs H R):FT P f vs H R :=
 ⟨hcal,λF G w us hc=>(h hc.fit).2 F G w us hc⟩
def FO.fit{P:Program}{f:FuncId}{vs:List AV}{v:AV}(hcal:HP P f=true)(h:HR vs->FO P f vs v):FO P f vs v:=λH =>
 ⟨hcal,λF G w us hc=>(h hc.fit H).2 F G w us hc⟩
def KG.fit{P:Program}{f:FuncId}{vs:List AV}{Q:AV->Prop}(hcal:HP P f=true)(h:HR vs->KG P f vs Q):KG P f vs Q:=λH =>
 ⟨hcal,λF G w us hc=>(h hc.fit H).2 F G w us hc⟩
section
variable {P:Program} {t e:TypeId} {a:AV}
def xC{k:IntKind}(hu:P.underlying t=some (.int k))(h:Rd P t a): ∃ n,a = .int k n/\(k.min<=n/\n<=k.max):=by
 cases h with
 | int h hw=>rw [hu] at h;cases h;exact ⟨_,rfl,hw⟩
 | bool b h=>rw [hu] at h;cases h
 | str h=>rw [hu] at h;cases h
 | slice h=>rw [hu] at h;cases h
 | struct h=>rw [hu] at h;cases h
 | array h=>rw [hu] at h;cases h
def WV(hu:P.underlying t=some .bool)(h:Rd P t a): ∃ b,a = .bool b/\True:=by
 cases h with
 | int h hw=>rw [hu] at h;cases h
 | bool b h=>exact ⟨_,rfl,trivial⟩
 | str h=>rw [hu] at h;cases h
 | slice h=>rw [hu] at h;cases h
 | struct h=>rw [hu] at h;cases h
 | array h=>rw [hu] at h;cases h
def xB(hu:P.underlying t=some .string)(h:Rd P t a): ∃ s,a = .str s/\s.size<=reachBytes:=by
 cases h with
 | int h hw=>rw [hu] at h;cases h
 | bool b h=>rw [hu] at h;cases h
 | str h hs=>exact ⟨_,rfl,hs⟩
 | slice h=>rw [hu] at h;cases h
 | struct h=>rw [hu] at h;cases h
 | array h=>rw [hu] at h;cases h
def IM{α:Type}{f:α->AV}{ok:α->Prop}(hu:P.underlying t=some (.slice e))(hd : ∀ x,Rd P e x -> ∃ y,x=f y/\ok y)(h:Rd P t a):
  ∃ l:List α,a = .sl none (l.map f)/\l.length*P.bytesOf e<=reachBytes /\ ∀ x∈l,ok x:=by
 cases h with
 | slice h hl hb he =>
  rw [hu] at h;cases h
  rename_i es
  have : ∃ l:List α,es=l.map f /\ ∀ x∈l,ok x:=by
   clear hl hb
   induction es with
   | nil=>exact ⟨[],rfl,λx hx=>by simp at hx⟩
   | cons x xs ih =>
    obtain ⟨y,rfl,hy⟩:=hd x (he x sm)
    obtain ⟨l,rfl,hl⟩:=ih λx hx=>he x (by simp [hx])
    exact ⟨y::l,rfl,λz hz=>by
     rcases AZ.1 hz with rfl|hz
     ·exact hy
     ·exact hl z hz⟩
  obtain ⟨l,rfl,hok⟩:=this
  exact ⟨l,rfl,by simpa using hb,hok⟩
 | int h hw=>rw [hu] at h;cases h
 | bool b h=>rw [hu] at h;cases h
 | str h=>rw [hu] at h;cases h
 | struct h=>rw [hu] at h;cases h
 | array h=>rw [hu] at h;cases h
def O6(hu:P.underlying t=some (.slice e))(h:Rd P t a): ∃ es:List AV,a = .sl none es/\es.length*P.bytesOf e<=reachBytes /\ ∀ x∈es,Rd P e x:=by
 cases h with
 | slice h hl hb he =>
  rw [hu] at h;cases h
  exact ⟨_,rfl,hb,he⟩
 | int h hw=>rw [hu] at h;cases h
 | bool b h=>rw [hu] at h;cases h
 | str h=>rw [hu] at h;cases h
 | struct h=>rw [hu] at h;cases h
 | array h=>rw [hu] at h;cases h
def Zf{α:Type}{f:α->AV}{ok:α->Prop}{es:List AV}(h : ∀ x∈es,∃ y,x=f y/\ok y): ∃ l:List α,es=l.map f /\ ∀ x∈l,ok x:=by
 induction es with
 | nil=>exact ⟨[],rfl,λx hx=>by simp at hx⟩
 | cons x xs ih =>
  obtain ⟨y,rfl,hy⟩:=h x sm
  obtain ⟨l,rfl,hl⟩:=ih λx hx=>h x (by simp [hx])
  exact ⟨y::l,rfl,λz hz=>by
   rcases AZ.1 hz with rfl|hz
   ·exact hy
   ·exact hl z hz⟩
def ZH{o:Option Nat}{es cs:List AV}(h:AV.sl o es∈cs):SizeOf.sizeOf es<SizeOf.sizeOf (AV.agg cs):=by
 have h1:=List.sizeOf_lt_of_mem h
 have h2:SizeOf.sizeOf (AV.agg cs)=1+SizeOf.sizeOf cs:=sm
 have h3:SizeOf.sizeOf (AV.sl o es)=1+SizeOf.sizeOf o+SizeOf.sizeOf es:=sm
 omega
def Fr{a:AV}{l:List AV}(h:a∈l):a.bulk<=FP l:=by
 induction l with
 | nil=>cases h
 | cons x l ih =>
  simp only [FP]
  rcases AZ.1 h with rfl|h
  ·omega
  ·have:=ih h;omega
def HY(l:List AV)(a n:Nat):FP ((l.drop a).take n)<=FP l:=by
 have h1:=Nd ((l.drop a).take n) ((l.drop a).drop n)
 have h2:=Nd (l.take a) (l.drop a)
 rw [A7] at h1 h2
 omega
def HG{α:Type}{f:α->AV}(hf : ∀ x,1<=(f x).bulk)(l:List α):l.length<=FP (l.map f):=by
 induction l with
 | nil=>simp
 | cons x l ih =>
  have:=hf x
  simp only [AC,AT,FP]
  omega
def HB{s:ByteArray}{l:List AV}{B:Nat}(h:AV.str s∈l)(hb:FP l<=B):s.size<=B:=by
 have:=Fr h
 simp only [AV.bulk] at this
 omega
def Gs{o:Option Nat}{es l:List AV}{B:Nat}(h:AV.sl o es∈l)(hb:FP l<=B):FP es<=B:=by
 have:=Fr h
 simp only [AV.bulk] at this
 omega
def AFX(P:Program)(t:TypeId):Option (List TypeId) :=
 match P.underlying t with
 | some (.struct fs)=>some (fs.toList.map (·.type))
 | some (.array n e)=>some (A5 n e)
 | _=>none
def YG{ts:List TypeId}{ps:List AV}(hl:ps.length=ts.length)(h : ∀ (i:Nat) (t:TypeId) (x:AV),ts[i]? =some t->ps[i]? =some x->Rd P t x):Ge P ts ps:=by
 induction ts generalizing ps with
 | nil=>cases ps with
  | nil=>trivial
  | cons=>simp at hl
 | cons t ts ih=>cases ps with
  | nil=>simp at hl
  | cons p ps=>exact ⟨h 0 t p rfl rfl,ih (by simpa using hl) λi t x h1 h2=>h (i+1) t x (by simpa using h1) (by simpa using h2)⟩
def GG{ts:List TypeId}(hs:AFX P t=some ts)(h:Rd P t a): ∃ ps,a = .agg (HM ps)/\Ge P ts ps:=by
 unfold AFX at hs
 cases h with
 | struct h hl hp =>
  rw [h] at hs;cases hs
  refine ⟨_,rfl,YG (by simpa using hl) λi t x h1 h2=>?_⟩
  rw [Ac] at h1
  rename_i fs _
  cases hf:fs.toList[i]? with
  | none=>rw [hf] at h1;cases h1
  | some f=>rw [hf] at h1;cases h1;exact hp i f x (by simpa using hf) h2
 | array h hl hp =>
  rw [h] at hs;cases hs
  refine ⟨_,rfl,YG (by simpa using hl) λi t x h1 h2=>?_⟩
  have:=List.eq_of_mem_replicate (AB h1)
  subst this
  exact hp x (AB h2)
 | int h hw=>rw [h] at hs;cases hs
 | bool b h=>rw [h] at hs;cases hs
 | str h=>rw [h] at hs;cases hs
 | slice h=>rw [h] at hs;cases hs
end
end Go.AI
namespace Go.AI
def l7(h:Eb)(a:h.gc=[])(b:h.fz=[])(c:h.dy=[]):(∀ k,h.ct k=none)/\(∀ k,h.at k=[])/\(∀ k,h.dn k=false):=by
 refine ⟨λk=>?_,λk=>?_,λk=>?_⟩
 ·simp [Hint.ct,a]
 ·simp [Hint.at,b]
 ·simp [Hint.dn,Hint.da,Hint.mv,c]
structure FK (P:Program) (f:FuncId) (fn:Func) (h:Eb):Prop where
 m:P.follows .mixedOrders=true
 d:fn.body.any (GX h)=true
 g:P.funcs[f]? =some fn
 c:HP P f=true
def ZK(c:AV):(borrow1 c).pure=c.pure:=by cases c<;>rfl
def Pu(cs:List AV):FQ (cs.map borrow1)=FQ cs:=by
 induction cs with
 | nil=>rfl
 | cons c cs ih=>simp [FQ,ZK,ih]
def ZL(a:AV):(borrow0 a).pure=a.pure:=by
 cases a<;>first|rfl|exact Pu _
def cc(a:AV):a.borrow.pure=a.pure:=by
 cases a with
 | tup vs =>
  show FQ (vs.map borrow0)=FQ vs
  induction vs with
  | nil=>rfl
  | cons c cs ih=>simp [FQ,ZL,ih]
 | agg cs=>exact Pu _
 | _=>rfl
def xG {P:Program} {f:FuncId} {fn:Func} {c:Code} {vs:List AV} {v:AV} (h:Eb) (hm:P.follows .mixedOrders=true) (hd:fn.body.any (GX h)=true) (hf:P.funcs[f]? =some fn) (hb:fn.body=some c) (hcal:HP P f=true)
  (hn:vs.length<=fn.ntmps) (hp:FQ vs=true) (hv:v.pure=true) (ha:I8 P fn.ntmps h none c (Sv P fn.ntmps fn.results λv' _=>v'.borrow=v) (GM 0 vs) []):FO P f vs v:=λH =>
 ⟨hcal,λF G w us hc=>Calls.mono (J5 (.inr rfl) hm hd hf hb hn ha (hc.hide (H7 hp))) λe w' he=>by
  obtain ⟨u,rfl,v',H2,G',rfl,hcr,hext⟩:=he
  obtain ⟨h1,h2⟩:=hc.unhide (by rw [cc] at hv;exact hv) hcr hext
  exact ⟨u,rfl,_,H,_,⟨rfl,rfl⟩,by simpa using h1.lend,h2⟩⟩
def gj(cs:List AV):borrow0 (.agg cs) = .agg (cs.map borrow1):=rfl
def gi(k:IntKind)(n:Int):borrow0 (.int k n) = .int k n:=rfl
def aJ(b:Bool):borrow0 (.bool b) = .bool b:=rfl
def nM(o:Option Nat)(es:List AV):borrow0 (.sl o es) = .sl none es:=rfl
def ZG(c x:AV)(cs xs:List AV):Hl (c::cs) (x::xs)=x::Hl cs xs:=by
 simp [Hl,splice]
def cH(cs:List AV):Hl cs []=cs:=by simp [Hl,splice]
def qb(o:Option Nat)(es:List AV):(AV.sl o es).scalar=true:=rfl
def MB(n:Nat):FN->Bool
 | []=>true
 | some cs::r=>Fj n cs&&MB n r
 | none::r=>MB n r
def md(n:Nat)(H:FN):MB n H=H.all λo=>match o with
 | some cs=>Fj n cs
 | none=>true:=by
 induction H with
 | nil=>rfl
 | cons o r ih=>cases o<;>simp [MB,ih]
def vp(H:FN):UV H=MB H.length H:=(md _ _).symm
def gH(n:Nat):MB n []=true:=rfl
def Z9(n:Nat)(cs:List AV)(r:FN):MB n (some cs::r)=(Fj n cs&&MB n r):=rfl
def wR(k:Nat):Fj k []=true:=rfl
def nN(k:Nat)(v:AV)(vs:List AV):Fj k (v::vs)=(v.bnd k&&Fj k vs):=rfl
def AEq(k a b:Nat):(AV.ptr a b).bnd k=decide (a<k):=rfl
def AEr(k:Nat)(i:IntKind)(n:Int):(AV.int i n).bnd k=true:=rfl
def ARs(k:Nat)(o:Option Nat)(es:List AV):(AV.sl o es).bnd k=Fj k es:=rfl
def AEJ(r:Option (AV×FN))(t:Tmp)(zs:List (Tmp×Option Nat×Bool))(Q:Exit->Kt)(e:Fp)(H:FN):Prop :=
 match r with
 | some (v,H')=>XK zs Q ((t,v)::e) H'
 | none=>XK zs Q e H
def APs(t:Tmp)(ag:Bool)(zs:List (Tmp×Option Nat×Bool))(Q:Exit->Kt)(e:Fp)(H:FN):XK ((t,none,ag)::zs) Q e H=AEJ (Kn ag (Fm e t) H) t zs Q e H:=by
 rw [vY]
 unfold fM AEJ
 dsimp only
 cases Kn ag (Fm e t) H with
 | none=>rfl
 | some p=>rfl
def vX(v:AV)(H':FN)(t:Tmp)(zs:List (Tmp×Option Nat×Bool))(Q:Exit->Kt)(e:Fp)(H:FN):AEJ (some (v,H')) t zs Q e H=XK zs Q ((t,v)::e) H':=AH rfl rfl
def ABL:HM []=[]:=rfl
section
variable {α:Type} {f:α->List AV} {n:Nat}
def US{l:List α}{k:Nat}{x:α}(hx:l[k]? =some x):l.drop k=x::l.drop (k+1):=by
 obtain ⟨h,rfl⟩:=AD.1 hx
 exact BJ h
def mg(cs:List AV):IV false 1 cs.length cs=cs:=by
 induction cs with
 | nil=>rfl
 | cons x xs ih=>simp [IV,ih]
end
end Go.AI
namespace Go.AI
attribute [go_sem] Nat.reduceEqDiff Nat.reduceLT Nat.reduceAdd Nat.reduceSub Nat.reduceMul Nat.reduceBEq Nat.reduceLeDiff Nat.reduceDvd reduceCtorEq Int.reduceToNat Int.reduceLT Int.reduceLE
attribute [go_sem] Nat.le_refl Int.le_refl false_implies implies_true Kn List.take_length AZ List.not_mem_nil or_false forall_eq_or_imp forall_eq List.range_succ EC exists_eq_left' Option.some.injEq
attribute [go_sem ↓] reduceIte
attribute [go_sem] Ar Av
section
variable {P:Program} {f:FuncId} {fn:Func} {h:Eb} {c:Code} {vs:List AV} {v:AV} {Q:AV->Prop} {R:AV->FN->Prop} {H:FN}
def pC(k:FK P f fn h)(hb:fn.body=some c)(ha:I8 P fn.ntmps h none c (Sv P fn.ntmps fn.results λv' _=>v'=v) (GM 0 vs) [])(hn:vs.length.ble fn.ntmps=true:=by rfl)(hp:FQ vs=true:=by simp [FQ,AV.pure,go_sem])(hv:v.pure=true:=by rfl):FO P f vs v :=
 ACY h k.m k.d k.g hb k.c (CP hn) hp hv ha
def pB(k:FK P f fn h)(hb:fn.body=some c)(ha:I8 P fn.ntmps h none c (Sv P fn.ntmps fn.results λv' _=>v'.borrow=v) (GM 0 vs) [])(hn:vs.length.ble fn.ntmps=true:=by rfl)(hp:FQ vs=true:=by simp [FQ,AV.pure,go_sem])(hv:v.pure=true:=by simp [FQ,AV.pure,go_sem]):FO P f vs v :=
 xG h k.m k.d k.g hb k.c (CP hn) hp hv ha
def qC(k:FK P f fn h)(hb:fn.body=some c)(ha:I8 P fn.ntmps h none c (Sv P fn.ntmps fn.results λv' _=>v'.pure=true/\Q v') (GM 0 vs) [])(hn:vs.length.ble fn.ntmps=true:=by rfl)(hp:FQ vs=true:=by simp [FQ,AV.pure,go_sem]):KG P f vs Q :=
 ACU h k.m k.d k.g hb k.c (CP hn) hp ha
def aC(k:FK P f fn h)(hb:fn.body=some c)(ha:I8 P fn.ntmps h none c (Sv P fn.ntmps fn.results R) (GM 0 vs) H)(hg:h.gc=[]:=by rfl)(hn:vs.length.ble fn.ntmps=true:=by rfl):FT P f vs H R :=
 jj h hg k.m k.d k.g hb k.c (CP hn) ha
def aN(k:FK P f fn h)(hb:fn.body=some c)(ha:I8 P fn.ntmps h none c (Sv P fn.ntmps fn.results R) (GM 0 vs) [])(hn:vs.length.ble fn.ntmps=true:=by rfl):FT P f vs [] R :=
 ⟨k.c,λF G w us hc=>J5 (.inr (List.length_eq_zero_iff.1 hc.h.len)) k.m k.d k.g hb (CP hn) ha hc⟩
end
section
variable {P:Program} {f:FuncId} {vs:List AV} {d:Option Tmp} {K A B:Kt} {e:Fp} {H:FN} {v:AV} {t b:Bool}
def pK(hc:FO P f vs v)(hk:K (put d v e) H):WY P f vs d K e H:=⟨v,hc,hk⟩
def cS(ht:t=true->A e H)(hf:t=false->B e H):gF (.bool t) A B e H:=TQ _ _ _ ht hf
def gS(ht:t=b->A e H)(hf:t=(!b)->B e H):Vk (.bool t) b A B e H:=mF _ _ _ _ ht hf
end
def Sl(s:ByteArray):s.data.toList.length=s.size:=by
 have:s.size=s.data.size:=rfl
 rw [this,Array.length_toList]
def Fl{α:Type}{l:List α}{k:Nat}{x:α}{xs:List α}(h:l.drop k=x::xs):l.length=k+xs.length+1:=by
 have:=congrArg List.length h
 simp at this;omega
def AFS(e:Fp)(H:FN):At e e H H=True:=by simp [At]
section
variable {P:Program} {m:Nat} {h:Eb} {e:Fp} {H:FN} {Q:Exit->Kt} {ops:Array Oper} {ar:Option Nat} {α σ ρ:Type}
def ACK(F:List α->ρ)(E:Nat->Fp)(HH:FN)(k:Nat)(x:α)(xs:List α)(Q:Exit->Kt)(ex:Exit):Kt:=λe H =>
 match ex with
 | .normal=>F (x::xs)=F xs/\At e (E (k+1)) H HH
 | ex=>Q ex e H
def iM(F:List α->ρ)(E:Nat->Fp)(HH:FN)(k:Nat)(x:α)(xs:List α):ACK F E HH k x xs Q .normal e H=(F (x::xs)=F xs/\At e (E (k+1)) H HH):=AH rfl rfl
def ACJ(F:List α->ρ)(E:Nat->Fp)(HH:FN)(k:Nat)(x:α)(xs:List α):ACK F E HH k x xs Q .ret=Q .ret:=AH rfl rfl
def wy(F:List α->ρ)(E:Nat->Fp)(HH:FN)(k:Nat)(x:α)(xs:List α)(j:Nat):ACK F E HH k x xs Q (.exit j)=Q (.exit j):=AH rfl rfl
def FZ {c:Code} (l:List α) (F:List α->ρ) (E:Nat->Fp) (hl:l.length<=9223372036854775807) (he:e=E 0)
  (round : ∀ k x xs,l.drop k=x::xs->l[k]? =some x->F l=F (x::xs)->0<=(k:Int)->(k:Int)<(l.length:Int)->IntKind.i64.wrap ((k:Int)+1)=((k+1:Nat):Int)->I8 P m h ar c (ACK F E H k x xs Q) (E k) H)
  (fin:F l=F [] -> ¬ (l.length:Int)<(l.length:Int)->I8 P m h ar c (pV Q) (E l.length) H):I8 P m h ar (.loop c) Q e H:=by
 refine Fo l (λ(_:Unit) l=>F l) (λ_ _=>True) (λk _=>E k) (λ_ _=>H) () hl trivial he rfl (λk _ x xs h1 h2 _ h4 h5 h6 h7=>?_) λ_ _ h1=>fin h1 (Int.lt_irrefl _)
 refine GV c _ _ _ _ (λex e H hq=>?_) (round k x xs h1 h2 h4 h5 h6 h7)
 cases ex with
 | normal=>exact ⟨(),hq.1,trivial,hq.2⟩
 | _=>exact hq
def WG {c:Code} (s:ByteArray) (F:List UInt8->ρ) (E:Nat->Fp) (hl:s.size<=9223372036854775807) (he:e=E 0)
  (round : ∀ k x xs,s.data.toList.drop k=x::xs->(s.data[k]?).getD 0=x->F s.data.toList=F (x::xs)->0<=(k:Int)->(k:Int)<(s.size:Int)->IntKind.i64.wrap ((k:Int)+1)=((k+1:Nat):Int)->s.size=k+xs.length+1->I8 P m h ar c (ACK F E H k x xs Q) (E k) H)
  (fin:F s.data.toList=F [] -> ¬ (s.size:Int)<(s.size:Int)->I8 P m h ar c (pV Q) (E s.size) H):I8 P m h ar (.loop c) Q e H:=by
 refine FZ s.data.toList F E (by rw [Sl];exact hl) he (λk x xs h1 h2 h4 h5 h6 h7=>round k x xs h1 ?_ h4 h5 (by rw [Sl] at h6;exact h6) h7 (by have:=Fl h1;rw [Sl] at this;exact this)) ?_
 ·rw [Ad] at h2;rw [h2];rfl
 ·rw [Sl];exact fin
end
section
variable {P:Program} {n:Nat} {h:Eb} {H:FN} {Q:Exit->Kt} {ops:Array Oper} {ar:Option Nat} {K:Fp->FN->Prop}
end
theorem FL(a b:ByteArray):(a.toList==b.toList)=decide (a=b):=by
 rw [Bool.eq_iff_iff,beq_iff_eq,decide_eq_true_eq,ByteArray.toList_eq,ByteArray.toList_eq]
 exact ⟨λh=>ByteArray.ext (Array.toList_inj.1 h),λh=>by rw [h]⟩
end Go.AI
namespace Go.AI
def aK{k:Nat}{v:AV}(h : ∀ c∈v.cells,c.bnd k=true):v.bnd k=true:=by
 cases v<;>first|exact h _ (Al.2 rfl)|skip
 simp only [AV.bnd]
 exact GK.2 h
def VRel.bnd{G:Gh}{w:World}{a:AV}{v:Value}(h:EZ G w a v):a.bnd G.obs.length=true:=by
 induction h with
 | ptr o off b h hc=>simpa [AV.bnd] using (AD.1 h).1
 | cptr cs off b q u h hu ih =>
  simp only [AV.bnd]
  refine GK.2 λc hc=>?_
  obtain ⟨i,hi⟩:=Af hc
  exact ih i c hi
 | sl own es sz b q cap u hsz hown hl hm h hu ih =>
  simp only [AV.bnd]
  refine GK.2 λe he=>aK λc hc=>?_
  obtain ⟨i,hi⟩:=Af (Bx.2 ⟨e,he,hc⟩:c∈HM es)
  exact ih i c hi
 | msl o off len sz b cap h hl hm hc=>simpa [AV.bnd] using (AD.1 h).1
 | mslc o off len sz cap b h hl hm hc=>simpa [AV.bnd] using (AD.1 h).1
 | fn f first captured fi ca h1 h2 h3 h4 ih1 ih2 =>
  simp only [AV.bnd,AR]
  refine ⟨GK.2 λc hc=>?_,GK.2 λc hc=>?_⟩
  ·obtain ⟨i,hi⟩:=Af hc
   have hl:=(AD.1 hi).1
   exact ih1 i c _ hi (Ai FM)
  ·obtain ⟨i,hi⟩:=Af hc
   have hl:=(AD.1 hi).1
   exact ih2 i c _ hi (Ai FM)
 | mapr o b h hb hk=>simpa [AV.bnd] using (AD.1 h).1
 | it o b h hb hk=>simpa [AV.bnd] using (AD.1 h).1
 | yld o b L h hb hk=>simpa [AV.bnd] using (AD.1 h).1
 | ifc t a v hs h ih=>simpa [AV.bnd] using ih
 | agg cs vs hl hs h ih =>
  simp only [AV.bnd]
  refine GK.2 λc hc=>?_
  obtain ⟨i,hi⟩:=Af hc
  have hlt:=(AD.1 hi).1
  exact ih i c _ hi (Ai FM)
 | tup cs vs hl hs h ih =>
  simp only [AV.bnd]
  refine GK.2 λc hc=>?_
  obtain ⟨i,hi⟩:=Af hc
  have hlt:=(AD.1 hi).1
  exact ih i c _ hi (Ai FM)
 | _=>rfl
section
variable {P:Program} {F:Nat->Prop} {G:Gh} {w:World} {H:FN}
def ORel.bnd{cs:List AV}{b:Nat}(h:ORel F G w cs b):Fj G.obs.length cs=true:=by
 have hi:=h.is
 split at hi
 ·obtain ⟨C,E,g1,g2,g3⟩:=hi
  refine GK.2 λc hc=>?_
  obtain ⟨i,hci⟩:=Af hc
  have hlt:=(AD.1 hci).1
  exact (g3 i c _ hci (Ai FM)).2.1.bnd
 ·obtain ⟨es,ms,cl,g1,g2,g3,g4,g5⟩:=hi
  subst g2
  simp only [Jx,Fj,AV.bnd,Bn]
  refine GK.2 λc hc=>?_
  obtain ⟨p,hp,hc⟩:=Bx.1 hc
  obtain ⟨i,hpi⟩:=Af hp
  have hlt:=(AD.1 hpi).1
  obtain ⟨_,_,a3,a4⟩:=g4 i p _ hpi (Ai FM)
  rcases AZ.1 hc with rfl|hc
  ·exact a3.bnd
  ·rcases Al.1 hc with rfl
   exact a4.bnd
 ·rcases hi with ⟨s,pos,h1,rfl⟩|⟨h1,rfl⟩|⟨o,mb,si,se,h1,rfl,h3⟩
  ·simp [Vd,Fj,AV.bnd]
  ·simp [Fj,AV.bnd]
  ·have:=h3.bnd
   simp only [TN,Fj,this,Bz,Bn]
   simp only [AV.bnd,Bz]
   exact Hi λ_=>rfl
 ·obtain ⟨s,pe,t,D,st,vals,g1,g2,g3,g4,g5⟩:=hi
  subst g3
  simp only [G5,Fj,AV.bnd,Bn,Bz]
  refine GK.2 λc hc=>?_
  obtain ⟨i,hci⟩:=Af hc
  have hlt:=(AD.1 hci).1
  exact (g5 i c _ hci (Ai FM)).2.bnd
 ·exact hi.elim
def HRel.closed(h:HRel F G H w):Rb H:=λo cs ho=>by
 have hlt:=(AD.1 ho).1
 have hl:=h.len
 have:=(h.obj o cs _ ho (AL FM)).bnd
 rwa [hl] at this
def FT.drop{f:FuncId}{vs:List AV}{v:AV}(hv:v.bnd H.length=true)(h:FT P f vs H λv' H'=>v'=v /\ ∃ ext,H'=H++ext):FT P f vs H λv' H'=>v'=v/\H'=H :=
 ⟨h.1,λF G w us hc=>Calls.mono (h.2 F G w us hc) λe w' he=>by
  obtain ⟨u,rfl,v',H2,G',⟨rfl,ext,rfl⟩,hcr,hext⟩:=he
  refine ⟨u,rfl,_,H,_,⟨rfl,rfl⟩,hcr.cut hv hc.h.closed,⟨hext.size,⟨λo b ho=>?_,hext.keeps.shape,hext.keeps.sp,hext.keeps.safe⟩,hext.kind,hext.cells,hext.io⟩⟩
  have hlt:=(AD.1 ho).1
  show (G'.obs.take H.length)[o]? =some b
  rw [Bu (by have:=hc.h.len;omega)]
  exact hext.keeps.obs o b ho⟩
end
def mR(H x:FN):(∃ ext,H++x=H++ext)=True:=eq_true ⟨x,rfl⟩
def fk(H:FN):(∃ ext,H=H++ext)=True:=eq_true ⟨[],sm⟩
def ARt(f:Fn)(a b:List AV)(n:Nat):(AV.fn f a b).bnd n=(Fj n a&&Fj n b):=rfl
end Go.AI
namespace Go.AI
section
variable {P:Program} {n:Nat} {h:Eb} {ops:Array Oper} {K:Kt} {p:Tmp×AV} {e:Fp} {H:FN} {d:Tmp} {ty:TypeId} {ps:String} {af:Array Edge} {Q:Exit->Kt}
def Aba(P:Program)(t:TypeId)(x:AV)(d:Tmp)(K:Kt)(e:Fp)(H:FN):Prop:=Qn P t H x λv H'=>K ((d,v)::e) H'
def AUU(str:Bool)(x:AV)(d:Tmp)(K:Kt)(e:Fp)(H:FN):Prop :=
 match x with
 | .it o=>WJ str H o λv H'=>K ((d,v)::e) H'
 | _=>False
def AG7(P:Program)(t:TypeId)(ok:Bool)(m k:AV)(d:Tmp)(K:Kt)(e:Fp)(H:FN):Prop :=
 match P.underlying t with
 | some (.map kt et)=>match Ih H m with
  | some es=>MN P kt (k::es.map (·.1))/\RX es /\ ∃ z,Fg P et=some z/\K ((d,dt ok z (I9 k es 0))::e) H
  | none=>False
 | _=>False
def AGb(P:Program)(t:TypeId)(m k v:AV)(K:Kt)(e:Fp)(H:FN):Prop :=
 match m with
 | .mapr o=>match P.underlying t with
  | some (.map kt _)=>match Ih H (.mapr o) with
   | some es=>MN P kt (k::es.map (·.1))/\RX es/\v.isVal=true/\K e (H.set o (some (Jx (ML es k v))))
   | none=>False
  | _=>False
 | _=>False
def iI(t:TypeId):IX P n h ops ⟨some d,.makeMap t none,ty,ps,af,none⟩ K (p::e) H=(d<n/\K ((d,.mapr H.length)::p::e) (H++[some (Jx [])])):=by
 rw [F3 _ rfl]
 simp only [Fy,HN,Op.operands,GC,Ag,put,Gf]
 rfl
def wo(t:TypeId)(x:Operand):IX P n h ops ⟨some d,.range t x,ty,ps,af,none⟩ K (p::e) H=(d<n/\Aba P t (Gy P none (p::e) x).borrow d K (p::e) H):=by
 rw [F3 _ rfl]
 simp only [Fy,HN,Op.operands,GC,AT,Ag,put,Gf]
 rfl
def ACE(x:Operand)(b:Bool):IX P n h ops ⟨some d,.next x b,ty,ps,af,none⟩ K (p::e) H=(d<n/\AUU b (Gy P none (p::e) x).borrow d K (p::e) H):=by
 rw [F3 _ rfl]
 simp only [Fy,HN,Op.operands,GC,AT,Ag,put,Gf]
 congr 1
 unfold AUU
 generalize (Gy P none (p::e) x).borrow=v
 cases v<;>rfl
def nY(t:TypeId)(x k:Operand)(ok:Bool):IX P n h ops ⟨some d,.lookup t x k ok,ty,ps,af,none⟩ K (p::e) H =
  (d<n/\AG7 P t ok (Gy P none (p::e) x).borrow (Gy P none (p::e) k).borrow d K (p::e) H):=by
 rw [F3 _ rfl]
 simp only [Fy,HN,Op.operands,GC,AT,Ag,put,Gf]
 rfl
def XT(t:TypeId)(x k v:Operand):IX P n h ops ⟨none,.mapUpdate t x k v,ty,ps,af,none⟩ K (p::e) H =
  AGb P t (Gy P none (p::e) x).borrow (Gy P none (p::e) k).borrow (Gy P none (p::e) v).borrow K (p::e) H:=by
 rw [F3 _ rfl]
 simp only [Fy,HN,Op.operands,GC,AT,Ag,put,Gf]
 rw [true_and]
 generalize (Gy P none (p::e) x).borrow=xv
 cases xv<;>rfl
end
def dp{H:FN}{o:Nat}{es:List (AV×AV)}(h:H[o]? =some (some (Jx es))):Ih H (.mapr o)=some es:=by
 simp only [Ih,h,S6]
def VY{P:Program}{kt:TypeId}{k:IntKind}(h:P.underlying kt=some (.int k)){ks:List AV}(hk : ∀ a∈ks,∃ n,a = .int k n):MN P kt ks :=
 ⟨_,KLaw.plain h,λa ha=>by obtain ⟨n,rfl⟩:=hk a ha;exact ⟨_,rfl,rfl⟩⟩
def LL{α:Type}(f:α->AV)(l:List α):List (AV×AV):=l.map λx=>(f x,.bool true)
def Pd{α:Type}(f:α->AV)(k:AV): ∀ (l:List α) (i:Nat),(I9 k (LL f l) i).map (·.2)=if l.any (λx=>Hm (f x) k)=true then some (.bool true) else none
 | [],i=>rfl
 | x::l,i=>by
  unfold LL
  rw [AT,I9,Au]
  by_cases h:Hm (f x) k=true
  ·rw [iP h,h];rfl
  ·rw [iN h]
   have h2:Hm (f x) k=false:=by simpa using h
   rw [h2,BL]
   exact Pd f k l (i+1)
def AG8{α:Type}(f:α->AV)(k:AV)(l:List α):dt false (.bool false) (I9 k (LL f l) 0) = .bool (l.any λx=>Hm (f x) k):=by
 have h:=Pd f k l 0
 cases ha:I9 k (LL f l) 0 with
 | none =>
  rw [ha] at h
  split at h
  ·cases h
  ·rename_i hn
   have:(l.any λx=>Hm (f x) k)=false:=by simpa using hn
   rw [this];rfl
 | some q =>
  rw [ha] at h
  split at h
  ·rename_i hy
   obtain ⟨j,v⟩:=q
   have hv:v = .bool true:=by simpa using h
   subst hv
   rw [hy];rfl
  ·cases h
def ADJ{α:Type}(f:α->AV)(x:α)(l:List α)(h:(l.any λy=>Hm (f y) (f x))=false):ML (LL f l) (f x) (.bool true)=LL f (l++[x]):=by
 have h2:=Pd f (f x) l 0
 rw [h] at h2
 have h3:I9 (f x) (LL f l) 0=none:=by
  cases ha:I9 (f x) (LL f l) 0 with
  | none=>rfl
  | some q=>rw [ha] at h2;cases h2
 unfold ML
 rw [h3]
 simp [LL]
def cK{α:Type}(f:α->AV)(l:List α):(LL f l).map (·.1)=l.map f:=by simp [LL,List.map_map]
def RW{α:Type}(f:α->AV):List α->Prop
 | []=>True
 | x::l=>(∀ y∈l,Hm (f x) (f y)=false)/\RW f l
def Vw{α:Type}(f:α->AV): ∀ {l:List α},RW f l->RX (LL f l)
 | [],_=>List.Pairwise.nil
 | x::l,h=>List.Pairwise.cons (λq hq=>by obtain ⟨y,hy,rfl⟩:=AO.1 hq;exact h.1 y hy) (Vw f h.2)
def Vx{α:Type}(f:α->AV)(x:α): ∀ {l:List α},RW f l->(l.any λy=>Hm (f y) (f x))=false->RW f (l++[x])
 | [],_,_=>⟨λy hy=>by simp at hy,trivial⟩
 | y::l,h,ha=>by
  rw [Au,Bool.or_eq_false_iff] at ha
  refine ⟨λz hz=>?_,Vx f x h.2 ha.2⟩
  rcases Ay.1 hz with hz|hz
  ·exact h.1 z hz
  ·rcases Al.1 hz with rfl
   exact ha.1
attribute [go_sem] rP ze vq mf yZ mU AEM AEO AA6 AEN AA3 AA4 AA2 AA5 di dh rB ky qz kp q9 kx q8 q7 rA kv zI ku rC qy kz lB dJ lA nJ gf nG nH ge wO nI gY wP nK nF nL gh wA vz mo vw mh vx ABI vy r9 r8 lx r5 r6 AAG r7 kw qx rD dI gd nE ml mi ABJ mj vu lw AAH rz ATy AGd AGc kG qR ABh wS mE AEA AED AEB AEC AAk yH AEU AEV AB7 wb AB4 AEy AB5 AEx wa AB6 nP XQ AEQ AAp AAo AAn cM yJ qZ gk ABi ABj wT ACT ip ADN ADM cT yV yR yS yQ kS qQ kF wq ACF nZ ACD AFA ACG wl aY ACB XW wr iJ AE8 wu ARx ARw dZ dg db de Zd W9 AB1 ABr ABv ABt ABs AB0 ABu ABw ABx ABy ABz wW wV wZ wY XV wp na wc AEz AE5 qc ACA wh AB9 ACI aZ wt WI wn AE6 AE7 ADr ADs iK XU AR2 AR1 wv ws AE9 ACH iL zn ADu zm qN fX xi fV xk qK qO qI xf mO fh cE cD qM kC kA fY vc j3 ADI xe ZI qa kO mS gj gi aJ nM ZG cH qb vp gH Z9 wR nN AEq AEr ARs APs vX ABL AFS iM ACJ wy mR fk ARt iI wo ACE nY XT
end Go.AI
