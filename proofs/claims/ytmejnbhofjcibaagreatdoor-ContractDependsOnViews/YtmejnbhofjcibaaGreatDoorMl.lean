/- A part. -/
import Derived.Test.YtmejnbhofjcibaaGreatDoorMk
set_option linter.unusedSimpArgs false
set_option linter.unusedVariables false
set_option linter.defProp false
set_option maxHeartbeats 8000000
open Go.Proofs.Tryz
open Go.AI renaming Setup->FG,Tenant->FH,Head->FI,Item->FJ,Stage->FL,Entry->FM,Arrival->FN,Variable->FO,Delivery->FP,Contract->FQ
open Bool renaming and_eq_true->AM,not_false->Aw,not_true->As
open Eq renaming trans->AG
open Int renaming lt_irrefl->AQ,toNat_natCast->Ag
open List renaming all_eq_true->Am,any_eq_true->CW,append_assoc->AE,append_nil->Af,countP_cons->ES,drop_zero->BC,filter_append->CY,getElem?_append->C8,getElem?_concat_length->Bg,getElem?_eq_getElem->AH,getElem?_eq_some_iff->AC,getElem?_of_mem->Ae,getElem?_take->Aj,length_append->AF,length_cons->AD,length_eq_zero_iff->Ck,length_filter_le->Cy,length_map->Ap,length_nil->AJ,length_singleton->BL,length_take->BF,mem_append->Ar,mem_cons->AY,mem_cons_of_mem->B0,mem_cons_self->CO,mem_map->AO,mem_of_getElem?->AB,mem_singleton->Ab,take_add_one->BD,take_length->BI
open Nat renaming le_refl->AT,le_succ->DS,le_trans->AL,lt_of_lt_of_le->BP,lt_trichotomy->ER,pow_le_pow_right->BX,pow_succ->DL,sub_self->AP,zero_add->AU
open Go.Proofs.Tryz renaming prog->AA
namespace Go.AI
open Go.Proofs
def iz{s:FG}{t:FH}(h1:JK s t=0): ∀x∈t.ports,-1<=x.edge/\x.edge<(s.network.edges.length:Int):=by
 have h2:Ii s t=0:=by
  unfold JK at h1
  split at h1
  ·cases h1
  ·split at h1
   ·rename_i hne;exact absurd h1 hne
   ·rename_i hne;simpa using hne
 have h3:IN (P1 s.network.edges.length) QG t.ports=true:=by
  unfold Ii at h2
  split at h2
  ·cases h2
  split at h2
  ·cases h2
  split at h2
  ·cases h2
  ·rename_i hne;simpa using hne
 have h4:∀(r:List Port) (i:Nat),IY (P1 s.network.edges.length) QG t.ports i r=true -> ∀x∈r,-1<=x.edge/\x.edge<(s.network.edges.length:Int):=by
  intro r
  induction r with
  |nil=>intro i _ x hx;cases hx
  |cons y r ih =>
   intro i hi x hx
   simp only[IY,AM]at hi
   rcases AY.1 hx with rfl|hx
   ·have:=hi.1.1;simp only[P1,AM,decide_eq_true_eq]at this;exact this
   ·exact ih _ hi.2 x hx
 exact h4 t.ports 0 h3
def R19.ckE{s:FG}(h:R19 s){k:Nat}{t:FH}(ht:s.tenants[k]? =some t):JK s t=0/\(GE t).2=0/\Ja s k t=false:=by
 have h1:=h.ten k t ht
 unfold Qd at h1
 split at h1
 ·rename_i hne;exact absurd h1 hne
 rename_i h2
 split at h1
 ·rename_i hne;exact absurd h1 hne
 rename_i h3
 split at h1
 ·cases h1
 split at h1
 ·cases h1
 rename_i h5
 exact⟨by simpa using h2,by simpa using h3,by simpa using h5⟩
def VD{e:Int}(he:0<=e): ∀{l:List Port} {i:Nat} {x:Port},x∈l->x.edge=e->0<=Ik e i l
 | y::l,i,x,hx,hxe=>by
  rw[Ik]
  split
  ·omega
  ·rename_i hn
   rcases AY.1 hx with rfl|hx
   ·exact absurd ⟨he,hxe⟩ hn
   ·exact VD he hx hxe
def La{e:Int}: ∀{l:List Port} {i:Nat},0<=JQ e i l -> ∃(j:Nat) (x:Port),l[j]? =some x/\x.edge ≠ -1/\x.edge=e/\JQ e i l=((i+j:Nat):Int)
 |[],i,h=>by rw[JQ]at h;exact absurd h dc
 | y::l,i,h=>by
  rw[JQ]at h ⊢
  by_cases hy:y.edge ≠ -1/\y.edge=e
  ·rw[iP hy];exact⟨0,y,rfl,hy.1,hy.2,rfl⟩
  ·rw[iN hy]at h ⊢
   obtain⟨j,x,h1,h2,h3,h4⟩:=La h
   exact⟨j+1,x,h1,h2,h3,by rw[h4];congr 1;omega⟩
def Yp{s:FG}(hR:R19 s){i j:Nat}{t u:FH}(ht:s.tenants[i]? =some t)(hu:s.tenants[j]? =some u){e:Int}(h1:0<=Hz t e)(h2:0<=Hz u e):i=j:=by
 have key:∀{i j:Nat} {t u:FH},s.tenants[i]? =some t->s.tenants[j]? =some u->0<=Hz t e->0<=Hz u e->i<j->False:=by
  intro i j t u ht hu h1 h2 hij
  obtain⟨a,x,x1,x2,x3,_⟩:=La h1
  obtain⟨b,y,y1,y2,y3,_⟩:=La h2
  obtain⟨k1,_,k3⟩:=hR.ckE hu
  have hy:=iz k1 y (AB y1)
  have he:0<=e:=FR
  have hc:Ja s j u=true:=by
   unfold Ja
   refine CW.2 ⟨y,AB y1,CW.2 ⟨t, ?_, ?_⟩⟩
   ·exact AB (i:=i) (by rw[Aj,iP hij];exact ht)
   ·have hpo:0<=IS t e:=VD he (AB x1) x3
    rw[y3,decide_eq_true he,decide_eq_true hpo];rfl
  rw[hc]at k3;cases k3
 rcases ER i j with h|h|h
 ·exact(key ht hu h1 h2 h).elim
 ·exact h
 ·exact(key hu ht h2 h1 h).elim
def inE(h:FI):Int:=i64 (h.h0 - 10000)
def O9{t:FH}{h:FI}:(MF t h).2=true↔0<=Hz t (inE h):=by
 unfold MF Kj inE
 split<;>simp<;>omega
def WE{h:FI}: ∀{l:List FH} {k:Nat} {x:FJ},x∈ME h k l -> ∃(j:Nat) (t:FH),l[j]? =some t/\x.tenant=((k+j:Nat):Int)/\x.chain=[]/\(MF t h).2=true/\x.head=(MF t h).1
 |[],k,x,hx=>by rw[ME]at hx;cases hx
 | t::l,k,x,hx=>by
  rw[ME]at hx
  have rec':x∈ME h (k+1) l -> ∃(j:Nat) (u:FH),(t::l)[j]? =some u/\x.tenant=((k+j:Nat):Int)/\x.chain=[]/\(MF u h).2=true/\x.head=(MF u h).1:=λhx=>by
   obtain⟨j,u,h1,h2,h3,h4,h5⟩:=WE hx
   exact⟨j+1,u,h1,by rw[h2];congr 1;omega,h3,h4,h5⟩
  split at hx
  ·rename_i he
   rcases AY.1 hx with rfl|hx
   ·exact⟨0,t,rfl,rfl,rfl,he,rfl⟩
   ·exact rec' hx
  ·exact rec' hx
def ib(h:FI):Nat->List FH->Int
 |_,[] => -1
 |k,t::r=>if(MF t h).2=true then(k:Int)else ib h (k+1) r
def WD{h:FI}: ∀ {l:List FH} {k:Nat},(ib h k l = -1/\ME h k l=[] /\ ∀ t∈l,(MF t h).2=false) \/ ∃ (j:Nat) (t:FH),l[j]? =some t/\ib h k l=((k+j:Nat):Int)/\(MF t h).2=true
 |[],k => .inl ⟨rfl,rfl,sm⟩
 | t::l,k=>by
  rw[ib,ME]
  cases he:(MF t h).2 with
  |true=>rw[iP rfl];exact .inr ⟨0,t,rfl,rfl,he⟩
  | false =>
   rw[iN dc,iN dc]
   rcases WD (h:=h) (l:=l) (k:=k+1)with⟨h1,h2,h3⟩|⟨j,u,h1,h2,h3⟩
   ·refine .inl ⟨h1,h2,λu hu=>?_⟩
    rcases AY.1 hu with rfl|hu
    ·exact he
    ·exact h3 u hu
   ·exact .inr ⟨j+1,u,h1,by rw[h2];congr 1;omega,h3⟩
def ACQ{s:FG}(hR:R19 s){h:FI}{a:Nat}{t:FH}(ha:s.tenants[a]? =some t)(he:(MF t h).2=true):itP s a (ME h 0 s.tenants):=by
 intro x hx
 obtain⟨j,u,h1,h2,h3,h4,_⟩:=WE hx
 rw[AU]at h2
 have:j=a:=Yp hR h1 ha (O9.1 h4) (O9.1 he)
 subst this
 have hl:=(AC.1 h1).1
 refine⟨FR,FR, ?_⟩
 rw[h2,h3,Ag]
 rfl
def xT{s:FG}{t:FH}(h1:JK s t=0):Zd t/\QN s.fields t.program=0/\t.ports.length<=64:=by
 unfold JK at h1
 split at h1
 ·cases h1
 ·rename_i hlim
  split at h1
  ·rename_i hne;exact absurd h1 hne
  ·rename_i hpo
   split at h1
   ·rename_i hne;exact absurd h1 hne
   ·rename_i hpr
    have hpo:Ii s t=0:=by simpa using hpo
    have hpr:Mw s t=0:=by simpa using hpr
    refine⟨?_, ?_,FR⟩
    ·intro w hw
     have hok:IN (RX t) RW t.wires=true:=by
      unfold Ii at hpo
      split at hpo
      ·cases hpo
      split at hpo
      ·cases hpo
      split at hpo
      ·cases hpo
      split at hpo
      ·cases hpo
      ·rename_i hne;simpa using hne
     obtain⟨k,hk⟩:=Ae hw
     have:=(mY hok k w hk).1
     unfold RX J' HZ at this
     simp only[AM,decide_eq_true_eq]at this
     omega
    ·unfold Mw at hpr
     split at hpr
     ·rename_i hne;exact absurd hpr hne
     ·rename_i hne;simpa using hne
def AB_{x:Stp}(h:ZA x=true):(x.kind=0/\x.key.length=0)\/((1<=x.kind/\x.kind<=6)/\x.key.length<=4/\(x.kind=4->0<=x.n/\x.n<=x.m/\x.m<=65535)/\(x.kind=5->Uk x.field=true)/\(x.kind=6->(1<=x.n/\x.n<=65535)/\1<=x.m/\x.m<=1073741824)):=by
 unfold ZA at h
 split at h
 ·rename_i he
  left
  unfold Xk at he
  simp only[AM,beq_iff_eq]at he
  exact⟨he.1.1,he.1.2.2.2.2.2⟩
 ·split at h
  ·cases h
  ·rename_i hk
   right
   have hkl:x.key.length<=4:=by
    simp only[not_or]at hk
    omega
   split at h
   ·rename_i e;exact⟨FR,hkl,FR,FR,FR⟩
   split at h
   ·rename_i e;exact⟨FR,hkl,FR,FR,FR⟩
   split at h
   ·rename_i e;exact⟨FR,hkl,FR,FR,FR⟩
   split at h
   ·rename_i e
    simp only[AM,decide_eq_true_eq]at h
    exact⟨FR,hkl,λ_=>h.2,FR,FR⟩
   split at h
   ·rename_i e
    simp only[AM]at h
    exact⟨FR,hkl,FR,λ_=>h.1,FR⟩
   split at h
   ·rename_i e
    simp only[AM,decide_eq_true_eq]at h
    exact⟨FR,hkl,FR,FR,λ_=>⟨⟨h.2.1,h.2.2.1⟩,h.2.2.2.1,h.2.2.2.2⟩⟩
   ·cases h
def fN{l:List Fld}{s:Stp}(h:MU l s=0):okStp l s:=by
 have hf:ZA s=true:=by
  unfold MU at h
  split at h
  ·unfold dB at h
   split at h
   ·assumption
   ·cases h
  ·rename_i hn
   simp only[not_or,ne_eq,Decidable.not_not]at hn
   have:=hn.1
   unfold dB at this
   split at this
   ·assumption
   ·cases this
 have hall:s.kind≠0->(J5 s).all (λy=>(Ff l y).2)=true:=by
  intro h0
  unfold MU at h
  split at h
  ·rename_i hc
   rcases hc with hc|hc
   ·unfold dB at hc
    rw[hf]at hc
    exact absurd rfl hc
   ·exact absurd hc h0
  ·split at h
   ·cases h
   ·rename_i hn;simpa using hn
 have hkey:s.kind≠0 -> ∀nm∈s.key,(Ff l nm).2=true:=λh0 nm hm=>by
  refine Am.1 (hall h0) nm ?_
  unfold J5
  split
  ·exact hm
  ·exact List.mem_append_left _ hm
 rcases AB_ hf with⟨h0,hk⟩|⟨hkd,hk,h4,h5,h6⟩
 ·exact⟨FR,FR,hkey,FR,FR,FR,FR⟩
 ·refine⟨FR,FR,hkey,λhc=>?_,λe=>(h4 e).2.2,λe=>(h6 e).2,λe=>?_⟩
  ·rcases hc with e|e
   ·have:=h4 e;omega
   ·have:=(h6 e).1;omega
  ·refine Am.1 (hall FR) s.field ?_
   unfold J5
   have hne:s.field≠⟨#[]⟩:=by
    intro he
    have:=h5 e
    rw[he]at this
    exact absurd this dk
   rw[iN hne]
   exact List.mem_append_right _ (Ab.2 rfl)
def QZ{l:List Fld}{p:List FL}: ∀{r:List FL} {i:Nat},LP l p i r=true -> ∀(k:Nat) (x:FL),r[k]? =some x -> ∀y∈p.take (i+k),LT l y.step x.step=false
 |[],i,_,k,x,hx,_,_=>by simp at hx
 | z::r,i,h,k,x,hx,y,hy=>by
  rw[LP,AM]at h
  match k,hx with
  | 0,hx =>
   have:z=x:=by simpa using hx
   subst this
   have h1:=h.1
   rw[Bool.not_eq_true',List.any_eq_false]at h1
   simpa using h1 y hy
  |k+1,hx =>
   exact QZ h.2 k x (by simpa using hx) y (by rw[show i+1+k=i+(k+1) by omega];exact hy)
def ZM{l:List Fld}{s t:Stp}(h:LT l s t=false)(hs:s.kind≠0)(ht:t.kind≠0)(hv:s.var=t.var):s.key.length=t.key.length:=by
 unfold LT at h
 have e1:(s.kind !=0)=true:=by simpa using hs
 have e2:(t.kind !=0)=true:=by simpa using ht
 rw[e1,e2,decide_eq_true hv]at h
 have h3:UE l s t=true:=by simpa using h
 unfold UE at h3
 rw[AM,AM]at h3
 have h4:I3 l s.key=I3 l t.key:=by
  have:=h3.2.1
  unfold Xm at this
  exact of_decide_eq_true this
 have:=congrArg List.length h4
 unfold I3 at this
 simpa using this
def fQ{l:List Fld}{p:List FL}(h:QN l p=0):okPrg l p/\p.length<=8:=by
 obtain⟨h1,h2,h3,h4⟩:=rC h
 have hty:LP l p 0 p=true:=by
  unfold QN at h
  split at h
  ·rename_i hn;exact absurd h hn
  split at h
  ·rename_i hn;exact absurd h hn
  split at h
  ·assumption
  ·cases h
 refine⟨⟨λs hs=>fN (h3 s hs).2,λs hs=>(S6 (h3 s hs).1).2,λs hs t ht k1 k2 hv=>?_⟩,h1⟩
 obtain⟨i,hi⟩:=Ae hs
 obtain⟨j,hj⟩:=Ae ht
 rcases ER i j with hij|hij|hij
 ·exact ZM (QZ hty j t hj s (AB (i:=i) (by rw[Aj,iP FR];exact hi))) k1 k2 hv
 ·subst hij
  rw[hi]at hj
  cases hj
  rfl
 ·exact(ZM (QZ hty i s hi t (AB (i:=j) (by rw[Aj,iP FR];exact hj))) k2 k1 hv.symm).symm
def Lj{s:FG}(hR:R19 s){k:Nat}{t:FH}(ht:s.tenants[k]? =some t):okPrg s.fields (GE t).1/\(GE t).1.length<=8/\(GE t).1.map (·.step)=t.program.map (·.step)/\t.ports.length<=64:=by
 obtain⟨c1,c2,_⟩:=hR.ckE ht
 obtain⟨w1,w2,w3⟩:=xT c1
 rcases lO w1 w2 with⟨g1,_,_⟩|⟨_,g2,g3⟩
 ·rw[g1]at c2;cases c2
 ·obtain⟨o1,o2⟩:=fQ g2
  exact⟨o1,o2,g3,w3⟩
set_option maxRecDepth 50000
structure okSts (s:FG) (sts:List (List FM)):Prop where
 len:sts.length=s.tenants.length
 st:∀(k:Nat) (t:FH) (st:List FM),s.tenants[k]? =some t->sts[k]? =some st->(∀e∈st,fR e /\ ∀x∈t.program,Yr x.step e)/\st.length<=60
def zu{h:FI}(hr:FZ h=true):FZ { h with h9:=0 }=true:=by
 unfold FZ at hr ⊢
 simp only[Head.l,List.all_cons,List.all_nil,Bool.and_true,AM]at hr ⊢
 exact⟨hr.1,hr.2.1,hr.2.2.1,hr.2.2.2.1,hr.2.2.2.2.1,hr.2.2.2.2.2.1,hr.2.2.2.2.2.2.1,hr.2.2.2.2.2.2.2.1,hr.2.2.2.2.2.2.2.2.1,dc⟩
def xI{t:FH}{h:FI}(hp:t.ports.length<=64)(hr:FZ h=true)(he:(MF t h).2=true):FZ (MF t h).1=true:=by
 have h1:=O9.1 he
 obtain⟨j,x,h2,_,_,h3⟩:=La h1
 have hj:=(AC.1 h2).1
 have h4:Hz t (inE h)=((0+j:Nat):Int):=h3
 unfold MF Kj
 have h5:Hz t (i64 (h.h0 - 10000))=((0+j:Nat):Int):=h4
 rw[iN FR,h5]
 exact zu (U9 hr FR FR)
def fP{s:FG}(hR:R19 s)(hf:IQ s=true)(hb:FU s.c<=1048576){sts:List (List FM)}(hs:okSts s sts){h:FI}(hr:FZ h=true){tick:Int}(ht:0<=tick/\tick<=1073741824):okRun s sts h tick:=by
 have hbt:∀t∈s.tenants,FU t.c<=1048576:=λt hm=>by
  have h1:=L6 (Hk hb) hm
  simpa only[AV.bulk]using h1
 have hnt:s.tenants.length<=8:=by
  unfold IQ at hf
  simp only[AM,decide_eq_true_eq]at hf
  have:=hf.2.2.1
  omega
 have hprt:∀t∈s.tenants,t.ports.length<=64:=λt hm=>by
  obtain⟨k,hk⟩:=Ae hm
  exact(Lj hR hk).2.2.2
 refine⟨hb,hR.fld,FR,ht,hs.len,λk t hk=>⟨(Lj hR hk).1,by have:=(Lj hR hk).2.1;omega⟩,λt hm=>?_,λk t st h1 h2=>?_,λc hc=>hR.pred hc,λc hc=>?_,λc hc=>?_,λt hm=>by have:=hprt t hm;omega,λt hm he=>xI (hprt t hm) hr he⟩
 ·have hbm:=hbt t hm
  refine AEx t (AL (NA (Ht hbm)) dc) (AL (Lm (HE hbm)) dc) λx hx=>ZS ?_ (NA (Ht hbm))
  have h1:=Ka (HE hbm) hx
  have h2:FU x.c<=1048576:=by simpa only[AV.bulk]using h1
  exact Hu h2
 ·obtain⟨g1,g2⟩:=hs.st k t st h1 h2
  refine⟨λe he=>⟨(g1 e he).1,λx hx=>?_⟩,FR⟩
  have hmap:=(Lj hR h1).2.2.1
  have:x.step∈t.program.map (·.step):=by rw[<- hmap];exact AO.2 ⟨x,hx,rfl⟩
  obtain⟨y,hy,hxy⟩:=AO.1 this
  rw[<- hxy]
  exact(g1 e he).2 y hy
 ·have h0:=(NP (hR.con c hc)).2
  have hl:=an hR hc
  exact⟨h0,FR⟩
 ·have h1:=hR.con c hc
  have hl:=an hR hc
  have h0:=(NP h1).2
  unfold S5 at h1
  split at h1
  ·cases h1
  split at h1
  ·cases h1
  rename_i hn
  have hn:e_ (Hd s (GY s c.dst)) c.toPort=true:=by
   cases ho:e_ (Hd s (GY s c.dst)) c.toPort with
   |true=>rfl
   |false=>exact absurd (.inr (.inr ho)) hn
  unfold e_ at hn
  simp only[AM,decide_eq_true_eq]at hn
  obtain⟨u,hu⟩:∃u,s.tenants[(GY s c.dst).toNat]? =some u:=⟨_,AH hl⟩
  have ht2:Hd s (GY s c.dst)=u:=by unfold Hd;rw[hu];rfl
  rw[ht2]at hn
  have:=hprt u (AB hu)
  omega
def Xs(a:FN):Bool:=FZ a.head&&(a.head.h9==0&&(decide (0<=a.tick)&&decide (a.tick<=1073741824)))
def xm(a:FN):FT AA 21 [.agg a.c] (.bool (Xs a)):=by
 have c1:=xd a.head
 refine pC Abx rfl ?_
 simp only[f21,go_sem]
 repeat' (first|(apply pK c1;simp only[go_sem])|apply cg<;>intro hc<;>simp only[go_sem,hc])
 all_goals first
  |rfl
  |(simp only[Xs];rfl)
  |grind[Xs]
  |(simp only[Xs];grind)
  |(simp[Xs, *];done)
  |(simp_all[Xs];done)
  |skip
def ZP(s:FG)(hn:s.tenants.length<=1073741824)(hp:∀t∈s.tenants,t.ports.length<=1073741824)(h:FI):FT AA 6 [.agg s.c,.agg h.c] (.int .i64 (ib h 0 s.tenants)):=by
 refine pC Agl rfl ?_
 simp only[f6,go_sem]
 have gN:∀a b (L:cj) z,(a::b::(L++[z]))[List.length (a::b::L)]? =some z:=λa b L z=>by
  have:a::b::(L++[z])=(a::b::L)++[z]:=sm
  rw[this];exact Bg
 have sN:∀a b (L:cj) z z2,(a::b::(L++[z])).set (List.length (a::b::L)) z2=a::b::(L++[z2]):=λa b L z z2=>by
  have:a::b::(L++[z])=(a::b::L)++[z]:=sm
  rw[this];simp
 refine Fg s.tenants (λ(_:cj) (r:List FH)=>ib h (s.tenants.length - r.length) r) (λ_ _=>True) (λk _=>[(3,.ptr 1 0),(10,.sl none (HX s.tenants)),(11,.int .i64 s.tenants.length),(12,.int .i64 k)])
  (λ_ L=>some s.c::some h.c::L) [] FR trivial rfl rfl ?_ ?_
 ·intro k L t ts hd hx _ hF h0 h1 hw
  have c1:=bG t (hp t (AB hx)) h
  have eT:Kj (Hz t (i64 (h.h0 - 10000))) h=MF t h:=rfl
  rw[eT]at c1
  have hk2:=Fq hd
  have e1:s.tenants.length - (ts.length+1)=k:=FR
  have e2:s.tenants.length - ts.length=k+1:=FR
  simp only[AD,e1]at hF ⊢
  simp only[go_sem,h0,h1,F5 hx]
  apply pK c1
  cases he:(MF t h).2 with
  |true =>
   simp only[go_sem]
   rw[AP]at hF
   rw[hF,ib,iP he]
  |false =>
   simp only[go_sem,hw]
   exact⟨_,by rw[e1,e2,ib,iN (by rw[he];decide)],rfl,rfl⟩
 ·intro L _ hF
  simp only[go_sem,AQ,dF]
  rw[AP]at hF
  rw[hF];rfl
def xO(a:ByteArray):T' a a=0:=by unfold T';rw[aG,iN dc,iP rfl]
def ZH(x:Int):Nz x x=0:=by unfold Nz;simp
def ZJ:∀l:List Int,MT l l=0
 |[]=>rfl
 |x::l=>by rw[MT,ZH,iN dc];exact ZJ l
def ZL(e:FM):P6 e e=0:=by unfold P6;rw[xO,iN dc,ZJ]
def AVG(a b:List Int)(ha:a.length<=1073741824):FT AA 240 [.sl none (GK a),.sl none (GK b)] (.int .i64 (MT a b)):=by
 have ea:(GK a).length=a.length:=HR a
 have eb:(GK b).length=b.length:=HR b
 refine pC AMO rfl ?_
 simp only[f240,go_sem]
 refine Fg a (λ(_:Unit) r=>MT r (b.drop (a.length - r.length))) (λk _=>k<=b.length) (λk _=>[(0,.sl none (GK a)),(1,.sl none (GK b)),(5,.int .i64 k)]) (λ_ _=>[]) () FR (Nat.zero_le _) rfl rfl ?_ ?_
 ·intro k _ x xs hd hx hI hF h0 h1 hw
  have hk:=Fq hd
  have e1:a.length - (xs.length+1)=k:=FR
  have e2:a.length - xs.length=k+1:=FR
  simp only[AD,e1,AP,BC]at hF ⊢
  by_cases hkb:k<b.length
  ·obtain⟨y,hy⟩:∃y,b[k]? =some y:=⟨_,AH hkb⟩
   have hnb:(k:Int)<(b.length:Int):=FR
   rw[Ps hy,MT]at hF
   simp only[go_sem,h0,h1,Gl hx,Gl hy,ea,eb,hnb,dT]
   repeat' (first|apply cg<;>intro hc<;>simp only[go_sem,hc,h0,Gl hx,Gl hy,hw])
   ·have hc:=of_decide_eq_true hc
    have e3:Nz x y = -1:=by unfold Nz;rw[iP hc]
    rw[e3,iP dc]at hF
    rw[hF]
   ·rename_i hc1
    have hc1:=of_decide_eq_false hc1
    have hc2:=of_decide_eq_true hc
    have e3:Nz x y=1:=by unfold Nz;rw[iN hc1];first|rw[iP hc2]|rw[iN FR]
    rw[e3,iP dc]at hF
    rw[hF]
   ·rename_i hc1
    have hc1:=of_decide_eq_false hc1
    have hc2:=of_decide_eq_false hc
    have:x=y:=FR
    subst this
    rw[e1,e2,Ps hy,MT,ZH,iN dc]
    exact⟨(),rfl,FR⟩
  ·have hnb:¬(k:Int)<(b.length:Int):=FR
   rw[List.drop_eq_nil_of_le FR,MT]at hF
   have l1:¬(a.length:Int)<(b.length:Int):=FR
   have l2:(b.length:Int)<(a.length:Int):=FR
   simp only[go_sem,h1,ea,eb,hnb,dF,l1,l2,dT]
   rw[hF]
 ·intro _ hI hF
  rw[AP,BC,AJ,Nat.sub_zero]at hF
  simp only[go_sem,AQ,dF,ea,eb]
  cases hr:b.drop a.length with
  |nil =>
   have hlen:b.length<=a.length:=by simpa using hr
   rw[hr,MT]at hF
   have l1:¬(a.length:Int)<(b.length:Int):=FR
   have l2:¬(b.length:Int)<(a.length:Int):=FR
   simp only[go_sem,l1,l2,dF,ea,eb]
   rw[hF]
  |cons y ys =>
   have hlen:a.length<b.length:=by have:=Fq hr;omega
   have l1:(a.length:Int)<(b.length:Int):=FR
   rw[hr,MT]at hF
   simp only[go_sem,l1,dT]
   rw[hF]
def AF4(a b:FM)(ha:a.key.length<=1073741824):FT AA 181 [.agg a.c,.agg b.c] (.int .i64 (P6 a b)):=by
 have c1:=AVG a.key b.key ha
 refine pC APT rfl ?_
 simp only[f181,go_sem]
 repeat' (first|(apply pK c1;simp only[go_sem])|apply cg<;>intro hc<;>simp only[go_sem,hc,FV])
 ·have h1:TY a.var b.var=true:=hc
  simp[P6,T',h1]
 ·rename_i hc1
  have h1:TY a.var b.var=false:=hc1
  have h2:¬a.var=b.var:=by simpa using hc
  simp[P6,T',h1,h2]
 ·rename_i hc1
  have h1:TY a.var b.var=false:=hc1
  have h2:a.var=b.var:=by simpa using hc
  simp[P6,T',h2,aG]
def AEz(a:FM)(ha:a.key.length<=1073741824):FT AA 35 [.agg a.c,.agg a.c] (.bool true):=by
 have c1:=Z3 a a ha
 rw[ZL]at c1
 have v1:(a.n==a.n)=true:=sm
 have v2:(a.at_==a.at_)=true:=sm
 have v3:((0:Int)==0)=true:=rfl
 refine pC AHD rfl ?_
 simp only[f35,go_sem]
 apply pK c1
 simp only[go_sem,v1,v2,v3]
def AAi(l:List FM)(hl:l.length<=1073741824)(hk:∀e∈l,e.key.length<=1073741824):FT AA 34 [.sl none (Fd l),.sl none (Fd l),.fn (.func 35) [] []] (.bool true):=by
 have el:(Fd l).length=l.length:=Hl l
 have n0:((l.length:Int) !=(l.length:Int))=false:=sm
 refine pC AHE rfl ?_
 simp only[f34,go_sem,el,n0]
 refine Fg l (λ(_:Unit) _=>()) (λ_ _=>True) (λk _=>[(1,.sl none (Fd l)),(2,.fn (.func 35) [] []),(15,.sl none (Fd l)),(16,.int .i64 l.length),(17,.int .i64 k)]) (λ_ _=>[]) () FR trivial rfl rfl ?_ ?_
 ·intro k _ x xs hd hx _ _ h0 h1 hw
  have c1:=AEz x (hk x (AB hx))
  simp only[go_sem,h0,h1,GX hx,AD,AJ,AU]
  refine Fu.pure c1 ?_
  simp only[go_sem,hw,As]
  exact⟨(),trivial⟩
 ·intro _ _ _
  simp only[go_sem,AQ,dF]
def AEy(l:List FM)(hl:l.length<=1073741824)(hk:∀e∈l,e.key.length<=1073741824):FT AA 9 [.sl none (Fd l),.sl none (Fd l)] (.bool true):=by
 refine pC AX8 rfl ?_
 simp only[f9,go_sem]
 repeat' (first|(apply pK (AAi l hl hk);simp only[go_sem])|apply cg<;>intro hc<;>simp only[go_sem,hc])
def OO(l:List FO):List AV:=l.map λx => .agg x.c
@[go_sem] def ft(l:List FO):(OO l).length=l.length:=by simp[OO]
def fu{l:List FO}{i:Nat}{x:FO}(h:l[i]? =some x):(OO l)[i]? =some (.agg x.c):=by simp[OO,h]
@[go_sem] def AV3(a:List FO)(x:FO):OO a++[.agg x.c]=OO (a++[x]):=by simp[OO]
@[go_sem] def tK(l:List FO):FW (OO l)=true:=by
 induction l with
 |nil=>rfl
 |cons x xs ih=>simpa [OO,FW,AV.pure]using⟨UJ x,ih⟩
def oN(l:List FO)(hl:l.length<=1073741824)(v:ByteArray):FT AA 179 [.sl none (OO l),.str v] (.int .i64 (H8 (λx:FO=>decide (x.name=v)) l)):=by
 have el:(OO l).length=l.length:=ft l
 refine pC APb rfl ?_
 simp only[f179,go_sem]
 refine Fe l (λr=>G9 (λx:FO=>decide (x.name=v)) (l.length - r.length) r) (λk=>[(0,.sl none (OO l)),(1,.str v),(5,.int .i64 k)]) FR rfl ?_ ?_
 ·intro k x xs hd hx hF h0 h1 hw
  have hk2:=Fq hd
  have e1:l.length - (xs.length+1)=k:=FR
  have e2:l.length - xs.length=k+1:=FR
  simp only[AD,e1,AP]at hF
  simp only[go_sem,h0,h1,fu hx,el,FV]
  repeat' (first|apply cg<;>intro hc<;>simp only[go_sem,hc,hw,e1,e2])
  ·rw[H8,hF,G9,iP hc]
  ·rw[G9,iN (by rw[hc];decide)]
 ·intro hF hlt
  simp only[go_sem,hlt,dF,el]
  rw[AP]at hF
  rw[H8,hF];rfl
def AF0(l:List FM)(hl:l.length<=1073741824)(v:ByteArray):FT AA 182 [.sl none (Fd l),.str v] (.int .i64 (XT l v).length):=by
 have el:(Fd l).length=l.length:=Hl l
 refine pC APP rfl ?_
 simp only[f182,go_sem]
 refine Fg l (λ(_:Unit) _=>()) (λ_ _=>True) (λk _=>[(0,.sl none (Fd l)),(1,.str v),(5,.int .i64 (XT (l.take k) v).length),(6,.int .i64 k)]) (λ_ _=>[]) () FR trivial rfl rfl ?_ ?_
 ·intro k _ x xs hd hx _ _ h0 h1 hw
  have hkl:=(AC.1 hx).1
  have hle:(XT (l.take k) v).length<=k:=AL (Cy _ _) (by rw[BF];omega)
  have hw2:IntKind.i64.wrap (((XT (l.take k) v).length:Int)+1)=(((XT (l.take k) v).length+1:Nat):Int):=Mg FR
  have htk:l.take (k+1)=l.take k++[x]:=by rw[BD,hx];rfl
  simp only[go_sem,h0,h1,GX hx,el,FV]
  repeat' (first|apply cg<;>intro hc<;>simp only[go_sem,hc,hw,hw2])
  ·have hv:x.var=v:=of_decide_eq_true hc
   have:XT (l.take (k+1)) v=XT (l.take k) v++[x]:=by rw[htk];unfold XT;rw[CY];simp[hv]
   rw[this]
   exact⟨(),by first|rw[AF];rfl|rfl,rfl⟩
  ·have hv:¬x.var=v:=of_decide_eq_false hc
   have:XT (l.take (k+1)) v=XT (l.take k) v:=by rw[htk];unfold XT;rw[CY];simp[hv]
   rw[this]
   exact⟨(),by first|rw[AF];rfl|rfl,rfl⟩
 ·intro _ _ _
  simp only[go_sem,AQ,dF,el,BI]
def xg(n:Int)(hn:n<9223372036854775807):FT AA 239 [.int .i64 n] (.int .i64 (XH n.toNat)):=by
 refine pC AMS rfl ?_
 simp only[f239,go_sem]
 refine bO n.toNat (λk=>[(0,.int .i64 n),(3,.int .i64 (XH k)),(4,.int .i64 k)]) (λ_=>[]) rfl rfl ?_
 intro k hk
 by_cases h:(k:Int)<n
 ·have hw:=Mg (k:=k) FR
  simp only[go_sem,h,dT,hw]
  exact⟨FR,rfl,rfl⟩
 ·have:k=n.toNat:=FR
  subst this
  simp only[go_sem,h,dF]
def nb(v:FO)(e:FM):Prop:=e.key.length=v.widths.length/\(0<=e.n/\e.n<=65535)/\(0<=e.at_/\e.at_<=1073741824) /\ ∀x∈e.key,0<=x
def AIA(v:FO)(hw : ∀ w∈v.widths,w<9223372036854775807)(e:FM)(hk:e.key.length<=1073741824)(l:List FM)(hl:l.length<=1073741824):KL AA 180 [.agg v.c,.agg e.c,.sl none (Fd l)] λr => ∃ b,r = .bool b/\(b=true->nb v e):=by
 have el:(Fd l).length=l.length:=Hl l
 have ek:(GK e.key).length=e.key.length:=HR _
 have ew:(GK v.widths).length=v.widths.length:=HR _
 refine qC APX rfl ?_
 by_cases hb:e.key.length=v.widths.length/\(0<=e.n/\e.n<=65535)/\(0<=e.at_/\e.at_<=1073741824)
 ·obtain⟨b0,⟨b1,b2⟩,b3,b4⟩:=hb
  have n0:((e.key.length:Int) !=(v.widths.length:Int))=false:=by simp[b0]
  have n1:¬e.n<0:=FR
  have n2:¬65535<e.n:=FR
  have n3:¬e.at_<0:=FR
  have n4:¬1073741824<e.at_:=FR
  simp only[f180,go_sem,ek,ew,n0,n1,n2,n3,n4,dF]
  refine Fg e.key (λ(_:Unit) _=>()) (λk _ => ∀x∈e.key.take k,0<=x) (λk _=>[(2,.sl none (Fd l)),(3,.ptr 0 0),(4,.ptr 1 0),(7,.int .i64 k)]) (λ_ _=>[some v.c,some e.c]) () FR sm rfl rfl ?_ ?_
  ·intro k _ x xs hd hx hI _ h0 h1 hw1
   obtain⟨w,hwx⟩:∃w,v.widths[k]? =some w:=⟨_,AH (by have:=(AC.1 hx).1;omega)⟩
   have hkw:(k:Int)<(v.widths.length:Int):=FR
   have c1:=xg w (hw w (AB hwx))
   have htk:e.key.take (k+1)=e.key.take k++[x]:=by rw[BD,hx];rfl
   simp only[go_sem,h0,h1,ek,Gl hx]
   repeat' (first|(apply pK c1;simp only[go_sem])|apply cg<;>intro hc<;>simp only[go_sem,hc,h0,hw1,Gl hx,Gl hwx])
   all_goals first|exact⟨rfl,false,rfl,sm⟩|skip
   ·rename_i hc1
    refine⟨(),λy hy=>?_⟩
    rw[htk]at hy
    rcases Ar.1 hy with hy|hy
    ·exact hI y hy
    ·rcases Ab.1 hy with rfl
     have:=of_decide_eq_false hc1
     omega
  ·intro _ hI _
   have hq:nb v e:=⟨b0,⟨b1,b2⟩,⟨b3,b4⟩,by rw[BI]at hI;exact hI⟩
   simp only[go_sem,AQ,dF,ek]
   repeat' (first|apply cg<;>intro hc<;>simp only[go_sem,hc])
   all_goals first|exact⟨rfl,_,rfl,λ_=>hq⟩|skip
   refine Fg l (λ(_:Unit) _=>()) (λ_ _=>True) (λk _=>[(2,.sl none (Fd l)),(3,.ptr 0 0),(4,.ptr 1 0),(8,.int .i64 k)]) (λ_ _=>[some v.c,some e.c]) () FR trivial rfl rfl ?_ ?_
   ·intro k _ x xs hd hx _ _ h0 h1 hw1
    simp only[go_sem,h0,h1,el,GX hx]
    repeat' (first|apply cg<;>intro hc<;>simp only[go_sem,hc,h0,hw1,GX hx])
    all_goals first|exact⟨rfl,_,rfl,λ_=>hq⟩|exact⟨(),trivial⟩|skip
   ·intro _ _ _
    simp only[go_sem,AQ,dF,el]
    repeat' (first|apply cg<;>intro hc<;>simp only[go_sem,hc])
    all_goals first|exact⟨rfl,_,rfl,λ_=>hq⟩|skip
 ·simp only[f180,go_sem,ek,ew]
  repeat' (first|apply cg<;>intro hc<;>simp only[go_sem,hc])
  all_goals first|exact⟨rfl,false,rfl,sm⟩|skip
  rename_i g1 g2 g3 g4
  have g1:(e.key.length:Int)=(v.widths.length:Int):=by simpa using g1
  have g2:=of_decide_eq_false g2
  have g3:=of_decide_eq_false g3
  have g4:=of_decide_eq_false g4
  have g5:=of_decide_eq_false hc
  exact absurd ⟨FR,⟨FR,FR⟩,FR,FR⟩ hb
def AfN(l:List FM):Prop:=∀(k:Nat) (y x:FM),l[k]? =some y->l[k+1]? =some x->P6 y x<0
def iA:Hint:={ h99 with pc:=[20,49,60] }
@[go_sem] def Afr(k:Nat):iA.lv k=h99.lv k/\iA.ct k=h99.ct k/\iA.at k=h99.at k/\iA.dn k=h99.dn k:=⟨AG rfl rfl,AG rfl rfl,AG rfl rfl,AG rfl rfl⟩
@[go_sem] def AgT:iA.tk=[]/\iA.mt=[]/\iA.pc=[20,49,60]:=⟨rfl,rfl,rfl⟩
def AIr:FK AA 99 f99 iA:=⟨kr,kr,func99,kr⟩
def sK(vs:List FO)(hv:vs.length<=1073741824)(hw : ∀ v∈vs,∀ w∈v.widths,w<9223372036854775807)(l:List FM)(hl:l.length<=1073741824)(hk : ∀ e∈l,e.key.length<=1073741824):KL AA 99 [.sl none (OO vs),.sl none (Fd l)] λr => ∃ n,r = .int .i64 n/\(n=0->(∀ e∈l,∃ v∈vs,v.name=e.var/\nb v e)/\AfN l):=by
 have el:(Fd l).length=l.length:=Hl l
 have ev:(OO vs).length=vs.length:=ft vs
 refine qC AIr rfl ?_
 simp only[f99,go_sem]
 refine Fg l (λ(_:Unit) _=>()) (λk _=>(∀e∈l.take k,∃v∈vs,v.name=e.var/\nb v e) /\ ∀(i:Nat) (y z:FM),i+1<k->l[i]? =some y->l[i+1]? =some z->P6 y z<0) (λk _=>[(0,.sl none (OO vs)),(1,.sl none (Fd l)),(5,.int .i64 k)]) (λ_ _=>[]) () FR ⟨sm,λi y z hi=>FR⟩ rfl rfl ?_ ?_
 ·rintro k _ x xs hd hx ⟨hI,hJ⟩ _ h0 h1 hw1
  have hkx:=hk x (AB hx)
  have c1:=oN vs hv x.var
  have htk:l.take (k+1)=l.take k++[x]:=by rw[BD,hx];rfl
  have hkl:=(AC.1 hx).1
  have hkle:(k:Int)<=(l.length:Int):=FR
  have htl:(l.take k).length<=1073741824:=by rw[BF];omega
  have c3:=AF0 (l.take k) htl x.var
  have htl2:(Fd (l.take k)).length=k:=by rw[Hl,BF];omega
  simp only[go_sem,h0,h1,el,GX hx]
  apply pK c1
  rcases MA (λv:FO=>decide (v.name=x.var)) vs 0 with⟨w1,w2⟩|⟨i,v,w1,w2,w3⟩
  ·have e1:H8 (λv:FO=>decide (v.name=x.var)) vs = -1:=w1
   rw[e1]
   have z1:(-1:Int)<0:=dc
   simp only[go_sem,z1,dT]
   exact⟨rfl,4,rfl,λh=>absurd h dc⟩
  ·have e1:H8 (λv:FO=>decide (v.name=x.var)) vs=(i:Int):=by rw[H8,w1,AU]
   have hvm:=AB w2
   have hvn:v.name=x.var:=by have:=List.find?_some w3;simpa using this
   have hiv:(i:Int)<(vs.length:Int):=by have:=(AC.1 w2).1;omega
   have i0:(0:Int)<=(i:Int):=FR
   have i1:¬(i:Int)<0:=FR
   have q1:=AIA v (hw v hvm) x hkx (l.take k) htl
   rw[e1]
   have hkne:¬((k:Int)=(l.length:Int)):=FR
   have hnx:nb v x->(∀y,0<k->l[k - 1]? =some y->P6 y x<0)->(∀e∈l.take (k+1),∃v∈vs,v.name=e.var/\nb v e) /\ ∀(i:Nat) (y z:FM),i+1<k+1->l[i]? =some y->l[i+1]? =some z->P6 y z<0:=λhf hq=>⟨λe he=>by
    rw[htk]at he
    rcases Ar.1 he with he|he
    ·exact hI e he
    ·rcases Ab.1 he with rfl
     exact⟨v,hvm,hvn,hf⟩,λi y z hi hy hz=>by
    by_cases hik:i+1<k
    ·exact hJ i y z hik hy hz
    ·have hik:i+1=k:=FR
     rw[hik,hx]at hz
     cases hz
     exact hq y FR (by rw[<- hik];exact hy)⟩
   simp only[go_sem,i0,i1,dF,fu w2,h0,el,hkle,hkne,GX hx]
   refine Jx q1 λr hr=>?_
   obtain⟨b,rfl,hb⟩:=hr
   cases b with
   |false =>
    simp only[go_sem,Aw]
    exact⟨rfl,1,rfl,λh=>absurd h dc⟩
   | true =>
    have hnx:=hnx (hb rfl)
    rcases Nat.eq_zero_or_pos k with hz|hz
    ·have hnx:=hnx λy hk0=>FR
     have g0:¬(0:Int)<(k:Int):=FR
     simp only[go_sem,As,g0,dF,h0,el,hkle,hkne,GX hx]
     repeat' (first|(apply pK c3;simp only[go_sem])|apply cg<;>intro hc<;>simp only[go_sem,hc,hw1])
     all_goals first|exact⟨rfl,2,rfl,λh=>absurd h dc⟩|exact⟨(),hnx,rfl,rfl⟩|exact⟨(),hnx⟩
    ·have g0:(0:Int)<(k:Int):=FR
     obtain⟨y,hy⟩:∃y,l[k - 1]? =some y:=⟨_,AH FR⟩
     have c2:=AF4 y x (hk y (AB hy))
     have hwk:IntKind.i64.wrap ((k:Int) - 1)=((k - 1:Nat):Int):=by rw[OY FR FR];omega
     have g1:(0:Int)<=((k - 1:Nat):Int):=FR
     have g2:((k - 1:Nat):Int)<(l.length:Int):=FR
     simp only[go_sem,As,g0,g1,hwk,dT,h0,GX hx,GX hy]
     repeat' (first|((first|apply pK c2|apply pK c3);simp only[go_sem])|apply cg<;>intro hc<;>simp only[go_sem,hc,h0,hw1,el,hkle,hkne,GX hx])
     all_goals first|exact⟨rfl,10,rfl,λh=>absurd h dc⟩|exact⟨rfl,2,rfl,λh=>absurd h dc⟩|exact⟨(),hnx (λy2 _ hy2=>by rw[hy]at hy2;cases hy2;simp only[decide_eq_false_iff_not]at *;omega),rfl,rfl⟩|exact⟨(),hnx (λy2 _ hy2=>by rw[hy]at hy2;cases hy2;simp only[decide_eq_false_iff_not]at *;omega)⟩
 ·rintro _ ⟨hI,hJ⟩ _
  simp only[go_sem,AQ,dF,el]
  rw[BI]at hI
  exact⟨rfl,0,rfl,λ_=>⟨hI,λi y z hy hz=>hJ i y z (AC.1 hz).1 hy hz⟩⟩
def geB(a b:ByteArray):Bool:=!TY a b
def J2(n:ByteArray):Bool->List ByteArray->List ByteArray
 |d,[]=>if d then[]else[n]
 |d,x::r=>(if geB x n=true/\d=false then[n]else[])++((if x≠n then[x]else[])++J2 n (d||geB x n) r)
def Sc(l:List ByteArray)(n:ByteArray):List ByteArray:=J2 n false l
def AU1(l:List ByteArray)(n:ByteArray)(hl:l.length<=1073741824):FT AA 183 [.sl none (HB l),.str n] (.sl none (HB (Sc l n))):=by
 have el:(HB l).length=l.length:=L7 l
 refine pB APL rfl ?_
 simp only[f183,go_sem]
 refine Fg l (λ(s:List ByteArray×Bool) r=>s.1++J2 n s.2 r) (λk s=>s.1.length<=2*k) (λk s=>[(0,.sl none (HB l)),(1,.str n),(5,.sl (some 1) (HB s.1)),(6,.bool s.2),(7,.int .i64 k)]) (λk o=>[]) ([],false) FR sm rfl rfl ?_ ?_
 ·rintro k ⟨o,d⟩ y ys hd hx hI hF h0 h1 hw
  dsimp only at hI hF ⊢
  have hk2:=Fq hd
  obtain⟨g1,g2,g3,g4,g5⟩:(o.length+1)*16<=140737488355328/\o.length<=9223372036854775806/\(o.length+1+1)*16<=140737488355328/\o.length+1<=9223372036854775806/\o.length<=9223372036854775805:=by
   have hm:o.length<=2147483648:=AL hI FR
   generalize o.length=m at hm
   omega
  simp only[go_sem,h0,h1,Gk hx,el]
  repeat' (first|apply cg<;>intro hc<;>simp only[go_sem,hc,h0,hw,Gk hx,FV,AF,BL,g1,g2,g3,g5])
  all_goals first
   |exact⟨(o++[n,y],true),by grind[J2,geB,TY],Hy,rfl,rfl⟩
   |exact⟨(o++[n],true),by grind[J2,geB,TY],Hy,rfl,rfl⟩
   |exact⟨(o++[y],d),by grind[J2,geB,TY],Hy,rfl,rfl⟩
   |exact⟨(o,d),by grind[J2,geB,TY],Hy,rfl,rfl⟩
   |skip
 ·rintro ⟨o,d⟩ hI hF
  dsimp only at hI hF ⊢
  obtain⟨g1,g2⟩:(o.length+1)*16<=140737488355328/\o.length<=9223372036854775806:=by
   have hm:o.length<=2147483648:=AL hI FR
   generalize o.length=m at hm
   omega
  simp only[go_sem,AQ,dF,el]
  repeat' (first|apply cg<;>intro hc<;>simp only[go_sem,hc,g1,g2])
  all_goals first
   |rfl
   |(simp only[Sc];rfl)
   |grind[Sc,J2]
   |(simp only[Sc,J2];grind)
   |(simp[Sc,J2, *];done)
   |(simp_all[Sc,J2];done)
   |skip
def Mm(o:List ByteArray):List FL->List ByteArray
 |[]=>o
 |x::r=>Mm (if x.step.kind=0 then o else Sc o x.step.var) r
def Qf(n:ByteArray): ∀(l:List ByteArray) (d:Bool),(J2 n d l).length<=2*l.length+1
 |[],d=>by cases d<;>simp[J2]
 |x::l,d=>by
  rw[J2,AF,AF,AD]
  have:=Qf n l (d||geB x n)
  split<;>split<;>simp<;>omega
def gh:Hint:={ nS with tk:=[89,93] }
@[go_sem] def Afg(k:Nat):gh.lv k=nS.lv k/\gh.ct k=nS.ct k/\gh.at k=nS.at k/\gh.dn k=nS.dn k:=⟨AG rfl rfl,AG rfl rfl,AG rfl rfl,AG rfl rfl⟩
@[go_sem] def AgD:gh.tk=[89,93]/\gh.mt=[]/\gh.pc=[33,70,75,78]:=⟨rfl,rfl,rfl⟩
def AIh:FK AA 100 f100 gh:=⟨kr,kr,func100,kr⟩
def vW(l:List Fld)(nm:ByteArray)(a:FO×Bool)(s:Stp):FO×Bool :=
 if s.kind=0\/s.var≠nm then a
 else if L3 s=true/\a.2=false then({ a.1 with family:=Lc s.kind,widths:=I3 l s.key,n:=s.n,m:=s.m },true)
 else({ a.1 with family:=Lc s.kind,widths:=I3 l s.key },a.2)
def yk(l:List Fld)(nm:ByteArray)(a:FO×Bool):List FL->FO×Bool
 |[]=>a
 |x::r=>yk l nm (vW l nm a x.step) r
def Uu(l:List Fld)(p:List FL)(nm:ByteArray):FO:=(yk l nm (⟨nm,0,[],0,0⟩,false) p).1
def Nc(l:List Fld)(p:List FL):List FO:=(Mm [] p).map (Uu l p)
def ACo(l:List Fld)(p:List FL)(hp:p.length<=8)(hk : ∀ x∈p,x.step.key.length<=1048576):FT AA 100 [.sl none (GL l),.sl none (F4 p)] (.sl none (OO (Nc l p))):=by
 have el:(F4 p).length=p.length:=KZ p
 refine pB AIh rfl ?_ (hv:=by simp[AV.pure,tK])
 simp only[f100,go_sem]
 refine Fg p (λ(s:Option Nat×List ByteArray) r=>Mm s.2 r) (λk s=>s.2.length<4^k) (λk s=>[(0,.sl none (GL l)),(1,.sl none (F4 p)),(5,.sl s.1 (HB s.2)),(6,.int .i64 k)]) (λ_ _=>[]) (some 1,[]) FR dc rfl rfl ?_ ?_
 ·rintro k ⟨w,o⟩ x xs hd hx hI hF h0 h1 hw
  dsimp only at hI hF ⊢
  have hkl:=(AC.1 hx).1
  have h48:(4:Nat)^k<=4^8:=BX dc FR
  have hol:o.length<65536:=BP hI h48
  have c1:=AU1 o x.step.var FR
  have hl2:(Sc o x.step.var).length<4^(k+1):=by
   have:=Qf x.step.var o false
   have h4:(4:Nat)^(k+1)=4*4^k:=by rw[DL];omega
   unfold Sc
   omega
  have hl3:o.length<4^(k+1):=by
   have h4:(4:Nat)^(k+1)=4*4^k:=by rw[DL];omega
   omega
  by_cases h00:x.step.kind=0
  ·have z0:(x.step.kind !=0)=false:=by simp[h00]
   simp only[go_sem,h0,h1,F7 hx,el,z0,hw]
   exact⟨(w,o),by rw[Mm,iP h00],hl3,rfl,rfl⟩
  ·have z0:(x.step.kind !=0)=true:=by simp[h00]
   simp only[go_sem,h0,h1,F7 hx,el,z0]
   apply pK c1
   simp only[go_sem,hw]
   exact⟨(none,Sc o x.step.var),by rw[Mm,iN h00],hl2,rfl,rfl⟩
 ·rintro ⟨w,o⟩ hI hF
  dsimp only at hI hF ⊢
  have hol:o.length<65536:=BP hI (BX dc hp)
  have ho:Mm [] p=o:=hF
  have eo:(HB o).length=o.length:=L7 o
  simp only[go_sem,AQ,dF,el]
  refine Fg o (λ(s:List FO×cj) r=>s.1++r.map (Uu l p)) (λk s=>s.1.length=k) (λk s=>[(0,.sl none (GL l)),(1,.sl none (F4 p)),(5,.sl w (HB o)),(7,.sl (some 5) (OO s.1)),(8,.int .i64 k)]) (λ_ s=>s.2) ([],[]) FR rfl rfl rfl ?_ ?_
  ·rintro k ⟨out,J⟩ nm nms hd hx hI2 hF2 h0 h1 hw
   dsimp only at hI2 hF2 ⊢
   have hsp:Hq (Variable.z.cf (some 1)) [AV.str nm]=(⟨nm,0,[],0,0⟩:FO).cf (some 1):=rfl
   have gB:∀y L,(J++y::L)[J.length]? =some y:=λy L=>sm
   have sB:∀y z L,(J++y::L).set J.length z=J++z::L:=λy z L=>by
    rw[List.set_append_right _ _ (AT _)];simp
   have gN:∀y L z,(J++y::(L++[z]))[List.length (J++y::L)]? =some z:=λy L z=>by
    have:J++y::(L++[z])=(J++y::L)++[z]:=sm
    rw[this];exact Bg
   have sN:∀y L z z2,(J++y::(L++[z])).set (List.length (J++y::L)) z2=J++y::(L++[z2]):=λy L z z2=>by
    have:J++y::(L++[z])=(J++y::L)++[z]:=sm
    rw[this];simp
   simp only[go_sem,h0,h1,Gk hx,eo,hsp]
   refine Fg p (λ(a:(FO×Bool)×Option Nat×cj) r=>yk l nm a.1 r) (λ_ _=>True) (λj a=>[(0,.sl none (GL l)),(1,.sl none (F4 p)),(5,.sl w (HB o)),(7,.sl (some 5) (OO out)),(8,.int .i64 k),(9,.ptr J.length 0),(10,.bool a.1.2),(11,.int .i64 j)])
    (λ_ a=>J++some (a.1.1.cf a.2.1)::a.2.2) ((⟨nm,0,[],0,0⟩,false),some 1,[]) FR trivial rfl rfl ?_ ?_
   ·rintro j ⟨⟨v,f⟩,w2,L⟩ x xs hd3 hx3 _ hF3 g0 g1 gw
    dsimp only at hF3 ⊢
    have c1:=ACk x.step.kind
    have c2:=oM l x.step.key (by have:=hk x (AB hx3);omega)
    have c3:=ACe x.step
    by_cases h00:x.step.kind=0
    ·have z0:(x.step.kind==0)=true:=by simp[h00]
     simp only[go_sem,g0,g1,F7 hx3,el,gN,sN,z0,gw]
     exact⟨((v,f),w2,L++[some (x.step.cf none)]),by rw[yk,vW,iP (.inl h00)],rfl,rfl⟩
    ·have z0:(x.step.kind==0)=false:=by simp[h00]
     by_cases hv:x.step.var=nm
     ·have hvb:(nm.toList==nm.toList)=true:=sm
      simp only[go_sem,g0,g1,F7 hx3,el,gN,sN,z0,Gk hx,h0,hv,hvb,As]
      have sp1:∀(u:FO) (q:Option Nat) (i:Int),splice (u.cf q) 1 [.int .i64 i]=({ u with family:=i }:FO).cf q:=λ_ _ _=>rfl
      have sp2:∀(u:FO) (q:Option Nat) (i:List Int),splice (u.cf q) 2 [.sl none (GK i)]=({ u with widths:=i }:FO).cf none:=λ_ _ _=>rfl
      have sp3:∀(u:FO) (q:Option Nat) (i:Int),splice (u.cf q) 3 [.int .i64 i]=({ u with n:=i }:FO).cf q:=λ_ _ _=>rfl
      have sp4:∀(u:FO) (q:Option Nat) (i:Int),splice (u.cf q) 4 [.int .i64 i]=({ u with m:=i }:FO).cf q:=λ_ _ _=>rfl
      have gN2:∀y y' L z,(J++y::(L++[z]))[List.length (J++y'::L)]? =some z:=λy y' L z=>by
       have e:List.length (J++y'::L)=List.length (J++y::L):=sm
       rw[e];exact gN y L z
      apply pK c1
      simp only[go_sem,gB,gN2,sB,sp1]
      apply pK c2
      simp only[go_sem,gB,gN2,sB,sp2]
      apply pK c3
      cases hns:L3 x.step with
      |false =>
       simp only[go_sem,gw]
       exact⟨(({ v with family:=Lc x.step.kind,widths:=I3 l x.step.key },f),none,L++[some (x.step.cf none)]),by rw[yk,vW,iN (by simp[h00,hv]),iN (by rw[hns];simp)],rfl,rfl⟩
      | true =>
       cases f with
       |true =>
        simp only[go_sem,gw,As]
        exact⟨(({ v with family:=Lc x.step.kind,widths:=I3 l x.step.key },true),none,L++[some (x.step.cf none)]),by rw[yk,vW,iN (by simp[h00,hv]),iN sm],rfl,rfl⟩
       |false =>
        simp only[go_sem,gB,gN2,sB,sp3,sp4,gw,Aw]
        exact⟨(({ v with family:=Lc x.step.kind,widths:=I3 l x.step.key,n:=x.step.n,m:=x.step.m },true),none,L++[some (x.step.cf none)]),by rw[yk,vW,iN (by simp[h00,hv]),iP ⟨hns,rfl⟩],rfl,rfl⟩
     ·have hvd:decide (x.step.var=nm)=false:=decide_eq_false hv
      simp only[go_sem,g0,g1,F7 hx3,el,gN,sN,z0,Gk hx,h0,FV,hvd,gw,Aw]
      exact⟨((v,f),w2,L++[some (x.step.cf none)]),by rw[yk,vW,iP (.inr hv)],rfl,rfl⟩
   ·rintro ⟨⟨v,f⟩,w2,L⟩ _ hF3
    dsimp only at hF3 ⊢
    have hvo:Uu l p nm=v:=by unfold Uu;rw[hF3];rfl
    simp only[go_sem,AQ,dF,el,gB,hw]
    have hkl:=(AC.1 hx).1
    exact⟨FR,FR,(out++[v],_),by rw[hvo];simp,Hy,rfl,rfl⟩
  ·rintro ⟨out,J⟩ hI2 hF2
   dsimp only at hI2 hF2 ⊢
   have he:Nc l p=out:=by unfold Nc;rw[ho];simpa using hF2
   rw[he]
   simp only[go_sem,AQ,dF,eo]
def AET{l:List Fld}(hl:Iq l)(key:List ByteArray): ∀ w∈I3 l key,w<9223372036854775807:=by
 intro w hw
 obtain⟨y,_,rfl⟩:=AO.1 hw
 cases hf:(Ff l y).2 with
 |true =>
  have:=Ir hl hf
  unfold HC at this
  omega
 | false =>
  unfold Ff at hf ⊢
  split at hf
  ·cases hf
  ·rename_i hn
   rw[iN hn]
   split at hf
   ·cases hf
   ·rename_i hz
    exact(by decide:Fld.z.width<9223372036854775807)
def Ze{l:List Fld}{nm:ByteArray}: ∀ (r:List FL) {a:FO×Bool},a.1.name=nm->(a.1.widths=[] \/ ∃ x:FL,x.step.kind≠0/\x.step.var=nm/\a.1.widths=I3 l x.step.key) ->
  (yk l nm a r).1.name=nm/\((yk l nm a r).1.widths=a.1.widths/\(∀x∈r,x.step.kind=0\/x.step.var≠nm) \/ ∃x∈r,x.step.kind≠0/\x.step.var=nm/\(yk l nm a r).1.widths=I3 l x.step.key)
 |[],a,h1,_=>⟨h1,.inl ⟨rfl,sm⟩⟩
 | x::r,a,h1,h2=>by
  rw[yk]
  by_cases hc:x.step.kind=0\/x.step.var≠nm
  ·have e:vW l nm a x.step=a:=by unfold vW;rw[iP hc]
   rw[e]
   obtain⟨g1,g2⟩:=Ze r h1 h2
   refine⟨g1, ?_⟩
   rcases g2 with⟨g2,g3⟩|⟨y,hy,g2⟩
   ·exact .inl ⟨g2,λz hz=>by rcases AY.1 hz with rfl|hz;exact hc;exact g3 z hz⟩
   ·exact .inr ⟨y,B0 _ hy,g2⟩
  ·have hk:x.step.kind≠0:=λh=>hc (.inl h)
   have hv:x.step.var=nm:=by
    by_cases h:x.step.var=nm
    ·exact h
    ·exact absurd (.inr h) hc
   have e1:(vW l nm a x.step).1.name=nm/\(vW l nm a x.step).1.widths=I3 l x.step.key:=by
    unfold vW
    rw[iN hc]
    split<;>exact⟨h1,rfl⟩
   obtain⟨g1,g2⟩:=Ze r e1.1 (.inr ⟨x,hk,hv,e1.2⟩)
   refine⟨g1,.inr ?_⟩
   rcases g2 with⟨g2,g3⟩|⟨y,hy,g2⟩
   ·exact⟨x,CO ..,hk,hv,by rw[g2,e1.2]⟩
   ·exact⟨y,B0 _ hy,g2⟩
def YU(l:List Fld)(p:List FL)(nm:ByteArray):(Uu l p nm).name=nm/\((Uu l p nm).widths=[]/\(∀x∈p,x.step.kind=0\/x.step.var≠nm) \/ ∃x∈p,x.step.kind≠0/\x.step.var=nm/\(Uu l p nm).widths=I3 l x.step.key) :=
 Ze p (a:=(⟨nm,0,[],0,0⟩,false)) rfl (.inl rfl)
def zM{l:List Fld}(hl:Iq l){p:List FL}: ∀v∈Nc l p,∀w∈v.widths,w<9223372036854775807:=by
 intro v hv w hw
 obtain⟨nm,_,rfl⟩:=AO.1 hv
 rcases(YU l p nm).2 with⟨h,_⟩|⟨x,_,_,_,h⟩
 ·rw[h]at hw;cases hw
 ·rw[h]at hw;exact AET hl _ w hw
def VU : ∀ (p:List FL) (o:List ByteArray),(Mm o p).length<4^p.length*(o.length+1)
 |[],o=>by simp[Mm]
 | x::p,o=>by
  rw[Mm]
  have h1:=VU p (if x.step.kind=0 then o else Sc o x.step.var)
  have h2:(if x.step.kind=0 then o else Sc o x.step.var).length+1<=4*(o.length+1):=by
   split
   ·omega
   ·have:=Qf x.step.var o false
    unfold Sc
    omega
  have h3:4^(x::p).length=4^p.length*4:=by rw[AD,DL]
  rw[h3,Nat.mul_assoc]
  exact BP h1 (Nat.mul_le_mul_left _ h2)
def gi:Hint:={ h53 with pc:=[11,21] }
@[go_sem] def Afi(k:Nat):gi.lv k=h53.lv k/\gi.ct k=h53.ct k/\gi.at k=h53.at k/\gi.dn k=h53.dn k:=⟨AG rfl rfl,AG rfl rfl,AG rfl rfl,AG rfl rfl⟩
@[go_sem] def AgJ:gi.tk=[19,20,22]/\gi.mt=[]/\gi.pc=[11,21]:=⟨rfl,rfl,rfl⟩
def AIi:FK AA 53 f53 gi:=⟨kr,kr,func53,kr⟩
def stQ(l:List Fld)(p:List FL)(st:List FM):Prop:=QN l p=0/\st.length<=250/\(∀e∈st,∃v∈Nc l p,v.name=e.var/\nb v e)/\AfN st
def sJ(l:List Fld)(hl:yo l)(hl2:Iq l)(p:List FL)(hb:FU (F4 p)<=1048576)(st:List FM)(hst:st.length<=1073741824)(hk:∀e∈st,e.key.length<=1073741824):KL AA 53 [.sl none (GL l),.sl none (F4 p),.sl none (Fd st)] λr => ∃b,r = .bool b/\(b=true->stQ l p st):=by
 have c1:=AHP l p hl (AL hb dc)
 have el:(Fd st).length=st.length:=Hl st
 refine qC AIi rfl ?_
 simp only[f53,go_sem]
 apply pK c1
 by_cases h0:QN l p=0
 ·have z0:(QN l p !=0)=false:=by simp[h0]
  have hp8:=(rC h0).1
  have hkey:∀x∈p,x.step.key.length<=1048576:=λx hx=>by
   have h1:=rC h0
   have:=(fN (h1.2.2.1 x hx).2).klen
   exact this
  have c2:=ACo l p hp8 hkey
  have hvl:(Nc l p).length<=1073741824:=by
   have h1:=VU p []
   have h2:4^p.length<=4^8:=BX dc hp8
   have h3:(Nc l p).length=(Mm [] p).length:=by unfold Nc;rw[Ap]
   have h4:(4:Nat)^8=65536:=dc
   rw[AJ,AU,Nat.mul_one]at h1
   omega
  have q3:=sK (Nc l p) hvl (zM hl2) st hst hk
  simp only[go_sem,z0,el]
  refine cS ?_ ?_<;>intro hc
  ·simp only[go_sem]
   exact⟨rfl,false,rfl,λh=>by cases h⟩
  ·have hc:=of_decide_eq_false hc
   simp only[go_sem]
   apply pK c2
   simp only[go_sem]
   refine Jx q3 λr hr=>?_
   obtain⟨n,rfl,hn⟩:=hr
   simp only[go_sem]
   exact⟨rfl,_,rfl,λh=>⟨h0,FR,hn (by simpa using h)⟩⟩
 ·have z0:(QN l p !=0)=true:=by simp[h0]
  simp only[go_sem,z0]
  exact⟨rfl,false,rfl,λh=>by cases h⟩
def Tk:Hint:={ h20 with pc:=[] }
@[go_sem] def AX4(k:Nat):Tk.lv k=h20.lv k/\Tk.ct k=h20.ct k/\Tk.at k=h20.at k/\Tk.dn k=h20.dn k:=⟨AG rfl rfl,AG rfl rfl,AG rfl rfl,AG rfl rfl⟩
@[go_sem] def Afh:Tk.tk=[]/\Tk.mt=[]/\Tk.pc=[]:=⟨rfl,rfl,rfl⟩
def AFK:FK AA 20 f20 Tk:=⟨kr,kr,func20,kr⟩
def AH4(s:FG)(sts:List (List FM)):Prop:=sts.length=s.tenants.length /\ ∀(k:Nat) (t:FH) (st:List FM),s.tenants[k]? =some t->sts[k]? =some st->stQ s.fields t.program st/\st.length<=60
def AAA(s:FG)(hl:yo s.fields)(hl2:Iq s.fields)(hb:FU s.c<=1048576)(sts:List (List FM))(hsl:sts.length<=1073741824)(hst : ∀ st∈sts,st.length<=1073741824 /\ ∀ e∈st,e.key.length<=1073741824):KL AA 20 [.agg s.c,.sl none (HG sts)] λr => ∃ b,r = .bool b/\(b=true->AH4 s sts):=by
 have el:(HG sts).length=sts.length:=Vb sts
 refine qC AFK rfl ?_
 by_cases hn:sts.length=s.tenants.length
 ·have z0:((sts.length:Int) !=(s.tenants.length:Int))=false:=by simp[hn]
  simp only[f20,go_sem,el,z0]
  refine Fg sts (λ(_:Unit) _=>()) (λk _ => ∀(i:Nat) (t:FH) (st:List FM),i<k->s.tenants[i]? =some t->sts[i]? =some st->stQ s.fields t.program st/\st.length<=60) (λk _=>[(1,.sl none (HG sts)),(2,.ptr 0 0),(5,.int .i64 k)]) (λ_ _=>[some s.c]) () FR (λi t st hi=>absurd hi (Nat.not_lt_zero i)) rfl rfl ?_ ?_
  ·intro k _ st xs hd hx hI _ h0 h1 hw
   have hkl:=(AC.1 hx).1
   obtain⟨t,ht⟩:∃t,s.tenants[k]? =some t:=⟨_,AH FR⟩
   have hk2:(k:Int)<(s.tenants.length:Int):=FR
   have hbt:FU t.c<=1048576:=by
    have h1:=L6 (Hk hb) (AB ht)
    simpa only[AV.bulk]using h1
   have hm:=hst st (AB hx)
   have q1:=sJ s.fields hl hl2 t.program (HE hbt) st hm.1 hm.2
   simp only[go_sem,h0,h1,el,K6 hx,F5 ht]
   refine Jx q1 λr hr=>?_
   obtain⟨b,rfl,hq⟩:=hr
   cases b with
   |false =>
    simp only[go_sem,Aw]
    exact⟨rfl,false,rfl,λh=>by cases h⟩
   | true =>
    have hq:=hq rfl
    have es:(Fd st).length=st.length:=Hl st
    simp only[go_sem,As,h0,es,K6 hx]
    refine cS ?_ ?_<;>intro hc
    ·simp only[go_sem]
     exact⟨rfl,false,rfl,λh=>by cases h⟩
    ·have hc:=of_decide_eq_false hc
     simp only[go_sem,hw]
     refine⟨(),λi t2 st2 hi h2 h3=>?_⟩
     rcases Nat.lt_or_ge i k with hik|hik
     ·exact hI i t2 st2 hik h2 h3
     ·have:i=k:=FR
      subst this
      rw[ht]at h2
      rw[hx]at h3
      cases h2;cases h3
      exact⟨hq,FR⟩
  ·intro _ hI _
   simp only[go_sem,AQ,dF,el]
   exact⟨rfl,true,rfl,λ_=>⟨hn,λk t st h1 h2=>hI k t st (AC.1 h2).1 h1 h2⟩⟩
 ·have z0:((sts.length:Int) !=(s.tenants.length:Int))=true:=by
   rw[bne_iff_ne];omega
  simp only[f20,go_sem,el,z0]
  exact⟨rfl,false,rfl,λh=>by cases h⟩
def fM{s:FG}(hR:R19 s){sts:List (List FM)}(h:AH4 s sts)(hk:∀st∈sts,∀e∈st,e.key.length<=1048576):okSts s sts:=by
 refine⟨h.1,λk t st h1 h2=>?_⟩
 obtain⟨⟨q1,_,q3,_⟩,q4⟩:=h.2 k t st h1 h2
 have hp:=(fQ q1).1
 refine⟨λe he=>?_,q4⟩
 obtain⟨v,hv,hn,f1,f2,f3,f4⟩:=q3 e he
 refine⟨⟨f2,f3,hk st (AB h2) e he,f4⟩,λx hx h0 hvar=>?_⟩
 obtain⟨nm,_,rfl⟩:=AO.1 hv
 obtain⟨g1,g2⟩:=YU s.fields t.program nm
 have hnm:nm=e.var:=by rw[<- g1];exact hn
 rcases g2 with⟨_,g2⟩|⟨y,hy,g3,g4,g5⟩
 ·rcases g2 x hx with g|g
  ·exact absurd g h0
  ·exact absurd (by rw[<- hvar,hnm]) g
 ·have hw:(I3 s.fields y.step.key).length=y.step.key.length:=by simp[I3]
  rw[f1,g5,hw]
  exact hp.key y hy x hx g3 h0 (by rw[g4,hnm,hvar])
def aX(l:List FN):List AV:=l.map λx => .agg x.c
@[go_sem] def ABV(l:List FN):(aX l).length=l.length:=by simp[aX]
def ABW{l:List FN}{i:Nat}{x:FN}(h:l[i]? =some x):(aX l)[i]? =some (.agg x.c):=by simp[aX,h]
@[go_sem] def AV'(l:List FN):FW (aX l)=true:=by
 induction l with
 |nil=>rfl
 |cons x xs ih=>simpa [aX,FW,AV.pure]using⟨W9 x,ih⟩
def hRt:Hint:={ h4 with pc:=[10,25] }
@[go_sem] def AgE(k:Nat):hRt.lv k=h4.lv k/\hRt.ct k=h4.ct k/\hRt.at k=h4.at k/\hRt.dn k=h4.dn k:=⟨AG rfl rfl,AG rfl rfl,AG rfl rfl,AG rfl rfl⟩
@[go_sem] def Ag8:hRt.tk=[14,18]/\hRt.mt=[]/\hRt.pc=[10,25]:=⟨rfl,rfl,rfl⟩
def AX5:FK AA 4 f4 hRt:=⟨kr,kr,func4,kr⟩
def AH8(s:FG)(sts:List (List FM))(l:List FN):Prop:=JX s=true/\AH4 s sts /\ ∀a∈l,Xs a=true
def qR(s:FG)(hb:FU s.c<=1048576)(sts:List (List FM))(hsl:sts.length<=1073741824)(hst : ∀ st∈sts,st.length<=1073741824 /\ ∀ e∈st,e.key.length<=1073741824)(l:List FN)(hl:l.length<=1073741824):KL AA 4 [.agg s.c,.sl none (HG sts),.sl none (aX l)] λr => ∃ b,r = .bool b/\(b=true->AH8 s sts l):=by
 have el:(aX l).length=l.length:=ABV l
 have c1:=xe s hb
 refine qC AX5 rfl ?_
 simp only[f4,go_sem]
 apply pK c1
 cases h1:JX s with
 |false =>
  simp only[go_sem,Aw]
  exact⟨rfl,false,rfl,λh=>by cases h⟩
 | true =>
  have hR:=SY h1
  have q1:=AAA s (λf hf=>Int.le_trans (ZN hR.fld0 f hf) dc) hR.fld hb sts hsl hst
  simp only[go_sem,As]
  refine Jx q1 λr hr=>?_
  obtain⟨b,rfl,hq⟩:=hr
  cases b with
  |false =>
   simp only[go_sem,Aw]
   exact⟨rfl,false,rfl,λh=>by cases h⟩
  | true =>
   have hq:=hq rfl
   simp only[go_sem,As,el]
   refine Fg l (λ(_:cj) _=>()) (λk _ => ∀a∈l.take k,Xs a=true) (λk _=>[(18,.sl none (aX l)),(19,.int .i64 l.length),(20,.int .i64 k)]) (λ_ L=>some s.c::L) [] FR sm rfl rfl ?_ ?_
   ·intro k L x xs hd hx hI _ h0 h1 hw
    have gN:∀a (L:cj) z,(a::(L++[z]))[List.length (a::L)]? =some z:=λa L z=>by
     have:a::(L++[z])=(a::L)++[z]:=sm
     rw[this];exact Bg
    have sN:∀a (L:cj) z z2,(a::(L++[z])).set (List.length (a::L)) z2=a::(L++[z2]):=λa L z z2=>by
     have:a::(L++[z])=(a::L)++[z]:=sm
     rw[this];simp
    have c2:=xm x
    have htk:l.take (k+1)=l.take k++[x]:=by rw[BD,hx];rfl
    simp only[go_sem,h0,h1,ABW hx]
    apply pK c2
    cases ha:Xs x with
    |false =>
     simp only[go_sem,Aw]
     exact⟨rfl,false,rfl,λh=>by cases h⟩
    |true =>
     simp only[go_sem,As,hw]
     refine⟨_,λy hy=>?_,rfl,rfl⟩
     rw[htk]at hy
     rcases Ar.1 hy with hy|hy
     ·exact hI y hy
     ·rcases Ab.1 hy with rfl;exact ha
   ·intro L hI _
    simp only[go_sem,AQ,dF]
    rw[BI]at hI
    exact⟨rfl,true,rfl,λ_=>⟨h1,hq,hI⟩⟩
def qo{l:List Fld}{tick:Int}{x:Policy}: ∀ (pk:List FI) {gv r:List FI},gv.length<=256->w6 l tick x gv pk=some r->r.length<=256
 |[],gv,r,hn,e=>by
  rw[w6]at e
  cases e
  exact hn
 | g::pk,gv,r,hn,e=>by
  rw[w6]at e
  cases ev:vO l tick x g with
  |none=>rw[ev]at e;cases e
  | some y =>
   rw[ev]at e
   by_cases h256:256<(gv++y).length
   ·simp only[iP h256]at e
    cases e
   ·simp only[iN h256]at e
    exact qo pk FR e
def q9(l:List Fld)(s:Stp)(tick:Int): ∀(gv:List FI) (a:List FI×List FM),(yq l s tick a gv).1.length<=a.1.length+gv.length
 |[],a=>AT _
 |g::gv,a=>by
  rw[yq,AD]
  refine AL (q9 l s tick gv _) ?_
  dsimp only
  split
  ·rw[AF,BL];omega
  ·omega
def dm{l:List Fld}{tick:Int}: ∀(r:List FL) {a b:List FI×List FM},a.1.length<=256->RU l tick a r=some b->b.1.length<=256
 |[],a,b,h,e=>by
  rw[RU]at e
  cases e
  exact h
 | s::r,a,b,h,e=>by
  rw[RU]at e
  cases eg:w6 l tick s.policy [] a.1 with
  |none=>rw[eg]at e;cases e
  |some gv =>
   rw[eg]at e
   dsimp only at e
   have h1:=qo a.1 sm eg
   have h2:=q9 l s.step tick gv ([],a.2)
   rw[AJ]at h2
   exact dm r FR e
def AEk(s:FG)(x:FJ)(t:FH)(tick:Int)(a:List FJ×List FP)(p:FI):(XI s x t tick a p).2.length<=a.2.length+1:=by
 unfold XI
 split
 ·exact DS _
 ·split
  ·rw[AF];exact AT _
  ·split<;>exact DS _
def qU(s:FG)(x:FJ)(t:FH)(tick:Int): ∀(r:List FI) (a:List FJ×List FP),(TV s x t tick a r).2.length<=a.2.length+r.length
 |[],a=>AT _
 |p::r,a=>by
  rw[TV,AD]
  have h1:=qU s x t tick r (XI s x t tick a p)
  have h2:=AEk s x t tick a p
  omega
def bH{s:FG}{tick:Int}: ∀ (f n:Nat) {q:List FJ} {now:List (List FM)} {out:List FP} {r:List FP×List (List FM)},Xo s tick f n q now out=some r->r.1.length<=out.length+f*256
 | 0,n,q,now,out,r,e=>by rw[Xo]at e;cases e
 | f+1,n,q,now,out,r,e=>by
  rw[Xo]at e
  cases hx:q[n]? with
  |none =>
   rw[hx]at e
   cases e
   exact Nat.le_add_right _ _
  | some x =>
   rw[hx]at e
   dsimp only at e
   cases ht:s.tenants[x.tenant.toNat]? with
   |none=>rw[ht]at e;cases e
   | some t =>
    rw[ht]at e
    cases hs:now[x.tenant.toNat]? with
    |none=>rw[hs]at e;cases e
    | some st =>
     rw[hs]at e
     dsimp only at e
     cases er:Ly s.fields (GE t).1 st x.head tick with
     |none=>rw[er]at e;cases e
     | some b =>
      rw[er]at e
      dsimp only at e
      have hb:=dm (GE t).1 sm er
      have hp:=qU s x t tick b.1 (q,out)
      split at e
      ·cases e
      ·have:=bH f (n+1) e
       dsimp only at hp
       omega
def ig{h:FI}: ∀{l:List FH} {k:Nat},(∀t∈l,(MF t h).2=false)->ME h k l=[]
 |[],_,_=>rfl
 |t::l,k,hf=>by
  rw[ME,iN (by rw[hf t (CO ..)];decide)]
  exact ig λu hu=>hf u (B0 _ hu)
def qy{h:FI}: ∀{l:List FH} {k j:Nat} {t:FH},l[j]? =some t->(MF t h).2=true->(∀i u,l[i]? =some u->(MF u h).2=true->i=j)->ME h k l=[⟨((k+j:Nat):Int),(MF t h).1,[]⟩]
 |[],_,j,_,hj,_,_=>by simp at hj
 | u::l,k,0,t,hj,he,hu=>by
  have:u=t:=by simpa using hj
  subst this
  rw[ME,iP he,ig λv hv=>?_]
  ·rfl
  ·obtain⟨i,hi⟩:=Ae hv
   cases e:(MF v h).2 with
   |false=>rfl
   |true=>exact absurd (hu (i+1) v (by simpa using hi) e) FR
 | u::l,k,j+1,t,hj,he,hu=>by
  have e0:(MF u h).2=false:=by
   cases e:(MF u h).2 with
   |false=>rfl
   |true=>exact absurd (hu 0 u rfl e) FR
  rw[ME,iN (by rw[e0];decide),qy (k:=k+1) (j:=j) (by simpa using hj) he λi v hi e=>by have:=hu (i+1) v (by simpa using hi) e;omega]
  rw[show k+1+j=k+(j+1) by omega]
def ic{s:FG}(hR:R19 s){h:FI}{a:Nat}{t:FH}(ha:s.tenants[a]? =some t)(he:(MF t h).2=true):ME h 0 s.tenants=[⟨(a:Int),(MF t h).1,[]⟩]:=by
 have:=qy (k:=0) ha he λi u hi e=>Yp hR hi ha (O9.1 e) (O9.1 he)
 rwa [AU]at this
def sO{s:FG}(hport : ∀ c∈s.contracts,0<=c.toPort/\c.toPort<=65535){x:FJ}{t:FH}{tick:Int}{a:List FJ×List FP}{p:FI}(h : ∀ y∈a.1,FZ y.head=true)(hp:FZ p=true): ∀ y∈(XI s x t tick a p).1,FZ y.head=true:=by
 unfold XI
 split
 ·exact h
 ·split
  ·exact h
  ·split
   ·exact h
   ·rename_i d hd
    intro y hy
    rcases Ar.1 hy with hy|hy
    ·exact h y hy
    ·rcases Ab.1 hy with rfl
     have:=hport d (AB hd)
     exact U9 hp this.1 this.2
def Yn{s:FG}(hport:∀c∈s.contracts,0<=c.toPort/\c.toPort<=65535){x:FJ}{t:FH}{tick:Int}: ∀(r:List FI) {a:List FJ×List FP},(∀y∈a.1,FZ y.head=true)->(∀p∈r,FZ p=true) -> ∀y∈(TV s x t tick a r).1,FZ y.head=true
 |[],_,h,_=>h
 |p::r,a,h,hp=>by
  rw[TV]
  exact Yn hport r (sO hport h (hp p (CO ..))) λz hz=>hp z (B0 _ hz)
def ACs{s:FG}{sts0:List (List FM)}{h0:FI}{tick:Int}(hR:R19 s)(R:okRun s sts0 h0 tick){B:Nat}(hB:B<=1073741823): ∀ (f n:Nat) {q:List FJ} {now:List (List FM)} {out:List FP} {r:List FP×List (List FM)},(∀ y∈q,FZ y.head=true)->(∀ (k:Nat) (t:FH) (st:List FM),s.tenants[k]? =some t->now[k]? =some st->Om (GE t).1 st/\st.length+f*2048<=B)->Xo s tick f n q now out=some r ->
  r.2.length=now.length /\ ∀(k:Nat) (t:FH) (st:List FM),s.tenants[k]? =some t->r.2[k]? =some st->Om (GE t).1 st/\st.length<=B
 | 0,n,q,now,out,r,_,_,e=>by rw[Xo]at e;cases e
 | f+1,n,q,now,out,r,h1,h2,e=>by
  rw[Xo]at e
  cases hx:q[n]? with
  |none =>
   rw[hx]at e
   cases e
   exact⟨rfl,λk t st ht hs=>⟨(h2 k t st ht hs).1,by have:=(h2 k t st ht hs).2;omega⟩⟩
  | some x =>
   rw[hx]at e
   dsimp only at e
   have hxr:=h1 x (AB hx)
   cases ht:s.tenants[x.tenant.toNat]? with
   |none=>rw[ht]at e;cases e
   | some t =>
    rw[ht]at e
    cases hs:now[x.tenant.toNat]? with
    |none=>rw[hs]at e;cases e
    | some st =>
     rw[hs]at e
     dsimp only at e
     cases er:Ly s.fields (GE t).1 st x.head tick with
     |none=>rw[er]at e;cases e
     | some b =>
      rw[er]at e
      dsimp only at e
      obtain⟨s1,s2⟩:=h2 _ t st ht hs
      obtain⟨w1,w2,_⟩:=Lj hR ht
      have hfl:s.fields.length<=1073741824:=by have:=Ph (Hv R.bulk);omega
      obtain⟨r1,_,r3,r4⟩:=RS R.fld hfl w1 R.tick s1 FR hxr er
      split at e
      ·cases e
      ·obtain⟨i1,i2⟩:=ACs hR R hB f (n+1) (Yn R.port b.1 h1 r1) (λk t2 st2 e1 e2=>by
        rw[List.getElem?_set]at e2
        split at e2
        ·rename_i hk
         subst hk
         rw[ht]at e1
         cases e1
         split at e2
         ·cases e2
          exact⟨r3,FR⟩
         ·cases e2
        ·have:=h2 k t2 st2 e1 e2
         exact⟨this.1,by have:=this.2;omega⟩) e
       rw[List.length_set]at i1
       exact⟨i1,i2⟩
def TW(s:FG)(sts:List (List FM))(N:Nat):Prop:=sts.length=s.tenants.length /\ ∀(k:Nat) (t:FH) (st:List FM),s.tenants[k]? =some t->sts[k]? =some st->Om (GE t).1 st/\st.length<=N
def TW.mono{s:FG}{sts:List (List FM)}{N M:Nat}(h:TW s sts N)(hm:N<=M):TW s sts M:=⟨h.1,λk t st h1 h2=>⟨(h.2 k t st h1 h2).1,AL (h.2 k t st h1 h2).2 hm⟩⟩
def okSts.n{s:FG}(hR:R19 s){sts:List (List FM)}(hs:okSts s sts):TW s sts 60 :=
 ⟨hs.len,λk t st h1 h2=>by
  obtain⟨g1,g2⟩:=hs.st k t st h1 h2
  refine⟨λe he=>⟨(g1 e he).1,λx hx=>?_⟩,g2⟩
  have hmap:=(Lj hR h1).2.2.1
  have:x.step∈t.program.map (·.step):=by rw[<- hmap];exact AO.2 ⟨x,hx,rfl⟩
  obtain⟨y,hy,hxy⟩:=AO.1 this
  rw[<- hxy]
  exact(g1 e he).2 y hy⟩
def AF5{s:FG}{sts:List (List FM)}{h:FI}{tick:Int}(hR:R19 s)(R:okRun s sts h tick){N:Nat}(hN:N+1228800<=1073741823)(hs:TW s sts N){r:List FP×List (List FM)}(e:ML s sts h tick=some r):TW s r.2 (N+1228800):=by
 obtain⟨i1,i2⟩:=ACs hR R hN 600 0 (λy hy=>by
  obtain⟨j,t,h1,_,_,h4,h5⟩:=WE hy
  rw[h5]
  exact R.ent t (AB h1) h4) (λk t st h1 h2=>by
  have:=hs.2 k t st h1 h2
  exact⟨this.1,FR⟩) e
 exact⟨by rw[i1,hs.1],i2⟩
def Mr(nm:ByteArray)(d:FQ):Bool:=decide (d.src=nm)||decide (d.dst=nm)
def eN(nm:ByteArray)(f:FQ->Bool):List FQ->Option Nat
 |[]=>none
 |c::r=>if f c=true then some 0 else(eN nm f r).map λn=>n+(if Mr nm c=true then 1 else 0)
def lx{nm:ByteArray}{f:FQ->Bool}(hf : ∀ c,f c=true->Mr nm c=true)(hv : ∀ c:FQ,f { c with via:=-1 }=f c): ∀ l:List FQ,eN nm f (vC nm l)=eN nm f l
 |[]=>rfl
 | c::r=>by
  have ih:=lx hf hv r
  have hi:Mr nm { c with via:=-1 }=Mr nm c:=rfl
  rw[vC]
  split
  ·rw[eN,eN,hv,ih,hi]
  ·split
   ·rw[eN,eN,ih]
   ·rename_i h1 h2
    have h3:Mr nm c=false:=by unfold Mr;rw[decide_eq_false h1,decide_eq_false h2];rfl
    have h4:¬f c=true:=λe=>by have:=hf c e;rw[h3]at this;cases this
    rw[ih,eN,iN h4,h3]
    cases eN nm f r<;>simp
def qT(nm:ByteArray)(f:FQ->Bool): ∀ (l:List FQ) (k:Nat),(G9 f k l = -1/\eN nm f l=none) \/ ∃ i:Nat,i<l.length/\G9 f k l=((k+i:Nat):Int)/\eN nm f l=some ((l.take i).countP (Mr nm))
 |[],_ => .inl ⟨rfl,rfl⟩
 | c::r,k=>by
  rw[G9,eN]
  by_cases h:f c=true
  ·rw[iP h,iP h]
   exact .inr ⟨0,sm,sm,sm⟩
  ·rw[iN h,iN h]
   rcases qT nm f r (k+1)with⟨h1,h2⟩|⟨i,h1,h2,h3⟩
   ·rw[h2];exact .inl ⟨h1,rfl⟩
   ·refine .inr ⟨i+1,by simpa using h1,by rw[h2];congr 1;omega, ?_⟩
    rw[h3,List.take_succ_cons,ES]
    rfl
def c_(s:FG)(t:FH)(tick:Int)(p:FI):Int:=if IV t p.h0<0 then -1 else match eN t.name (LV s t.name p tick) s.contracts with
 |none => -1
 |some n=>(n:Int)
def Zi(s:FG)(t:FH)(p:FI)(tick:Int):(Mh s t p tick = -1/\eN t.name (LV s t.name p tick) s.contracts=none) \/ ∃i:Nat,i<s.contracts.length/\Mh s t p tick=(i:Int)/\eN t.name (LV s t.name p tick) s.contracts=some ((s.contracts.take i).countP (Mr t.name)):=by
 have:=qT t.name (LV s t.name p tick) s.contracts 0
 simp only[AU]at this
 exact this
def dO{s:FG}{nm:ByteArray}{p:FI}{tick:Int}{c:FQ}(h:LV s nm p tick c=true):Mr nm c=true:=by
 unfold Mr
 rw[decide_eq_true (dN h)];rfl
def dM(s:FG)(nm:ByteArray)(p:FI)(tick:Int)(c:FQ):LV s nm p tick { c with via:=-1 }=LV s nm p tick c:=rfl
def I7(l:List FP):List FP:=(l.filter λd=>d.chain.isEmpty).map λd=>{ d with tenant:=0 }
def M9(s:FG)(t:FH)(tick:Int):List FI->List FP
 |[]=>[]
 |p::r=>if(xF t p).2=true/\Mh s t p tick<0 then⟨0,(xF t p).1,[]⟩::M9 s t tick r else M9 s t tick r
def e9(a b:List FP):I7 (a++b)=I7 a++I7 b:=by simp[I7]
def AAp{d:FP}(h:d.chain≠[]):I7 [d]=[]:=by
 have:d.chain.isEmpty=false:=by cases e:d.chain with
  |nil=>exact absurd e h
  |cons=>rfl
 simp[I7,this]
def AEj{s:FG}{x:FJ}{t:FH}{tick:Int}(q:List FJ)(out:List FP)(p:FI):
  (∃q',(XI s x t tick (q,out) p).1=q++q' /\ ∀y∈q',y.chain≠[])/\(x.chain≠[]->I7 (XI s x t tick (q,out) p).2=I7 out)/\(x.chain=[]->I7 (XI s x t tick (q,out) p).2=I7 out++M9 s t tick [p]):=by
 unfold XI
 split
 ·rename_i h
  refine⟨⟨[],sm,sm⟩,λ_=>rfl,λ_=>?_⟩
  rw[M9,iN (by rw[h];simp),M9,Af]
 ·rename_i h
  have h:(xF t p).2=true:=by simpa using h
  split
  ·rename_i hc
   refine⟨⟨[],sm,sm⟩,λhx=>?_,λhx=>?_⟩
   ·rw[e9,AAp (by exact hx),Af]
   ·rw[e9,M9,iP ⟨h,hc⟩,M9,hx];rfl
  ·rename_i hc
   have hn:M9 s t tick [p]=[]:=by rw[M9,iN λh=>hc h.2,M9]
   split
   ·exact⟨⟨[],sm,sm⟩,λ_=>rfl,λ_=>by rw[hn,Af]⟩
   ·refine⟨⟨[_],rfl,λy hy=>?_⟩,λ_=>rfl,λ_=>by rw[hn,Af]⟩
    rcases Ab.1 hy with rfl
    simp
def Zx{s:FG}{x:FJ}{t:FH}{tick:Int}: ∀(r:List FI) (q:List FJ) (out:List FP),
  (∃q',(TV s x t tick (q,out) r).1=q++q' /\ ∀y∈q',y.chain≠[])/\(x.chain≠[]->I7 (TV s x t tick (q,out) r).2=I7 out)/\(x.chain=[]->I7 (TV s x t tick (q,out) r).2=I7 out++M9 s t tick r)
 |[],q,out=>by
  rw[TV]
  exact⟨⟨[],sm,sm⟩,λ_=>rfl,λ_=>by rw[M9,Af]⟩
 | p::r,q,out=>by
  obtain⟨⟨q1,e1,e2⟩,e3,e4⟩:=AEj (s:=s) (x:=x) (t:=t) (tick:=tick) q out p
  rw[TV]
  generalize XI s x t tick (q,out) p=a at e1 e2 e3 e4
  obtain⟨aq,ao⟩:=a
  dsimp only at e1 e2 e3 e4
  subst e1
  obtain⟨⟨q2,f1,f2⟩,f3,f4⟩:=Zx (s:=s) (x:=x) (t:=t) (tick:=tick) r (q++q1) ao
  refine⟨⟨q1++q2,by rw[f1,AE],λy hy=>?_⟩,λhx=>by rw[f3 hx,e3 hx],λhx=>?_⟩
  ·rcases Ar.1 hy with hy|hy
   ·exact e2 y hy
   ·exact f2 y hy
  ·rw[f4 hx,e4 hx,AE]
   congr 1
   rw[M9,M9,M9]
   split<;>rfl
def rJ{s:FG}(hR:R19 s){a:Nat}(ha:a<s.tenants.length){tick:Int}: ∀ (f n:Nat) {q:List FJ} {now:List (List FM)} {out:List FP} {r:List FP×List (List FM)},itP s a q->dlP s a out->(∀ (i:Nat) (y:FJ),n<=i->q[i]? =some y->y.chain≠[])->Xo s tick f n q now out=some r ->
  I7 r.1=I7 out/\r.2[a]? =now[a]?
 | 0,n,q,now,out,r,_,_,_,e=>by rw[Xo]at e;cases e
 | f+1,n,q,now,out,r,h1,h2,h3,e=>by
  rw[Xo]at e
  cases hx:q[n]? with
  |none =>
   rw[hx]at e
   cases e
   exact⟨rfl,rfl⟩
  | some x =>
   rw[hx]at e
   dsimp only at e
   obtain⟨x0,x1,x2⟩:=h1 x (AB hx)
   have hch:=h3 n x (AT _) hx
   have hne:x.tenant.toNat≠a:=by
    rcases Yl hR ha x2 with⟨w,_⟩|w
    ·exact absurd w hch
    ·intro he;rw[he]at w;omega
   cases ht:s.tenants[x.tenant.toNat]? with
   |none=>rw[ht]at e;cases e
   | some t =>
    rw[ht]at e
    cases hs:now[x.tenant.toNat]? with
    |none=>rw[hs]at e;cases e
    | some st =>
     rw[hs]at e
     dsimp only at e
     cases er:Ly s.fields (GE t).1 st x.head tick with
     |none=>rw[er]at e;cases e
     | some b =>
      rw[er]at e
      dsimp only at e
      obtain⟨g1,g2⟩:=Zy hR ht (x:=x) FR x2 (tick:=tick) b.1 (b:=(q,out)) h1 h2
      obtain⟨⟨q',e1,e2⟩,e3,_⟩:=Zx (s:=s) (x:=x) (t:=t) (tick:=tick) b.1 q out
      split at e
      ·cases e
      ·obtain⟨i1,i2⟩:=rJ hR ha f (n+1) g1 g2 (λi y hi hy=>by
        rw[e1,C8]at hy
        split at hy
        ·exact h3 i y FR hy
        ·exact e2 y (AB hy)) e
       exact⟨by rw[i1,e3 hch],by rw[i2,List.getElem?_set_ne hne]⟩
def jF{s:FG}(hR:R19 s){sts:List (List FM)}{h:FI}{tick:Int}{a:Nat}{t:FH}{st:List FM}(ha:s.tenants[a]? =some t)(he:(MF t h).2=true)(hs:sts[a]? =some st){r:List FP×List (List FM)}(e:ML s sts h tick=some r):
  ∃b,Ly s.fields (GE t).1 st (MF t h).1 tick=some b/\I7 r.1=M9 s t tick b.1/\r.2[a]? =some b.2:=by
 have hal:=(AC.1 ha).1
 have hone:=ACQ hR ha he
 have hsl:=(AC.1 hs).1
 unfold ML at e
 rw[ic hR ha he]at e hone
 rw[Xo]at e
 dsimp only[List.getElem?_cons_zero]at e
 rw[Ag,ha,hs]at e
 dsimp only at e
 cases er:Ly s.fields (GE t).1 st (MF t h).1 tick with
 |none=>rw[er]at e;cases e
 | some b =>
  rw[er]at e
  dsimp only at e
  obtain⟨g1,g2⟩:=Zy hR ha (x:=⟨(a:Int),(MF t h).1,[]⟩) rfl rfl (tick:=tick) b.1 (b:=([⟨(a:Int),(MF t h).1,[]⟩],[])) hone (λd hd=>by cases hd)
  obtain⟨⟨q',e1,e2⟩,_,e4⟩:=Zx (s:=s) (x:=⟨(a:Int),(MF t h).1,[]⟩) (t:=t) (tick:=tick) b.1 [⟨(a:Int),(MF t h).1,[]⟩] []
  split at e
  ·cases e
  ·obtain⟨i1,i2⟩:=rJ hR hal 599 1 g1 g2 (λi y hi hy=>by
    rw[e1,C8]at hy
    split at hy
    ·rename_i hl;simp at hl;omega
    ·exact e2 y (AB hy)) e
   refine⟨b,rfl, ?_, ?_⟩
   ·rw[i1,e4 rfl];rfl
   ·rw[i2,List.getElem?_set_self hsl]
def zJ{s u:FG}{t:FH}(hf:s.fields=u.fields)(p:FI)(tick:Int):LV s t.name p tick=LV u t.name p tick:=by
 funext c
 unfold LV
 rw[hf]
def qB{s u:FG}{t:FH}(hf:s.fields=u.fields)(hc:vC t.name s.contracts=vC t.name u.contracts)(p:FI)(tick:Int):eN t.name (LV s t.name p tick) s.contracts=eN t.name (LV u t.name p tick) u.contracts:=by
 rw[<- lx (λc h=>dO h) (dM s t.name p tick) s.contracts,<- lx (λc h=>dO h) (dM u t.name p tick) u.contracts,hc,zJ hf]
def AEV{s u:FG}{t:FH}(hf:s.fields=u.fields)(hc:vC t.name s.contracts=vC t.name u.contracts)(tick:Int):c_ s t tick=c_ u t tick:=by
 funext p
 unfold c_
 rw[qB hf hc]
def zK{s u:FG}{t:FH}(hf:s.fields=u.fields)(hc:vC t.name s.contracts=vC t.name u.contracts)(p:FI)(tick:Int):Mh s t p tick<0↔Mh u t p tick<0:=by
 have h:=qB hf hc p tick
 rcases Zi s t p tick with⟨h1,h2⟩|⟨i,_,h1,h2⟩<;>rcases Zi u t p tick with⟨g1,g2⟩|⟨j,_,g1,g2⟩
 ·rw[h1,g1]
 ·rw[h2,g2]at h;cases h
 ·rw[h2,g2]at h;cases h
 ·rw[h1,g1];omega
def dI{s u:FG}{t:FH}(hf:s.fields=u.fields)(hc:vC t.name s.contracts=vC t.name u.contracts)(tick:Int): ∀l:List FI,M9 s t tick l=M9 u t tick l
 |[]=>rfl
 |p::r=>by
  rw[M9,M9,dI hf hc tick r]
  have:=zK hf hc p tick
  by_cases h:(xF t p).2=true/\Mh s t p tick<0
  ·rw[iP h,iP ⟨h.1,this.1 h.2⟩]
  ·rw[iN h,iN λg=>h ⟨g.1,this.2 g.2⟩]
def AEW{s u:FG}{t t':FH}(h:Lu s t=Lu u t'):s.fields=u.fields/\t=t'/\vC t.name s.contracts=vC t.name u.contracts:=by
 unfold Lu at h
 injection h with h1 h2 h3 h4
 have h5:t=t':=by simpa using h3
 subst h5
 exact⟨h2,rfl,h4⟩
def xk(l:List FP)(hl:l.length<=1073741824)(hk:∀d∈l,d.chain.length<=1073741824):FT AA 18 [.sl none (GN l),.sl none (GN l)] (.bool true):=by
 have el:(GN l).length=l.length:=Xb l
 have n0:((l.length:Int) !=(l.length:Int))=false:=sm
 refine pC Ab7 rfl ?_
 simp only[f18,go_sem,el,n0]
 refine Fg l (λ(_:Unit) _=>()) (λ_ _=>True) (λk _=>[(0,.sl none (GN l)),(1,.sl none (GN l)),(5,.int .i64 k)]) (λ_ _=>[]) () FR trivial rfl rfl ?_ ?_
 ·intro k _ x xs hd hx _ _ h0 h1 hw
  have c1:=WU x.chain x.chain true sm (hk x (AB hx))
  have v1:(x.tenant !=x.tenant)=false:=sm
  have v2:(x.head !=x.head)=false:=sm
  simp only[go_sem,h0,h1,Id hx,el]
  apply pK c1
  simp only[go_sem,h0,Id hx,v1,hw,As]
  exact⟨(),trivial⟩
 ·intro _ _ _
  simp only[go_sem,AQ,dF,el]
def xN{a b:ByteArray}(h:T' a b=0):a=b:=by
 unfold T' at h
 split at h
 ·cases h
 ·split at h
  ·assumption
  ·cases h
def xL{a b:Int}(h:Nz a b=0):a=b:=by
 unfold Nz at h
 split at h
 ·cases h
 ·split at h<;>first|omega|cases h
def ZI:∀{a b:List Int},MT a b=0->a=b
 |[],[],_=>rfl
 |[],_::_,h=>by rw[MT]at h;cases h
 |_::_,[],h=>by rw[MT]at h;cases h
 | x::a,y::b,h=>by
  rw[MT]at h
  by_cases hz:Nz x y=0
  ·rw[iN (by simpa using hz)]at h
   rw[xL hz,ZI h]
  ·rw[iP hz]at h
   exact absurd h hz
def xM{a b:FM}(h:P6 a b=0):a.var=b.var/\a.key=b.key:=by
 unfold P6 at h
 by_cases hz:T' a.var b.var=0
 ·rw[iN (by simpa using hz)]at h
  exact⟨xN hz,ZI h⟩
 ·rw[iP hz]at h
  exact absurd h hz
def AAe(a c:FM)(b:Bool)(hb:b=true↔a=c)(ha:a.key.length<=1073741824):FT AA 35 [.agg a.c,.agg c.c] (.bool b) := by
  have c1 := Z3 a c ha
  refine pC AHD rfl ?_
  simp only[f35,go_sem]
  repeat' (first|(apply pK c1;simp only[go_sem])|apply cg<;>intro hc<;>simp only[go_sem,hc])
  all_goals first
    | (rename_i hz
       have hz:P6 a c=0 := by simpa using hz
       have hn:a.n=c.n := by simpa using hc
       obtain⟨e1,e2⟩ := xM hz
       congr 1
       rw[Bool.eq_iff_iff,hb,beq_iff_eq]
       obtain⟨v,k,n,t⟩ := a
       obtain⟨v',k',n',t'⟩ := c
       dsimp only at e1 e2 hn
       subst e1 e2 hn
       simp
       done)
    |(rw[MM hb (by rintro rfl;simp_all[ZL])];done)
def sa(l m:List FM)(b:Bool)(hb:b=true↔l=m)(hl:l.length<=1073741824)(hk:∀e∈l,e.key.length<=1073741824):FT AA 34 [.sl none (Fd l),.sl none (Fd m),.fn (.func 35) [] []] (.bool b):=by
 have el:(Fd l).length=l.length:=Hl l
 have em:(Fd m).length=m.length:=Hl m
 refine pC AHE rfl ?_
 simp only[f34,go_sem,el,em]
 repeat' (first|apply cg<;>intro hc<;>simp only[go_sem,hc,el])
 all_goals first
  |(rw[MM hb (by rintro rfl;simp_all)];done)
  |skip
 have l0:l.length=m.length:=by simp_all;omega
 refine Fg l (λ(_:Unit) (_:List FM)=>()) (λk _=>l.take k=m.take k) (λk _=>[(1,.sl none (Fd m)),(2,.fn (.func 35) [] []),(15,.sl none (Fd l)),(16,.int .i64 l.length),(17,.int .i64 k)]) (λ_ _=>[]) () FR rfl rfl rfl ?_ ?_
 ·intro k _ x xs hd hx hI _ h0 h1 hw
  obtain⟨y,hy⟩:∃y,m[k]? =some y:=⟨_,AH (by have:=(AC.1 hx).1;omega)⟩
  obtain⟨br,hbr⟩:=exB (x=y)
  have c1:=AAe x y br hbr (hk x (AB hx))
  simp only[go_sem,h0,h1,GX hx,GX hy,AD,AJ,AU]
  refine Fu.pure c1 ?_
  cases br with
  |true =>
   have hxy:=hbr.1 rfl
   subst hxy
   simp only[go_sem,hw,As]
   exact⟨(),Ij hI hx hy⟩
  |false =>
   have hxy:¬x=y:=λe=>by have:=hbr.2 e;cases this
   simp only[go_sem,Aw]
   rw[MM hb (λe=>J4 hx hy hxy (by rw[e]))]
 ·intro _ hI _
  have hA:=Hx hI FR
  simp only[go_sem,AQ,dF]
  rw[Wa hb hA]
def AAd(l m:List FM)(b:Bool)(hb:b=true↔l=m)(hl:l.length<=1073741824)(hk:∀e∈l,e.key.length<=1073741824):FT AA 9 [.sl none (Fd l),.sl none (Fd m)] (.bool b):=by
 refine pC AX8 rfl ?_
 simp only[f9,go_sem]
 repeat' (first|(apply pK (sa l m b hb hl hk);simp only[go_sem])|apply cg<;>intro hc<;>simp only[go_sem,hc])
def qg{a:AV}(h:Rd AA 32 a): ∃l,a = .sl none (HG l)/\True:=by
 obtain⟨l,h1,_,_⟩:=IW (f:=λ(x:List FM)=>AV.sl none (Fd x)) (ok:=λx=>Y0 x) (P:=AA) (t:=32) (e:=43) kr (λx hx=>Tg hx) h
 exact⟨l,h1,trivial⟩
def qh{l:List (List FM)}{B:Nat}(h:FU (HG l)<=B):l.length<=B /\ ∀st∈l,st.length<=B /\ ∀e∈st,e.key.length<=B:=by
 refine⟨AL (HK (f:=λ(x:List FM)=>AV.sl none (Fd x)) (λx=>by simp[AV.bulk]) l) h,λst hst=>?_⟩
 have h1:FU (Fd st)<=B:=Gr (o:=none) (AO.2 ⟨st,hst,rfl⟩) h
 refine⟨tf h1,λe he=>?_⟩
 have h2:=tg h1 he
 have h3:FU e.c<=B:=by simpa only[AV.bulk]using h2
 exact AFE (cW h3)
def gvL(s:FG)(t:FH)(tick:Int)(o:Option (List FI×List FM)):List Int:=match o with
 |none=>[]
 |some b=>b.1.map (c_ s t tick)
def Y'(o:Option (List FP×List (List FM))):List FP:=match o with
 |none=>[]
 |some r=>I7 r.1
def iF(sts:List (List FM))(k:Nat)(o:Option (List FP×List (List FM))):List FM:=match o with
 |none=>(sts[k]?).getD []
 |some r=>(r.2[k]?).getD []
def frE(b:Option (List FI×List FM))(o:Option (List FP×List (List FM))):Int:=match b,o with
 |some _,some _=>0
 |_,_=>2
def lm{l:List Fld}(hl:Iq l)(hln:l.length<=1073741824){p:List FL}(hp:okPrg l p){tick:Int}(ht:0<=tick/\tick<=1073741824){st:List FM}(hst:Om p st)(hlen:st.length+p.length*256<=1073741823){h:FI}(hr:FZ h=true)(s:FG)(t:FH):
  ∃pk st2 e0,sH st (Ly l p st h tick) = .tup [.sl none (F2 pk),.sl none (Fd st2),.int .i64 e0]/\(∀z∈pk,FZ z=true)/\pk.length<=256/\gvL s t tick (Ly l p st h tick)=pk.map (c_ s t tick)/\((e0=0 /\ ∃b,Ly l p st h tick=some b)\/(e0=2/\Ly l p st h tick=none)):=by
 cases e:Ly l p st h tick with
 |none=>exact⟨[],st,2,rfl,sm,sm,rfl,.inr ⟨rfl,rfl⟩⟩
 |some b =>
  obtain⟨r1,r2,_,_⟩:=RS hl hln hp ht hst hlen hr e
  exact⟨b.1,b.2,0,rfl,r1,r2,rfl,.inl ⟨rfl,b,rfl⟩⟩
def dx{s:FG}(hR:R19 s){sts:List (List FM)}{h:FI}{tick:Int}{k:Nat}(hk:k<sts.length)(hl:sts.length=s.tenants.length)(R:okRun s sts h tick)(hN:TW s sts 60):
  ∃dl nx e1 st2,qP sts (ML s sts h tick) = .tup [.sl none (GN dl),.sl none (HG nx),.int .i64 e1]/\Y' (ML s sts h tick)=I7 dl/\dl.length<=153600/\nx[k]? =some st2/\iF sts k (ML s sts h tick)=st2/\((e1=0 /\ ∃r,ML s sts h tick=some r)\/(e1=2/\ML s sts h tick=none)):=by
 cases e:ML s sts h tick with
 |none =>
  have hs:sts[k]? =some sts[k]:=AH hk
  exact⟨[],sts,2,sts[k],rfl,rfl,sm,hs,by rw[iF,hs];rfl,.inr ⟨rfl,rfl⟩⟩
 |some r =>
  have h1:=AF5 hR R (by omega:60+1228800<=1073741823) hN e
  have h2:=bH 600 0 (show Xo s tick 600 0 (ME h 0 s.tenants) sts []=some r from e)
  have hs:r.2[k]? =some (r.2[k]'(by rw[h1.1];omega)):=AH _
  exact⟨r.1,r.2,0,_,rfl,rfl,by simpa using h2,hs,by rw[iF,hs];rfl,.inl ⟨rfl,r,rfl⟩⟩
def eeF(e0 e1:Int):Int:=if e0==0 then e1 else e0
def Pb(d:FP)(l:List FP):I7 (d::l)=(if d.chain=[]then[{ d with tenant:=0 }]else[])++I7 l:=by
 unfold I7
 cases h:d.chain with
 |nil=>simp[h]
 |cons=>simp[h]
def qZ(s:FG)(hb:FU s.c<=1048576)(hR:R19 s)(sts:List (List FM))(hN:TW s sts 60)(a:FN)(ha:FZ a.head=true)(R:okRun s sts a.head a.tick)(k:Nat)(t:FH)(st:List FM)(w1:s.tenants[k]? =some t)(w3:(MF t a.head).2=true)(hs:sts[k]? =some st)(H:cj)(oa:Nat)(hoa:H[oa]? =some (some a.c)):
  GM AA 10 [.agg s.c,.sl none (HG sts),.int .i64 k,.ptr oa 0] H
   (.tup [.sl (some 12) (GN (Y' (ML s sts a.head a.tick))),.sl (some 1) (GK (gvL s t a.tick (Ly s.fields (GE t).1 st (MF t a.head).1 a.tick))),.sl none (Fd (iF sts k (ML s sts a.head a.tick))),.int .i64 (frE (Ly s.fields (GE t).1 st (MF t a.head).1 a.tick) (ML s sts a.head a.tick))]):=by
 refine Fa.drop (by simp[AV.bnd,Fo,Xc,L8,Qt]) ?_
 have hkl:=(AC.1 w1).1
 have hsl:=(AC.1 hs).1
 have htm:=AB w1
 have c5:=bG t (R.prt t htm) a.head
 have eT:Kj (Hz t (i64 (a.head.h0 - 10000))) a.head=MF t a.head:=rfl
 rw[eT,w3]at c5
 have c6:=R.whole t htm
 have hown:=R.ent t htm w3
 obtain⟨p1,p2⟩:=R.prg k t w1
 obtain⟨s1,s2⟩:=R.st k t st w1 hs
 have hfl:s.fields.length<=1073741824:=by have:=Ph (Hv hb);omega
 have hcl:s.contracts.length<=1048576:=I8 (G5 hb)
 have hlenb:st.length+(GE t).1.length*256<=1073741823:=FR
 have c7:=AGu s.fields R.fld hfl (GE t).1 p1 st hlenb s1 (MF t a.head).1 hown a.tick R.tick
 have c2:=AIH s sts a.head a.tick ha R
 obtain⟨pk,st2,e0,f1,f2,f3,f4,f5⟩:=lm R.fld hfl p1 R.tick s1 hlenb hown s t
 obtain⟨dl,nx,e1,st3,g1,g2,g3,g4,g5,g6⟩:=dx hR hsl R.len R hN
 have hfe:frE (Ly s.fields (GE t).1 st (MF t a.head).1 a.tick) (ML s sts a.head a.tick)=eeF e0 e1:=by
  rcases f5 with⟨rfl,b,h⟩|⟨rfl,h⟩<;>rcases g6 with⟨rfl,r,h'⟩|⟨rfl,h'⟩<;>rw[h,h']<;>rfl
 rw[f1]at c7
 rw[g1]at c2
 rw[g2,f4,g5,hfe]
 have l0:=(AC.1 hoa).1
 have gA:=FY hoa
 have gS:∀y L,(H++y::L)[H.length]? =some y:=λy L=>sm
 have gS1:∀y z L,(H++y::z::L)[H.length+1]? =some z:=λy z L=>sm
 have sS:∀y z,(H++[y]).set H.length z=H++[z]:=λy z=>sm
 have sS1:∀y z w,(H++[y,z]).set (H.length+1) w=H++[y,w]:=λy z w=>sm
 have m1:(0:Int)<=((k:Nat):Int):=FR
 have m2:((k:Nat):Int)<(s.tenants.length:Int):=FR
 have m3:((k:Nat):Int)<(sts.length:Int):=FR
 refine aC Aca rfl ?_
 simp only[f10,go_sem,gS,m1,F5 w1,AU,Nat.reduceAdd]
 apply pK c6
 simp only[go_sem,gA,gS,m1,F5 w1,AU]
 apply pK c5
 simp only[go_sem,gA,gS,gS1,sS1,m1,K6 hs,AF,AD,AJ,AU]
 apply pK c7
 simp only[go_sem]
 refine Fg pk (λ(w:List Int×cj) (r:List FI)=>w.1++r.map (c_ s t a.tick)) (λj w=>w.1.length=j/\w.2[oa]? =some (some a.c)/\w.2[H.length]? =some (some s.c) /\ ∃E,w.2=H++E)
  (λj w=>[(1,.sl none (HG sts)),(2,.int .i64 k),(3,.ptr oa 0),(4,.ptr H.length 0),(7,.sl (some 12) []),(8,.sl (some 1) (GK w.1)),(10,.int .i64 e0),(63,.sl none (F2 pk)),(64,.int .i64 pk.length),(65,.int .i64 j)]) (λ_ w=>w.2) ([],_) FR ⟨rfl,gA _,gS _ _,_,rfl⟩ rfl rfl ?_ ?_
 ·rintro j ⟨gs,Z⟩ p ps hd hx ⟨i1,i2,i3,E,i4⟩ hF g0 g1 gw
  dsimp only at i1 i2 i3 i4 hF ⊢
  have hjl:=(AC.1 hx).1
  have hrp:=f2 p (AB hx)
  have c8:=ACr t p.h0
  have c9:=qa s R.fld FR FR  k t w1 p hrp a.tick R.pred
  have eK:H8 (LV s t.name p a.tick) s.contracts=Mh s t p a.tick:=rfl
  rw[eK]at c9
  have l1:=(AC.1 i2).1
  have l2:=(AC.1 i3).1
  have gZa:=FY i2
  have gZs:=FY i3
  have gz:∀y L,(Z++y::L)[Z.length]? =some y:=λy L=>sm
  have sz:∀y z,(Z++[y]).set Z.length z=Z++[z]:=λy z=>sm
  have n1:¬((0:Int) <= -1):=dc
  have gI:∀L,Z++L=H++(E++L):=λL=>by rw[i4,AE]
  have ep:(F2 pk)[j]? =some (.agg p.c):=Hs hx
  have h00:(Head.c p)[0]? =some (.int .i64 p.h0):=rfl
  simp only[go_sem,g0,g1,ep,gZs,gz,sz,m1,F5 w1,h00]
  apply pK c8
  by_cases hed:IV t p.h0<0
  ·have hed2:¬(0:Int)<=IV t p.h0:=FR
   have hv:c_ s t a.tick p = -1:=by unfold c_;rw[iP hed]
   simp only[go_sem,hed2,n1,dF,gw]
   exact⟨FR,FR,(gs++[c_ s t a.tick p],_),by rw[AE];rfl,⟨by rw[AF,BL];omega,gZa _,gZs _,_,gI _⟩,by rw[hv],rfl⟩
  ·have hed2:(0:Int)<=IV t p.h0:=FR
   simp only[go_sem,hed2,dT,gZa,gZs,gz]
   apply pK c9
   rcases Zi s t p a.tick with⟨q1,q2⟩|⟨i,q1,q2,q3⟩
   ·have hv:c_ s t a.tick p = -1:=by unfold c_;rw[iN hed,q2]
    rw[q1]
    simp only[go_sem,n1,dF,gw]
    exact⟨FR,FR,(gs++[c_ s t a.tick p],_),by rw[AE];rfl,⟨by rw[AF,BL];omega,gZa _,gZs _,_,gI _⟩,by rw[hv],rfl⟩
   ·have hv:c_ s t a.tick p=(((s.contracts.take i).countP (Mr t.name):Nat):Int):=by unfold c_;rw[iN hed,q3]
    have i0:(0:Int)<=((i:Nat):Int):=FR
    have i9:((i:Nat):Int)<=(s.contracts.length:Int):=FR
    rw[q2]
    have htl:(s.contracts.take i).length=i:=by rw[BF];omega
    simp only[go_sem,i0,i9,dT,gZs,ite_self]
    refine Fg (s.contracts.take i) (λ(w:Nat×cj) (r:List FQ)=>w.1+r.countP (Mr t.name)) (λm w=>w.1<=m/\w.2[oa]? =some (some a.c)/\w.2[H.length]? =some (some s.c) /\ ∃E,w.2=H++E)
     (λm w=>[(1,.sl none (HG sts)),(2,.int .i64 k),(3,.ptr oa 0),(4,.ptr H.length 0),(7,.sl (some 12) []),(8,.sl (some 1) (GK gs)),(10,.int .i64 e0),(20,.int .i64 (w.1:Nat)),(63,.sl none (F2 pk)),(64,.int .i64 pk.length),(65,.int .i64 j),(89,.sl none (F8 (s.contracts.take i))),(90,.int .i64 (s.contracts.take i).length),(91,.int .i64 m)]) (λ_ w=>w.2) (0,_) FR ⟨AT _,gZa _,gZs _,_,gI _⟩ rfl rfl ?_ ?_
    ·rintro m ⟨n,Y⟩ d ds hd2 hx2 ⟨j1,j2,j3,E2,j4⟩ hF2 y0 y1 yw
     dsimp only at j1 j2 j3 j4 hF2 ⊢
     have hml:=(AC.1 hx2).1
     have gYa:=FY j2
     have gYs:=FY j3
     have gy:∀y L,(Y++y::L)[Y.length]? =some y:=λy L=>sm
     have sy:∀y z,(Y++[y]).set Y.length z=Y++[z]:=λy z=>sm
     have gJ:∀L,Y++L=H++(E2++L):=λL=>by rw[j4,AE]
     have hwn:IntKind.i64.wrap ((n:Int)+1)=((n+1:Nat):Int):=Mg FR
     have hcp:(d::ds).countP (Mr t.name)=(if Mr t.name d=true then 1 else 0)+ds.countP (Mr t.name):=by rw[ES,Nat.add_comm]
     by_cases hsrc:d.src=t.name
     ·have hi:Mr t.name d=true:=by unfold Mr;rw[decide_eq_true hsrc];rfl
      have b1:decide (d.src=t.name)=true:=decide_eq_true hsrc
      simp only[go_sem,y0,y1,Gi hx2,gYs,gy,sy,m1,F5 w1,FV,b1,hwn,yw]
      exact⟨(n+1,_),by rw[hcp,iP hi];dsimp only;omega,⟨by dsimp only;omega,gYa _,gYs _,_,gJ _⟩,rfl,rfl⟩
     ·have b1:decide (d.src=t.name)=false:=decide_eq_false hsrc
      by_cases hdst:d.dst=t.name
      ·have hi:Mr t.name d=true:=by unfold Mr;rw[decide_eq_true hdst,Bool.or_true]
       have b2:decide (d.dst=t.name)=true:=decide_eq_true hdst
       simp only[go_sem,y0,y1,Gi hx2,gYs,gy,sy,m1,F5 w1,FV,b1,b2,hwn,yw]
       exact⟨(n+1,_),by rw[hcp,iP hi];dsimp only;omega,⟨by dsimp only;omega,gYa _,gYs _,_,gJ _⟩,rfl,rfl⟩
      ·have hi:¬Mr t.name d=true:=by unfold Mr;rw[decide_eq_false hsrc,decide_eq_false hdst];decide
       have b2:decide (d.dst=t.name)=false:=decide_eq_false hdst
       simp only[go_sem,y0,y1,Gi hx2,gYs,gy,sy,m1,F5 w1,FV,b1,b2,yw]
       exact⟨(n,_),by rw[hcp,iN hi];dsimp only;omega,⟨by dsimp only;omega,gYa _,gYs _,_,gJ _⟩,rfl,rfl⟩
    ·rintro ⟨n,Y⟩ ⟨j1,j2,j3,E2,j4⟩ hF2
     dsimp only at j1 j2 j3 j4 hF2 ⊢
     rw[List.countP_nil,Nat.add_zero,AU]at hF2
     simp only[go_sem,AQ,dF,gw]
     exact⟨FR,FR,(gs++[c_ s t a.tick p],Y),by rw[AE];rfl,⟨by rw[AF,BL];omega,j2,j3,_,j4⟩,by rw[hv,hF2],rfl⟩
 ·rintro ⟨gs,Z⟩ ⟨i1,i2,i3,E,i4⟩ hF
  dsimp only at i1 i2 i3 i4 hF ⊢
  rw[List.map_nil,Af]at hF
  have hF:gs=pk.map (c_ s t a.tick):=hF.symm
  rw[<- hF]
  have gZa:=FY i2
  have gZs:=FY i3
  have gI:∀L,Z++L=H++(E++L):=λL=>by rw[i4,AE]
  simp only[go_sem,AQ,dF,i2,i3]
  apply pK c2
  have b2:((2:Int)==0)=false:=rfl
  have b0:((0:Int)==0)=true:=rfl
  rcases f5 with⟨rfl,_⟩|⟨rfl,_⟩
  ·rw [show eeF 0 e1=e1 from rfl]
   simp only[go_sem,b0]
   refine Fg dl (λ(w:List FP×cj) (r:List FP)=>w.1++I7 r) (λj w=>w.1.length<=j /\ ∃E,w.2=H++E) (λj w=>[(2,.int .i64 k),(7,.sl (some 12) (GN w.1)),(8,.sl (some 1) (GK gs)),(10,.int .i64 e1),(24,.sl none (HG nx)),(138,.sl none (GN dl)),(139,.int .i64 dl.length),(140,.int .i64 j)]) (λ_ w=>w.2) ([],Z) FR ⟨AT _,E,i4⟩ rfl rfl ?_ ?_
   ·rintro j ⟨w,Y⟩ d ds hd2 hx2 ⟨j1,E2,j4⟩ hF2 y0 y1 yw
    dsimp only at j1 j4 hF2 ⊢
    have hjl:=(AC.1 hx2).1
    have gy:∀y L,(Y++y::L)[Y.length]? =some y:=λy L=>sm
    have sy:∀y z,(Y++[y]).set Y.length z=Y++[z]:=λy z=>sm
    have gJ:∀L,Y++L=H++(E2++L):=λL=>by rw[j4,AE]
    by_cases hch:d.chain=[]
    ·have zc:(((d.chain.length:Nat):Int)==0)=true:=by rw[hch];rfl
     simp only[go_sem,y0,y1,Id hx2,gy,sy,zc,yw]
     exact⟨FR,FR,(w++[{ d with tenant:=0 }],_),by rw[Pb,iP hch,AE],⟨by rw[AF,BL];omega,_,gJ _⟩,rfl,rfl⟩
    ·have zc:(((d.chain.length:Nat):Int)==0)=false:=by
      rw[beq_eq_false_iff_ne]
      intro h
      exact hch (Ck.1 FR)
     simp only[go_sem,y0,y1,Id hx2,gy,sy,zc,yw]
     exact⟨(w,_),by rw[Pb,iN hch];rfl,⟨by dsimp only;omega,_,gJ _⟩,rfl,rfl⟩
   ·rintro ⟨w,Y⟩ ⟨j1,E2,j4⟩ hF2
    dsimp only at j1 j4 hF2 ⊢
    have hw:I7 dl=w:=by simpa [I7]using hF2
    have hnk:((k:Nat):Int)<(nx.length:Int):=by have:=(AC.1 g4).1;omega
    rw[hw]
    simp only[go_sem,AQ,dF,K6 g4,m1]
    first|exact⟨E2,rfl,j4⟩|exact⟨E2,j4⟩|skip
  ·rw [show eeF 2 e1=2 from rfl]
   simp only[go_sem,b2]
   refine Fg dl (λ(w:List FP×cj) (r:List FP)=>w.1++I7 r) (λj w=>w.1.length<=j /\ ∃E,w.2=H++E) (λj w=>[(2,.int .i64 k),(7,.sl (some 12) (GN w.1)),(8,.sl (some 1) (GK gs)),(10,.int .i64 2),(24,.sl none (HG nx)),(138,.sl none (GN dl)),(139,.int .i64 dl.length),(140,.int .i64 j)]) (λ_ w=>w.2) ([],Z) FR ⟨AT _,E,i4⟩ rfl rfl ?_ ?_
   ·rintro j ⟨w,Y⟩ d ds hd2 hx2 ⟨j1,E2,j4⟩ hF2 y0 y1 yw
    dsimp only at j1 j4 hF2 ⊢
    have hjl:=(AC.1 hx2).1
    have gy:∀y L,(Y++y::L)[Y.length]? =some y:=λy L=>sm
    have sy:∀y z,(Y++[y]).set Y.length z=Y++[z]:=λy z=>sm
    have gJ:∀L,Y++L=H++(E2++L):=λL=>by rw[j4,AE]
    by_cases hch:d.chain=[]
    ·have zc:(((d.chain.length:Nat):Int)==0)=true:=by rw[hch];rfl
     simp only[go_sem,y0,y1,Id hx2,gy,sy,zc,yw]
     exact⟨FR,FR,(w++[{ d with tenant:=0 }],_),by rw[Pb,iP hch,AE],⟨by rw[AF,BL];omega,_,gJ _⟩,rfl,rfl⟩
    ·have zc:(((d.chain.length:Nat):Int)==0)=false:=by
      rw[beq_eq_false_iff_ne]
      intro h
      exact hch (Ck.1 FR)
     simp only[go_sem,y0,y1,Id hx2,gy,sy,zc,yw]
     exact⟨(w,_),by rw[Pb,iN hch];rfl,⟨by dsimp only;omega,_,gJ _⟩,rfl,rfl⟩
   ·rintro ⟨w,Y⟩ ⟨j1,E2,j4⟩ hF2
    dsimp only at j1 j4 hF2 ⊢
    have hw:I7 dl=w:=by simpa [I7]using hF2
    have hnk:((k:Nat):Int)<(nx.length:Int):=by have:=(AC.1 g4).1;omega
    rw[hw]
    simp only[go_sem,AQ,dF,K6 g4,m1]
    first|exact⟨E2,rfl,j4⟩|exact⟨E2,j4⟩|skip
def mO(l:List FP): ∀d∈I7 l,d.chain=[]:=by
 intro d hd
 unfold I7 at hd
 obtain⟨x,hx,rfl⟩:=AO.1 hd
 have:=(List.mem_filter.1 hx).2
 simpa using this
def AAo(l:List FP):(I7 l).length<=l.length:=by
 unfold I7
 rw[Ap]
 exact Cy _ _
def qF(nm:ByteArray): ∀l:List FQ,(vC nm l).length<=l.length
 |[]=>AT _
 | c::r=>by
  rw[vC]
  have:=qF nm r
  split
  ·simpa using this
  ·split
   ·simpa using this
   ·rw[AD];omega
def gj:Hint:={ h3 with pc:=[36,40,44,54,57,58,70,73,97,99,110,114] }
@[go_sem] def Afj(k:Nat):gj.lv k=h3.lv k/\gj.ct k=h3.ct k/\gj.at k=h3.at k/\gj.dn k=h3.dn k:=⟨AG rfl rfl,AG rfl rfl,AG rfl rfl,AG rfl rfl⟩
@[go_sem] def AgK:gj.tk=[78,88,95,96,108,109,112,113]/\gj.mt=[]/\gj.pc=[36,40,44,54,57,58,70,73,97,99,110,114]:=⟨rfl,rfl,rfl⟩
def AIj:FK AA 3 f3 gj:=⟨kr,kr,func3,kr⟩
def AFw(hsan:FT AA 5 [] (.bool true))(s u:FG)(sts more:List (List FM))(a:FN)(hb:FU s.c<=1048576)(hub:FU u.c<=1048576)(hsb:FU (HG sts)<=1048576)(hmb:FU (HG more)<=1048576):FT AA 3 [.agg s.c,.agg u.c,.sl none (HG sts),.sl none (HG more),.agg a.c] (.bool true):=by
 obtain⟨hsl,hst⟩:=qh hsb
 obtain⟨hml,hmt⟩:=qh hmb
 have q1:=qR s hb sts FR (λst hm=>⟨by have:=(hst st hm).1;omega,λe he=>by have:=(hst st hm).2 e he;omega⟩) [a] sm
 have q2:=qR u hub more FR (λst hm=>⟨by have:=(hmt st hm).1;omega,λe he=>by have:=(hmt st hm).2 e he;omega⟩) [a] sm
 refine pC AIj rfl ?_
 simp only[f3,go_sem]
 refine Jx (KL.lend q1) λr hr=>?_
 obtain⟨bb,rfl,hq⟩:=hr
 cases bb with
 |false =>
  simp only[go_sem,Aw]
  apply pK hsan
  simp only[go_sem]
 |true =>
 simp only[go_sem,As]
 refine Jx (KL.lend q2) λr hr=>?_
 obtain⟨bb,rfl,hq2⟩:=hr
 cases bb with
 |false =>
  simp only[go_sem,Aw]
  apply pK hsan
  simp only[go_sem]
 |true =>
 obtain⟨h1,h2,h3⟩:=hq rfl
 obtain⟨k1,k2,_⟩:=hq2 rfl
 have hR:=SY h1
 have hU:=SY k1
 have hf:IQ s=true:=by unfold JX at h1;rw[AM]at h1;exact h1.1
 have huf:IQ u=true:=by unfold JX at k1;rw[AM]at k1;exact k1.1
 have ha:=h3 a sm
 unfold Xs at ha
 simp only[AM,decide_eq_true_eq]at ha
 have hSt:=fM hR h2 λst h=>(hst st h).2
 have hUt:=fM hU k2 λst h=>(hmt st h).2
 have hN:=hSt.n hR
 have hUN:=hUt.n hU
 have hRun:=fP hR hf hb hSt ha.1 ⟨ha.2.2.1,ha.2.2.2⟩
 have hURun:=fP hU huf hub hUt ha.1 ⟨ha.2.2.1,ha.2.2.2⟩
 have hnt:s.tenants.length<=256:=hRun.ten
 have hut:u.tenants.length<=256:=hURun.ten
 have c3:=ZP s FR hRun.prt a.head
 have c4:=ZP u FR hURun.prt a.head
 simp only[go_sem,As]
 apply pK c3
 have z1:(-1:Int)<0:=dc
 rcases WD (h:=a.head) (l:=s.tenants) (k:=0)with⟨w1,_,_⟩|⟨x,t,w1,w2,w3⟩
 ·rw[w1]
  simp only[go_sem]
  apply pK c4
  simp only[go_sem,z1,dT]
  apply pK hsan
  simp only[go_sem]
 ·rw [AU] at w2
  rw[w2]
  have x1:¬((x:Nat):Int)<0:=FR
  have hxl:=(AC.1 w1).1
  simp only[go_sem]
  apply pK c4
  rcases WD (h:=a.head) (l:=u.tenants) (k:=0)with⟨v1,_,_⟩|⟨y,t',v1,v2,v3⟩
  ·rw[v1]
   simp only[go_sem,x1,z1,dT,dF]
   apply pK hsan
   simp only[go_sem]
  ·rw [AU] at v2
   rw[v2]
   have y1:¬((y:Nat):Int)<0:=FR
   have hyl:=(AC.1 v1).1
   have c5:=AAa s hb hR x t w1
   have c6:=AAa u hub hU y t' v1
   obtain⟨bv,hbv⟩:=exB (Lu s t=Lu u t')
   have hbt:FU t.c<=1048576:=by
    have h1:=L6 (Hk hb) (AB w1)
    simpa only[AV.bulk]using h1
   have hne:s.network.edges.length<=1048576:=Rl (KK hb)
   have hnf:s.fields.length<=1048576:=Ph (Hv hb)
   have hnc:s.contracts.length<=1048576:=I8 (G5 hb)
   have c7:=ACp (Lu s t) (Lu u t') bv hbv (by simp[Lu]) (by simp[Lu]) (by simp only[Lu,QY];omega) (by simp only[Lu];omega) (by simp[Lu]) (by have:=qF t.name s.contracts;simp only[Lu];omega) (by
    intro z hz
    simp only[Lu,Ab]at hz
    subst hz;omega)
   simp only[go_sem,x1,y1,dF]
   apply pK c5
   simp only[go_sem]
   apply pK c6
   simp only[go_sem]
   apply pK c7
   cases bv with
   |false =>
    simp only[go_sem,Aw]
    apply pK hsan
    simp only[go_sem]
   | true =>
    obtain⟨e1,e2,e3⟩:=AEW (hbv.1 rfl)
    subst e2
    obtain⟨st,hs⟩:∃st,sts[x]? =some st:=⟨_,AH (by have:=h2.1;omega)⟩
    obtain⟨st',hs'⟩:∃st,more[y]? =some st:=⟨_,AH (by have:=k2.1;omega)⟩
    obtain⟨bs,hbs⟩:=exB (st=st')
    have hm:=hst st (AB hs)
    have c8:=AAd st st' bs hbs FR λe he=>by have:=hm.2 e he;omega
    have x0:(0:Int)<=((x:Nat):Int):=FR
    have y0:(0:Int)<=((y:Nat):Int):=FR
    have x2:((x:Nat):Int)<(sts.length:Int):=by have:=h2.1;omega
    have y2:((y:Nat):Int)<(more.length:Int):=by have:=k2.1;omega
    simp only[go_sem,As,x0,y0,K6 hs,K6 hs']
    apply pK c8
    cases bs with
    |false =>
     simp only[go_sem,Aw]
     apply pK hsan
     simp only[go_sem]
    | true =>
     have e4:=hbs.1 rfl
     subst e4
     have d1:=qZ s hb hR sts hN a ha.1 hRun x t st w1 w3 hs [some s.c,some u.c,some a.c] 2 rfl
     have d2:=qZ u hub hU more hUN a ha.1 hURun y t st v1 v3 hs' [some s.c,some u.c,some a.c] 2 rfl
     have hgv:=AEV (s:=s) (u:=u) (t:=t) e1 e3 a.tick
     have hgl:∀o,gvL u t a.tick o=gvL s t a.tick o:=λo=>by
      cases o with
      |none=>rfl
      |some b=>show b.1.map (c_ u t a.tick)=b.1.map (c_ s t a.tick);rw[hgv]
     rw[<- e1,hgl]at d2
     have hown:=hRun.ent t (AB w1) w3
     obtain⟨p1,p2⟩:=hRun.prg x t w1
     obtain⟨s1,s2⟩:=hRun.st x t st w1 hs
     have hlenb:st.length+(GE t).1.length*256<=1073741823:=FR
     have hinv:=λb=>RS (b:=b) hRun.fld FR p1 hRun.tick s1 hlenb hown
     have oS:=λr=>jF (r:=r) (h:=a.head) (tick:=a.tick) hR w1 w3 hs
     have oU:=λr=>jF (r:=r) (h:=a.head) (tick:=a.tick) hU v1 v3 hs'
     rw[<- e1]at oU
     generalize Ly s.fields (GE t).1 st (MF t a.head).1 a.tick=o at d1 d2 hinv oS oU
     have hgb:(gvL s t a.tick o).length<=1073741824:=by
      cases o with
      |none=>simp[gvL]
      |some b =>
       obtain⟨_,r2,_,_⟩:=hinv b rfl
       simp only[gvL,Ap];omega
     have c9:=WU (gvL s t a.tick o) (gvL s t a.tick o) true sm hgb
     have b2:((2:Int) !=0)=true:=rfl
     have b0:((0:Int) !=0)=false:=rfl
     have hn:frE o none=2:=by cases o<;>rfl
     simp only[go_sem,As]
     cases ec:ML s sts a.head a.tick with
     |none =>
      rw[ec,hn]at d1
      refine aS d1 ?_
      simp only[go_sem]
      refine aS d2 ?_
      simp only[go_sem]
      apply pK (FT.weak c9)
      simp only[go_sem,As]
      apply pK hsan
      simp only[go_sem,b2]
     | some r =>
      obtain⟨b,e5,e6,e7⟩:=oS r ec
      subst e5
      cases eu:ML u more a.head a.tick with
      |none =>
       rw[ec,show frE (some b) (some r)=0 from rfl]at d1
       rw[eu,hn]at d2
       refine aS d1 ?_
       simp only[go_sem]
       refine aS d2 ?_
       simp only[go_sem]
       apply pK (FT.weak c9)
       simp only[go_sem,As]
       apply pK hsan
       simp only[go_sem,b0,b2]
      | some r' =>
       obtain⟨b',f5,f6,f7⟩:=oU r' eu
       cases f5
       have hW:Y' (some r')=Y' (some r):=by
        show I7 r'.1=I7 r.1
        rw[e6,f6,dI e1 e3]
       have hS:iF more y (some r')=b.2:=by rw[iF,f7];rfl
       have hS':iF sts x (some r)=b.2:=by rw[iF,e7];rfl
       rw[ec,hS',show frE (some b) (some r)=0 from rfl]at d1
       rw[eu,hW,hS,show frE (some b) (some r')=0 from rfl]at d2
       have hlen:=bH 600 0 (show Xo s a.tick 600 0 (ME a.head 0 s.tenants) sts []=some r from ec)
       have c10:=xk (Y' (some r)) (by have:=AAo r.1;simp only[Y'];simp at hlen;omega) λd hd=>by rw[mO r.1 d hd];simp
       obtain⟨_,_,r3,r4⟩:=hinv b rfl
       have c11:=AEy b.2 FR λe he=>by have:=(r3 e he).1.2.2.1;omega
       refine aS d1 ?_
       simp only[go_sem]
       refine aS d2 ?_
       simp only[go_sem]
       apply pK (FT.weak c9)
       simp only[go_sem,As]
       apply pK hsan
       simp only[go_sem,b0]
       apply pK (FT.weak c10)
       simp only[go_sem]
       apply pK c11
       simp only[go_sem]
end Go.AI
