/- One owner for an edge;the tenant at whose edge a head enters;the owner of what is delivered. -/
import Derived.Test.YtebladleneahcaaGreatDoorMk
set_option linter.unusedSimpArgs false
set_option linter.unusedVariables false
set_option linter.defProp false
set_option maxHeartbeats 4000000
open Go.Proofs.Tryz
open Go.AI renaming Setup->FG,Tenant->FH,Head->FI,Item->FJ,Stage->FL,Entry->FM,Delivery->FN,Arrival->FO,Variable->FP
open Bool renaming and_eq_true->AQ,not_false->Aw,not_true->Av
open Eq renaming trans->AG
open Int renaming lt_irrefl->AX
open List renaming all_eq_true->Am,any_eq_true->Cc,append_assoc->AE,drop_append->ET,drop_of_length_le->Cx,drop_zero->BN,filter_append->Ce,flatMap_append->C3,flatMap_cons->BA,getElem?_concat_length->BX,getElem?_eq_getElem->AL,getElem?_eq_some_iff->AC,getElem?_of_mem->Ae,getElem?_set->Au,getElem?_take->Aj,length_append->AF,length_cons->AD,length_map->Aq,length_nil->AH,length_set->An,length_singleton->Bm,length_take->BD,map_append->Ap,mem_append->Ar,mem_cons->AW,mem_cons_of_mem->B0,mem_cons_self->CR,mem_map->AN,mem_of_getElem?->AB,mem_singleton->Ab,replicate->Ay,take_add_one->BF,take_append->C4,take_length->BI,take_of_length_le->Bf
open Nat renaming le_refl->AU,le_succ->DU,le_trans->AK,lt_of_lt_of_le->BQ,lt_trichotomy->ER,not_lt_zero->ES,pow_le_pow_right->BZ,pow_succ->DN,sub_self->AP,zero_add->AY
open Go.Proofs.Tryz renaming prog->AA
namespace Go.AI
open Go.Proofs
def jM{s:FG}{t:FH}(h1:Jr s t=0): ∀ x∈t.ports,-1<=x.edge/\x.edge<(s.network.edges.length:Int):=by
 have h2:Iq s t=0:=by
  unfold Jr at h1
  split at h1
  ·cases h1
  ·split at h1
   ·rename_i hne;exact absurd h1 hne
   ·rename_i hne;simpa using hne
 have h3:IT (RQ s.network.edges.length) RP t.ports=true:=by
  unfold Iq at h2
  split at h2
  ·cases h2
  split at h2
  ·cases h2
  split at h2
  ·cases h2
  ·rename_i hne;simpa using hne
 have h4 : ∀ (r:List Port) (i:Nat),Ig (RQ s.network.edges.length) RP t.ports i r=true -> ∀ x∈r,-1<=x.edge/\x.edge<(s.network.edges.length:Int):=by
  intro r
  induction r with
  | nil=>intro i _ x hx;cases hx
  | cons y r ih =>
   intro i hi x hx
   simp only [Ig,AQ] at hi
   rcases AW.1 hx with rfl|hx
   ·have:=hi.1.1;simp only [RQ,AQ,decide_eq_true_eq] at this;exact this
   ·exact ih _ hi.2 x hx
 exact h4 t.ports 0 h3
def R19.ckE{s:FG}(h:R19 s){k:Nat}{t:FH}(ht:s.tenants[k]? =some t):Jr s t=0/\(GO t).2=0/\JQ s k t=false:=by
 have h1:=h.ten k t ht
 unfold RV at h1
 split at h1
 ·rename_i hne;exact absurd h1 hne
 rename_i h2
 split at h1
 ·rename_i hne;exact absurd h1 hne
 rename_i h3
 split at h1
 ·cases h1
 split at h1
 ·cases h1
 rename_i h5
 exact ⟨by simpa using h2,by simpa using h3,by simpa using h5⟩
def Vd{e:Int}(he:0<=e): ∀ {l:List Port} {i:Nat} {x:Port},x∈l->x.edge=e->0<=Ib e i l
 | y::l,i,x,hx,hxe=>by
  rw [Ib]
  split
  ·omega
  ·rename_i hn
   rcases AW.1 hx with rfl|hx
   ·exact absurd ⟨he,hxe⟩ hn
   ·exact Vd he hx hxe
def LQ{e:Int}: ∀ {l:List Port} {i:Nat},0<=JH e i l -> ∃ (j:Nat) (x:Port),l[j]? =some x/\x.edge ≠ -1/\x.edge=e/\JH e i l=((i+j:Nat):Int)
 | [],i,h=>by rw [JH] at h;exact absurd h dc
 | y::l,i,h=>by
  rw [JH] at h ⊢
  by_cases hy:y.edge ≠ -1/\y.edge=e
  ·rw [iP hy];exact ⟨0,y,rfl,hy.1,hy.2,rfl⟩
  ·rw [iN hy] at h ⊢
   obtain ⟨j,x,h1,h2,h3,h4⟩:=LQ h
   exact ⟨j+1,x,h1,h2,h3,by rw [h4];congr 1;omega⟩
def S0{s:FG}(hR:R19 s){i j:Nat}{t u:FH}(ht:s.tenants[i]? =some t)(hu:s.tenants[j]? =some u){e:Int}(h1:0<=IA t e)(h2:0<=IA u e):i=j:=by
 have key : ∀ {i j:Nat} {t u:FH},s.tenants[i]? =some t->s.tenants[j]? =some u->0<=IA t e->0<=IA u e->i<j->False:=by
  intro i j t u ht hu h1 h2 hij
  obtain ⟨a,x,x1,x2,x3,_⟩:=LQ h1
  obtain ⟨b,y,y1,y2,y3,_⟩:=LQ h2
  obtain ⟨k1,_,k3⟩:=hR.ckE hu
  have hy:=jM k1 y (AB y1)
  have he:0<=e:=FQ
  have hc:JQ s j u=true:=by
   unfold JQ
   refine Cc.2 ⟨y,AB y1,Cc.2 ⟨t, ?_, ?_⟩⟩
   ·exact AB (i:=i) (by rw [Aj,iP hij];exact ht)
   ·have hpo:0<=IOq t e:=Vd he (AB x1) x3
    rw [y3,decide_eq_true he,decide_eq_true hpo];rfl
  rw [hc] at k3;cases k3
 rcases ER i j with h|h|h
 ·exact (key ht hu h1 h2 h).elim
 ·exact h
 ·exact (key hu ht h2 h1 h).elim
def inE(h:FI):Int:=i64 (h.h0 - 10000)
def Lv{t:FH}{h:FI}:(O1 t h).2=true↔0<=IA t (inE h):=by
 unfold O1 LE inE
 split<;>simp<;>omega
def Wc{h:FI}: ∀ {l:List FH} {k:Nat} {x:FJ},x∈OI h k l -> ∃ (j:Nat) (t:FH),l[j]? =some t/\x.tenant=((k+j:Nat):Int)/\x.chain=[]/\(O1 t h).2=true/\x.head=(O1 t h).1
 | [],k,x,hx=>by rw [OI] at hx;cases hx
 | t::l,k,x,hx=>by
  rw [OI] at hx
  have rec':x∈OI h (k+1) l -> ∃ (j:Nat) (u:FH),(t::l)[j]? =some u/\x.tenant=((k+j:Nat):Int)/\x.chain=[]/\(O1 u h).2=true/\x.head=(O1 u h).1:=λhx=>by
   obtain ⟨j,u,h1,h2,h3,h4,h5⟩:=Wc hx
   exact ⟨j+1,u,h1,by rw [h2];congr 1;omega,h3,h4,h5⟩
  split at hx
  ·rename_i he
   rcases AW.1 hx with rfl|hx
   ·exact ⟨0,t,rfl,rfl,rfl,he,rfl⟩
   ·exact rec' hx
  ·exact rec' hx
def iy(h:FI):Nat->List FH->Int
 | _,[] => -1
 | k,t::r=>if (O1 t h).2=true then (k:Int) else iy h (k+1) r
def NA{h:FI}: ∀ {l:List FH} {k:Nat},(iy h k l = -1/\OI h k l=[] /\ ∀ t∈l,(O1 t h).2=false) \/ ∃ (j:Nat) (t:FH),l[j]? =some t/\iy h k l=((k+j:Nat):Int)/\(O1 t h).2=true
 | [],k => .inl ⟨rfl,rfl,sm⟩
 | t::l,k=>by
  rw [iy,OI]
  cases he:(O1 t h).2 with
  | true=>rw [iP rfl];exact .inr ⟨0,t,rfl,rfl,he⟩
  | false =>
   rw [iN dc,iN dc]
   rcases NA (h:=h) (l:=l) (k:=k+1) with ⟨h1,h2,h3⟩|⟨j,u,h1,h2,h3⟩
   ·refine .inl ⟨h1,h2,λu hu=>?_⟩
    rcases AW.1 hu with rfl|hu
    ·exact he
    ·exact h3 u hu
   ·exact .inr ⟨j+1,u,h1,by rw [h2];congr 1;omega,h3⟩
def iz{s:FG}(hR:R19 s){h:FI}{a:Nat}{t:FH}(ha:s.tenants[a]? =some t)(he:(O1 t h).2=true):itP s a (OI h 0 s.tenants):=by
 intro x hx
 obtain ⟨j,u,h1,h2,h3,h4,_⟩:=Wc hx
 rw [AY] at h2
 have:j=a:=S0 hR h1 ha (Lv.1 h4) (Lv.1 he)
 subst this
 have hl:=(AC.1 h1).1
 refine ⟨FQ,FQ, ?_⟩
 rw [h2,h3,Int.toNat_natCast]
 rfl
def xu{s:FG}{t:FH}(h1:Jr s t=0):Z1 t/\QJ s.fields t.program=0/\t.ports.length<=64:=by
 unfold Jr at h1
 split at h1
 ·cases h1
 ·rename_i hlim
  split at h1
  ·rename_i hne;exact absurd h1 hne
  ·rename_i hpo
   split at h1
   ·rename_i hne;exact absurd h1 hne
   ·rename_i hpr
    have hpo:Iq s t=0:=by simpa using hpo
    have hpr:Mb s t=0:=by simpa using hpr
    refine ⟨?_, ?_,FQ⟩
    ·intro w hw
     have hok:IT (Re t) Rc t.wires=true:=by
      unfold Iq at hpo
      split at hpo
      ·cases hpo
      split at hpo
      ·cases hpo
      split at hpo
      ·cases hpo
      split at hpo
      ·cases hpo
      ·rename_i hne;simpa using hne
     obtain ⟨k,hk⟩:=Ae hw
     have:=(mr hok k w hk).1
     unfold Re J5 HX at this
     simp only [AQ,decide_eq_true_eq] at this
     omega
    ·unfold Mb at hpr
     split at hpr
     ·rename_i hne;exact absurd hpr hne
     ·rename_i hne;simpa using hne
def ACX{x:Stp}(h:ZZ x=true):(x.kind=0/\x.key.length=0)\/((1<=x.kind/\x.kind<=6)/\x.key.length<=4/\(x.kind=4->0<=x.n/\x.n<=x.m/\x.m<=65535)/\(x.kind=5->U5 x.field=true)/\(x.kind=6->(1<=x.n/\x.n<=65535)/\1<=x.m/\x.m<=1073741824)):=by
 unfold ZZ at h
 split at h
 ·rename_i he
  left
  unfold dQ at he
  simp only [AQ,beq_iff_eq] at he
  exact ⟨he.1.1,he.1.2.2.2.2.2⟩
 ·split at h
  ·cases h
  ·rename_i hk
   right
   have hkl:x.key.length<=4:=by
    simp only [not_or] at hk
    omega
   split at h
   ·rename_i e;exact ⟨FQ,hkl,FQ,FQ,FQ⟩
   split at h
   ·rename_i e;exact ⟨FQ,hkl,FQ,FQ,FQ⟩
   split at h
   ·rename_i e;exact ⟨FQ,hkl,FQ,FQ,FQ⟩
   split at h
   ·rename_i e
    simp only [AQ,decide_eq_true_eq] at h
    exact ⟨FQ,hkl,λ_=>h.2,FQ,FQ⟩
   split at h
   ·rename_i e
    simp only [AQ] at h
    exact ⟨FQ,hkl,FQ,λ_=>h.1,FQ⟩
   split at h
   ·rename_i e
    simp only [AQ,decide_eq_true_eq] at h
    exact ⟨FQ,hkl,FQ,FQ,λ_=>⟨⟨h.2.1,h.2.2.1⟩,h.2.2.2.1,h.2.2.2.2⟩⟩
   ·cases h
def fg{l:List Fld}{s:Stp}(h:MB l s=0):okStp l s:=by
 have hf:ZZ s=true:=by
  unfold MB at h
  split at h
  ·unfold dR at h
   split at h
   ·assumption
   ·cases h
  ·rename_i hn
   simp only [not_or,ne_eq,Decidable.not_not] at hn
   have:=hn.1
   unfold dR at this
   split at this
   ·assumption
   ·cases this
 have hall:s.kind≠0->(Jz s).all (λy=>(Fc l y).2)=true:=by
  intro h0
  unfold MB at h
  split at h
  ·rename_i hc
   rcases hc with hc|hc
   ·unfold dR at hc
    rw [hf] at hc
    exact absurd rfl hc
   ·exact absurd hc h0
  ·split at h
   ·cases h
   ·rename_i hn;simpa using hn
 have hkey:s.kind≠0 -> ∀ nm∈s.key,(Fc l nm).2=true:=λh0 nm hm=>by
  refine Am.1 (hall h0) nm ?_
  unfold Jz
  split
  ·exact hm
  ·exact List.mem_append_left _ hm
 rcases ACX hf with ⟨h0,hk⟩|⟨hkd,hk,h4,h5,h6⟩
 ·exact ⟨FQ,FQ,hkey,FQ,FQ,FQ,FQ⟩
 ·refine ⟨FQ,FQ,hkey,λhc=>?_,λe=>(h4 e).2.2,λe=>(h6 e).2,λe=>?_⟩
  ·rcases hc with e|e
   ·have:=h4 e;omega
   ·have:=(h6 e).1;omega
  ·refine Am.1 (hall FQ) s.field ?_
   unfold Jz
   have hne:s.field≠⟨#[]⟩:=by
    intro he
    have:=h5 e
    rw [he] at this
    exact absurd this dk
   rw [iN hne]
   exact List.mem_append_right _ (Ab.2 rfl)
def QT{l:List Fld}{p:List FL}: ∀ {r:List FL} {i:Nat},LH l p i r=true -> ∀ (k:Nat) (x:FL),r[k]? =some x -> ∀ y∈p.take (i+k),LL l y.step x.step=false
 | [],i,_,k,x,hx,_,_=>by simp at hx
 | z::r,i,h,k,x,hx,y,hy=>by
  rw [LH,AQ] at h
  match k,hx with
  | 0,hx =>
   have:z=x:=by simpa using hx
   subst this
   have h1:=h.1
   rw [Bool.not_eq_true',List.any_eq_false] at h1
   simpa using h1 y hy
  | k+1,hx =>
   exact QT h.2 k x (by simpa using hx) y (by rw [show i+1+k=i+(k+1) by omega];exact hy)
def Zh{l:List Fld}{s t:Stp}(h:LL l s t=false)(hs:s.kind≠0)(ht:t.kind≠0)(hv:s.var=t.var):s.key.length=t.key.length:=by
 unfold LL at h
 have e1:(s.kind !=0)=true:=by simpa using hs
 have e2:(t.kind !=0)=true:=by simpa using ht
 rw [e1,e2,decide_eq_true hv] at h
 have h3:UY l s t=true:=by simpa using h
 unfold UY at h3
 rw [AQ,AQ] at h3
 have h4:Iw l s.key=Iw l t.key:=by
  have:=h3.2.1
  unfold YG at this
  exact of_decide_eq_true this
 have:=congrArg List.length h4
 unfold Iw at this
 simpa using this
def fj{l:List Fld}{p:List FL}(h:QJ l p=0):okPrg l p/\p.length<=8:=by
 obtain ⟨h1,h2,h3,h4⟩:=rU h
 have hty:LH l p 0 p=true:=by
  unfold QJ at h
  split at h
  ·rename_i hn;exact absurd h hn
  split at h
  ·rename_i hn;exact absurd h hn
  split at h
  ·assumption
  ·cases h
 refine ⟨⟨λs hs=>fg (h3 s hs).2,λs hs=>(TK (h3 s hs).1).2,λs hs t ht k1 k2 hv=>?_⟩,h1⟩
 obtain ⟨i,hi⟩:=Ae hs
 obtain ⟨j,hj⟩:=Ae ht
 rcases ER i j with hij|hij|hij
 ·exact Zh (QT hty j t hj s (AB (i:=i) (by rw [Aj,iP FQ];exact hi))) k1 k2 hv
 ·subst hij
  rw [hi] at hj
  cases hj
  rfl
 ·exact (Zh (QT hty i s hi t (AB (i:=j) (by rw [Aj,iP FQ];exact hj))) k2 k1 hv.symm).symm
def LZ{s:FG}(hR:R19 s){k:Nat}{t:FH}(ht:s.tenants[k]? =some t):okPrg s.fields (GO t).1/\(GO t).1.length<=8/\(GO t).1.map (·.step)=t.program.map (·.step)/\t.ports.length<=64:=by
 obtain ⟨c1,c2,_⟩:=hR.ckE ht
 obtain ⟨w1,w2,w3⟩:=xu c1
 rcases lk w1 w2 with ⟨g1,_,_⟩|⟨_,g2,g3⟩
 ·rw [g1] at c2;cases c2
 ·obtain ⟨o1,o2⟩:=fj g2
  exact ⟨o1,o2,g3,w3⟩
set_option maxRecDepth 50000
structure okSts (s:FG) (sts:List (List FM)):Prop where
 len:sts.length=s.tenants.length
 st : ∀ (k:Nat) (t:FH) (st:List FM),s.tenants[k]? =some t->sts[k]? =some st->(∀ e∈st,fk e /\ ∀ x∈t.program,ZI x.step e)/\st.length<=60
def AAT{h:FI}(hr:FX h=true):FX { h with h9:=0 }=true:=by
 unfold FX at hr ⊢
 simp only [Head.l,List.all_cons,List.all_nil,Bool.and_true,AQ] at hr ⊢
 exact ⟨hr.1,hr.2.1,hr.2.2.1,hr.2.2.2.1,hr.2.2.2.2.1,hr.2.2.2.2.2.1,hr.2.2.2.2.2.2.1,hr.2.2.2.2.2.2.2.1,hr.2.2.2.2.2.2.2.2.1,dc⟩
def xn{t:FH}{h:FI}(hp:t.ports.length<=64)(hr:FX h=true)(he:(O1 t h).2=true):FX (O1 t h).1=true:=by
 have h1:=Lv.1 he
 obtain ⟨j,x,h2,_,_,h3⟩:=LQ h1
 have hj:=(AC.1 h2).1
 have h4:IA t (inE h)=((0+j:Nat):Int):=h3
 unfold O1 LE
 have h5:IA t (i64 (h.h0 - 10000))=((0+j:Nat):Int):=h4
 rw [iN FQ,h5]
 exact AAT (VX hr FQ FQ)
def fh{s:FG}(hR:R19 s)(hf:Hw s=true)(hb:FT s.c<=1048576){sts:List (List FM)}(hs:okSts s sts){h:FI}(hr:FX h=true){tick:Int}(ht:0<=tick/\tick<=1073741824):okRun s sts h tick:=by
 have hbt : ∀ t∈s.tenants,FT t.c<=1048576:=λt hm=>by
  have h1:=Ql (Hj hb) hm
  simpa only [AV.bulk] using h1
 have hnt:s.tenants.length<=8:=by
  unfold Hw at hf
  simp only [AQ,decide_eq_true_eq] at hf
  have:=hf.2.2.1
  omega
 have hprt : ∀ t∈s.tenants,t.ports.length<=64:=λt hm=>by
  obtain ⟨k,hk⟩:=Ae hm
  exact (LZ hR hk).2.2.2
 refine ⟨hb,hR.fld,FQ,ht,hs.len,λk t hk=>⟨(LZ hR hk).1,by have:=(LZ hR hk).2.1;omega⟩,λt hm=>?_,λk t st h1 h2=>?_,λc hc=>hR.pred hc,λc hc=>?_,λc hc=>?_,λt hm=>by have:=hprt t hm;omega,λt hm he=>xn (hprt t hm) hr he⟩
 ·have hbm:=hbt t hm
  refine AFP t (AK (Og (IX hbm)) dc) (AK (Ms (HZ hbm)) dc) λx hx=>Zp ?_ (Og (IX hbm))
  have h1:=KV (HZ hbm) hx
  have h2:FT x.c<=1048576:=by simpa only [AV.bulk] using h1
  exact Hr h2
 ·obtain ⟨g1,g2⟩:=hs.st k t st h1 h2
  refine ⟨λe he=>⟨(g1 e he).1,λx hx=>?_⟩,FQ⟩
  have hmap:=(LZ hR h1).2.2.1
  have:x.step∈t.program.map (·.step):=by rw [<- hmap];exact AN.2 ⟨x,hx,rfl⟩
  obtain ⟨y,hy,hxy⟩:=AN.1 this
  rw [<- hxy]
  exact (g1 e he).2 y hy
 ·have h0:=(Lz (hR.con c hc)).2
  have hl:=Q7 hR hc
  exact ⟨h0,FQ⟩
 ·have h1:=hR.con c hc
  have hl:=Q7 hR hc
  have h0:=(Lz h1).2
  unfold TJ at h1
  split at h1
  ·cases h1
  split at h1
  ·cases h1
  rename_i hn
  have hn:fR (HJ s (GP s c.dst)) c.toPort=true:=by
   cases ho:fR (HJ s (GP s c.dst)) c.toPort with
   | true=>rfl
   | false=>exact absurd (.inr (.inr ho)) hn
  unfold fR at hn
  simp only [AQ,decide_eq_true_eq] at hn
  obtain ⟨u,hu⟩ : ∃ u,s.tenants[(GP s c.dst).toNat]? =some u:=⟨_,AL hl⟩
  have ht2:HJ s (GP s c.dst)=u:=by unfold HJ;rw [hu];rfl
  rw [ht2] at hn
  have:=hprt u (AB hu)
  omega
def Zm{s:FG}{sts:List (List FM)}{h:FI}{tick:Int}(he:OI h 0 s.tenants=[]):NC s sts h tick=some ([],sts):=by
 unfold NC
 rw [he]
 rfl
def Zl{s:FG}(hR:R19 s){sts:List (List FM)}{h:FI}{tick:Int}{a:Nat}{t:FH}(ha:s.tenants[a]? =some t)(he:(O1 t h).2=true){r:List FN×List (List FM)}(hr:NC s sts h tick=some r):
  dlP s a r.1/\r.2.length=sts.length /\ ∀ k,(∀ c,¬ Qb s a c k)->r.2[k]? =sts[k]? :=
 ri hR 600 0 (iz hR ha he) (λd hd=>by cases hd) hr
def YL(a:FO):Bool:=FX a.head&&(a.head.h9==0&&(decide (0<=a.tick)&&decide (a.tick<=1073741824)))
def yO(a:FO):A' AA 13 [.agg a.c] (.bool (YL a)):=by
 have c1:=yI a.head
 refine pC AZd rfl ?_
 simp only [f13,go_sem]
 repeat' (first|(refine pK (c1) ?_;simp only [go_sem])|(first|apply cS|apply gS)<;>intro hc<;>simp only [go_sem,hc])
 all_goals first
  | rfl
  | (simp only [YL];rfl)
  | grind [YL]
  | (simp only [YL];grind)
  | (simp [YL, *];done)
  | (simp_all [YL];done)
  | skip
def Zk(s:FG)(hn:s.tenants.length<=1073741824)(hp : ∀ t∈s.tenants,t.ports.length<=1073741824)(h:FI):A' AA 6 [.agg s.c,.agg h.c] (.int .i64 (iy h 0 s.tenants)):=by
 refine pC Ad5 rfl ?_
 simp only [f6,go_sem]
 have gN : ∀ a b (L:FR) z,(a::b::(L++[z]))[List.length (a::b::L)]? =some z:=λa b L z=>by
  have:a::b::(L++[z])=(a::b::L)++[z]:=sm
  rw [this];exact BX
 have sN : ∀ a b (L:FR) z z2,(a::b::(L++[z])).set (List.length (a::b::L)) z2=a::b::(L++[z2]):=λa b L z z2=>by
  have:a::b::(L++[z])=(a::b::L)++[z]:=sm
  rw [this];simp
 refine Fq s.tenants (λ(_:FR) (r:List FH)=>iy h (s.tenants.length - r.length) r) (λ_ _=>True) (λk _=>[(3,.ptr 1 0),(10,.sl none (HW s.tenants)),(11,.int .i64 s.tenants.length),(12,.int .i64 k)])
  (λ_ L=>some s.c::some h.c::L) [] FQ trivial rfl rfl ?_ ?_
 ·intro k L t ts hd hx _ hF h0 h1 hw
  have c1:=re t (hp t (AB hx)) h
  have eT:LE (IA t (i64 (h.h0 - 10000))) h=O1 t h:=rfl
  rw [eT] at c1
  have hk2:=Fo hd
  have e1:s.tenants.length - (ts.length+1)=k:=FQ
  have e2:s.tenants.length - ts.length=k+1:=FQ
  simp only [AD,e1] at hF ⊢
  simp only [go_sem,h0,h1,GV hx]
  refine pK c1 ?_
  cases he:(O1 t h).2 with
  | true =>
   simp only [go_sem]
   rw [AP] at hF
   rw [hF,iy,iP he]
  | false =>
   simp only [go_sem,hw]
   exact ⟨_,by rw [e1,e2,iy,iN (by rw [he];decide)],rfl,rfl⟩
 ·intro L _ hF
  simp only [go_sem,AX,dF]
  rw [AP] at hF
  rw [hF];rfl
def Ze(x:Int):Py x x=0:=by unfold Py;simp
def Zf : ∀ l:List Int,OK l l=0
 | []=>rfl
 | x::l=>by rw [OK,Ze,iN dc];exact Zf l
def ADG(a b:List Int)(ha:a.length<=1073741824):A' AA 50 [.sl none (GC a),.sl none (GC b)] (.int .i64 (OK a b)):=by
 have ea:(GC a).length=a.length:=HK a
 have eb:(GC b).length=b.length:=HK b
 refine pC AYg rfl ?_
 simp only [f50,go_sem]
 refine Fq a (λ(_:Unit) r=>OK r (b.drop (a.length - r.length))) (λk _=>k<=b.length) (λk _=>[(0,.sl none (GC a)),(1,.sl none (GC b)),(5,.int .i64 k)]) (λ_ _=>[]) () FQ (Nat.zero_le _) rfl rfl ?_ ?_
 ·intro k _ x xs hd hx hI hF h0 h1 hw
  have hk:=Fo hd
  have e1:a.length - (xs.length+1)=k:=FQ
  have e2:a.length - xs.length=k+1:=FQ
  simp only [AD,e1,AP,BN] at hF ⊢
  by_cases hkb:k<b.length
  ·obtain ⟨y,hy⟩ : ∃ y,b[k]? =some y:=⟨_,AL hkb⟩
   have hnb:(k:Int)<(b.length:Int):=FQ
   rw [U6 hy,OK] at hF
   simp only [go_sem,h0,h1,Gk hx,Gk hy,ea,eb,hnb,dT]
   repeat' (first|(first|apply cS|apply gS)<;>intro hc<;>simp only [go_sem,hc,h0,Gk hx,Gk hy,hw])
   ·have hc:=of_decide_eq_true hc
    have e3:Py x y = -1:=by unfold Py;rw [iP hc]
    rw [e3,iP dc] at hF
    rw [hF]
   ·rename_i hc1
    have hc1:=of_decide_eq_false hc1
    have hc2:=of_decide_eq_true hc
    have e3:Py x y=1:=by unfold Py;rw [iN hc1];first|rw [iP hc2]|rw [iN FQ]
    rw [e3,iP dc] at hF
    rw [hF]
   ·rename_i hc1
    have hc1:=of_decide_eq_false hc1
    have hc2:=of_decide_eq_false hc
    have:x=y:=FQ
    subst this
    rw [e1,e2,U6 hy,OK,Ze,iN dc]
    exact ⟨(),rfl,FQ⟩
  ·have hnb : ¬ (k:Int)<(b.length:Int):=FQ
   rw [List.drop_eq_nil_of_le FQ,OK] at hF
   have l1 : ¬ (a.length:Int)<(b.length:Int):=FQ
   have l2:(b.length:Int)<(a.length:Int):=FQ
   simp only [go_sem,h1,ea,eb,hnb,dF,l1,l2,dT]
   rw [hF]
 ·intro _ hI hF
  rw [AP,BN,AH,Nat.sub_zero] at hF
  simp only [go_sem,AX,dF,ea,eb]
  cases hr:b.drop a.length with
  | nil =>
   have hlen:b.length<=a.length:=by simpa using hr
   rw [hr,OK] at hF
   have l1 : ¬ (a.length:Int)<(b.length:Int):=FQ
   have l2 : ¬ (b.length:Int)<(a.length:Int):=FQ
   simp only [go_sem,l1,l2,dF,ea,eb]
   rw [hF]
  | cons y ys =>
   have hlen:a.length<b.length:=by have:=Fo hr;omega
   have l1:(a.length:Int)<(b.length:Int):=FQ
   rw [hr,OK] at hF
   simp only [go_sem,l1,dT]
   rw [hF]
def ADE(l:List FM)(hl:l.length<=1073741824)(hk : ∀ e∈l,e.key.length<=1073741824)(hK : ∀ a:List Int,a.length<=1073741824->A' AA 50 [.sl none (GC a),.sl none (GC a)] (.int .i64 0)):A' AA 27 [.sl none (Fe l),.sl none (Fe l)] (.bool true):=by
 have el:(Fe l).length=l.length:=IP l
 have n0:((l.length:Int) !=(l.length:Int))=false:=sm
 refine pC AZN rfl ?_
 simp only [f27,go_sem,el,n0]
 refine Fq l (λ(_:Unit) _=>()) (λ_ _=>True) (λk _=>[(0,.sl none (Fe l)),(1,.sl none (Fe l)),(5,.int .i64 k)]) (λ_ _=>[]) () FQ trivial rfl rfl ?_ ?_
 ·intro k _ x xs hd hx _ _ h0 h1 hw
  have c1:=hK x.key (hk x (AB hx))
  have v0:(x.var.toList==x.var.toList)=true:=sm
  have v1:(x.n !=x.n)=false:=sm
  have v2:(x.at_ !=x.at_)=false:=sm
  simp only [go_sem,h0,h1,Gn hx,el,v0,v1,v2,Av]
  refine pK c1 ?_
  have z0:((0:Int) !=0)=false:=rfl
  simp only [go_sem,z0,hw]
  exact ⟨(),trivial⟩
 ·intro _ _ _
  simp only [go_sem,AX,dF,el]
def yN(l:List FM)(hl:l.length<=1073741824)(hk : ∀ e∈l,e.key.length<=1073741824):A' AA 27 [.sl none (Fe l),.sl none (Fe l)] (.bool true) :=
 ADE l hl hk λa ha=>by
  have:=ADG a a ha
  rwa [Zf] at this
def TN(l:List (List FM))(hl:l.length<=1073741824)(hk : ∀ x∈l,x.length<=1073741824 /\ ∀ e∈x,e.key.length<=1073741824):A' AA 10 [.sl none (HE l),.sl none (HE l)] (.bool true):=by
 have el:(HE l).length=l.length:=Rr l
 have n0:((l.length:Int) !=(l.length:Int))=false:=sm
 refine pC AZk rfl ?_
 simp only [f10,go_sem,el,n0]
 refine Fq l (λ(_:Unit) _=>()) (λ_ _=>True) (λk _=>[(0,.sl none (HE l)),(1,.sl none (HE l)),(5,.int .i64 k)]) (λ_ _=>[]) () FQ trivial rfl rfl ?_ ?_
 ·intro k _ x xs hd hx _ _ h0 h1 hw
  have hx2:=hk x (AB hx)
  have c1:=yN x hx2.1 hx2.2
  simp only [go_sem,h0,h1,Rs hx,el]
  refine pK c1 ?_
  simp only [go_sem,hw,Av]
  exact ⟨(),trivial⟩
 ·intro _ _ _
  simp only [go_sem,AX,dF,el]
def AGY(a b:FM)(ha:a.key.length<=1073741824):A' AA 116 [.agg a.c,.agg b.c] (.int .i64 (Wk a b)):=by
 have c1:=ADG a.key b.key ha
 refine pC ARO rfl ?_
 simp only [f116,go_sem]
 repeat' (first|(refine pK (c1) ?_;simp only [go_sem])|(first|apply cS|apply gS)<;>intro hc<;>simp only [go_sem,hc,FU])
 ·have h1:Tr a.var b.var=true:=hc
  simp [Wk,oL,h1]
 ·rename_i hc1
  have h1:Tr a.var b.var=false:=hc1
  have h2 : ¬ a.var=b.var:=by simpa using hc
  simp [Wk,oL,h1,h2]
 ·rename_i hc1
  have h1:Tr a.var b.var=false:=hc1
  have h2:a.var=b.var:=by simpa using hc
  simp [Wk,oL,h2,q8]
def OD(l:List FP):List AV:=l.map λx => .agg x.c
@[go_sem] def gO(l:List FP):(OD l).length=l.length:=by simp [OD]
def gP{l:List FP}{i:Nat}{x:FP}(h:l[i]? =some x):(OD l)[i]? =some (.agg x.c):=by simp [OD,h]
@[go_sem] def AU2(a:List FP)(x:FP):OD a++[.agg x.c]=OD (a++[x]):=by simp [OD]
@[go_sem] def th(l:List FP):FV (OD l)=true:=by
 induction l with
 | nil=>rfl
 | cons x xs ih=>simpa [OD,FV,AV.pure] using ⟨Ud x,ih⟩
def o8(l:List FP)(hl:l.length<=1073741824)(v:ByteArray):A' AA 114 [.sl none (OD l),.str v] (.int .i64 (H7 (λx:FP=>decide (x.name=v)) l)):=by
 have el:(OD l).length=l.length:=gO l
 refine pC ARU rfl ?_
 simp only [f114,go_sem]
 refine Fd l (λr=>HL (λx:FP=>decide (x.name=v)) (l.length - r.length) r) (λk=>[(0,.sl none (OD l)),(1,.str v),(5,.int .i64 k)]) FQ rfl ?_ ?_
 ·intro k x xs hd hx hF h0 h1 hw
  have hk2:=Fo hd
  have e1:l.length - (xs.length+1)=k:=FQ
  have e2:l.length - xs.length=k+1:=FQ
  simp only [AD,e1,AP] at hF
  simp only [go_sem,h0,h1,gP hx,el,FU]
  repeat' (first|(first|apply cS|apply gS)<;>intro hc<;>simp only [go_sem,hc,hw,e1,e2])
  ·rw [H7,hF,HL,iP hc]
  ·rw [HL,iN (by rw [hc];decide)]
 ·intro hF hlt
  simp only [go_sem,hlt,dF,el]
  rw [AP] at hF
  rw [H7,hF];rfl
def AGU(l:List FM)(hl:l.length<=1073741824)(v:ByteArray):A' AA 117 [.sl none (Fe l),.str v] (.int .i64 (Xx l v).length):=by
 have el:(Fe l).length=l.length:=IP l
 refine pC ARL rfl ?_
 simp only [f117,go_sem]
 refine Fq l (λ(_:Unit) _=>()) (λ_ _=>True) (λk _=>[(0,.sl none (Fe l)),(1,.str v),(5,.int .i64 (Xx (l.take k) v).length),(6,.int .i64 k)]) (λ_ _=>[]) () FQ trivial rfl rfl ?_ ?_
 ·intro k _ x xs hd hx _ _ h0 h1 hw
  have hkl:=(AC.1 hx).1
  have hle:(Xx (l.take k) v).length<=k:=AK (List.length_filter_le _ _) (by rw [BD];omega)
  have hw2:IntKind.i64.wrap (((Xx (l.take k) v).length:Int)+1)=(((Xx (l.take k) v).length+1:Nat):Int):=Mj FQ
  have htk:l.take (k+1)=l.take k++[x]:=by rw [BF,hx];rfl
  simp only [go_sem,h0,h1,Gn hx,el,FU]
  repeat' (first|(first|apply cS|apply gS)<;>intro hc<;>simp only [go_sem,hc,hw,hw2])
  ·have hv:x.var=v:=of_decide_eq_true hc
   have:Xx (l.take (k+1)) v=Xx (l.take k) v++[x]:=by rw [htk];unfold Xx;rw [Ce];simp [hv]
   rw [this]
   exact ⟨(),by first|rw [AF];rfl|rfl,rfl⟩
  ·have hv : ¬ x.var=v:=of_decide_eq_false hc
   have:Xx (l.take (k+1)) v=Xx (l.take k) v:=by rw [htk];unfold Xx;rw [Ce];simp [hv]
   rw [this]
   exact ⟨(),by first|rw [AF];rfl|rfl,rfl⟩
 ·intro _ _ _
  simp only [go_sem,AX,dF,el,BI]
def yL(n:Int)(hn:n<9223372036854775807):A' AA 172 [.int .i64 n] (.int .i64 (Xl n.toNat)):=by
 refine pC APF rfl ?_
 simp only [f172,go_sem]
 refine be n.toNat (λk=>[(0,.int .i64 n),(3,.int .i64 (Xl k)),(4,.int .i64 k)]) (λ_=>[]) rfl rfl ?_
 intro k hk
 by_cases h:(k:Int)<n
 ·have hw:=Mj (k:=k) FQ
  simp only [go_sem,h,dT,hw]
  exact ⟨FQ,rfl,rfl⟩
 ·have:k=n.toNat:=FQ
  subst this
  simp only [go_sem,h,dF]
def nz(v:FP)(e:FM):Prop:=e.key.length=v.widths.length/\(0<=e.n/\e.n<=65535)/\(0<=e.at_/\e.at_<=1073741824) /\ ∀ x∈e.key,0<=x
def AId(v:FP)(hw : ∀ w∈v.widths,w<9223372036854775807)(e:FM)(hk:e.key.length<=1073741824)(l:List FM)(hl:l.length<=1073741824):Jo AA 115 [.agg v.c,.agg e.c,.sl none (Fe l)] λr => ∃ b,r = .bool b/\(b=true->nz v e):=by
 have el:(Fe l).length=l.length:=IP l
 have ek:(GC e.key).length=e.key.length:=HK _
 have ew:(GC v.widths).length=v.widths.length:=HK _
 refine qC ARR rfl ?_
 by_cases hb:e.key.length=v.widths.length/\(0<=e.n/\e.n<=65535)/\(0<=e.at_/\e.at_<=1073741824)
 ·obtain ⟨b0,⟨b1,b2⟩,b3,b4⟩:=hb
  have n0:((e.key.length:Int) !=(v.widths.length:Int))=false:=by simp [b0]
  have n1 : ¬ e.n<0:=FQ
  have n2 : ¬ 65535<e.n:=FQ
  have n3 : ¬ e.at_<0:=FQ
  have n4 : ¬ 1073741824<e.at_:=FQ
  simp only [f115,go_sem,ek,ew,n0,n1,n2,n3,n4,dF]
  refine Fq e.key (λ(_:Unit) _=>()) (λk _ => ∀ x∈e.key.take k,0<=x) (λk _=>[(2,.sl none (Fe l)),(3,.ptr 0 0),(4,.ptr 1 0),(7,.int .i64 k)]) (λ_ _=>[some v.c,some e.c]) () FQ sm rfl rfl ?_ ?_
  ·intro k _ x xs hd hx hI _ h0 h1 hw1
   obtain ⟨w,hwx⟩ : ∃ w,v.widths[k]? =some w:=⟨_,AL (by have:=(AC.1 hx).1;omega)⟩
   have hkw:(k:Int)<(v.widths.length:Int):=FQ
   have c1:=yL w (hw w (AB hwx))
   have htk:e.key.take (k+1)=e.key.take k++[x]:=by rw [BF,hx];rfl
   simp only [go_sem,h0,h1,ek,Gk hx]
   repeat' (first|(refine pK (c1) ?_;simp only [go_sem])|(first|apply cS|apply gS)<;>intro hc<;>simp only [go_sem,hc,h0,hw1,Gk hx,Gk hwx])
   all_goals first|exact ⟨rfl,false,rfl,sm⟩|skip
   ·rename_i hc1
    refine ⟨(),λy hy=>?_⟩
    rw [htk] at hy
    rcases Ar.1 hy with hy|hy
    ·exact hI y hy
    ·rcases Ab.1 hy with rfl
     have:=of_decide_eq_false hc1
     omega
  ·intro _ hI _
   have hq:nz v e:=⟨b0,⟨b1,b2⟩,⟨b3,b4⟩,by rw [BI] at hI;exact hI⟩
   simp only [go_sem,AX,dF,ek]
   repeat' (first|(first|apply cS|apply gS)<;>intro hc<;>simp only [go_sem,hc])
   all_goals first|exact ⟨rfl,_,rfl,λ_=>hq⟩|skip
   refine Fq l (λ(_:Unit) _=>()) (λ_ _=>True) (λk _=>[(2,.sl none (Fe l)),(3,.ptr 0 0),(4,.ptr 1 0),(8,.int .i64 k)]) (λ_ _=>[some v.c,some e.c]) () FQ trivial rfl rfl ?_ ?_
   ·intro k _ x xs hd hx _ _ h0 h1 hw1
    simp only [go_sem,h0,h1,el,Gn hx]
    repeat' (first|(first|apply cS|apply gS)<;>intro hc<;>simp only [go_sem,hc,h0,hw1,Gn hx])
    all_goals first|exact ⟨rfl,_,rfl,λ_=>hq⟩|exact ⟨(),trivial⟩|skip
   ·intro _ _ _
    simp only [go_sem,AX,dF,el]
    repeat' (first|(first|apply cS|apply gS)<;>intro hc<;>simp only [go_sem,hc])
    all_goals first|exact ⟨rfl,_,rfl,λ_=>hq⟩|skip
 ·simp only [f115,go_sem,ek,ew]
  repeat' (first|(first|apply cS|apply gS)<;>intro hc<;>simp only [go_sem,hc])
  all_goals first|exact ⟨rfl,false,rfl,sm⟩|skip
  rename_i g1 g2 g3 g4
  have g1:(e.key.length:Int)=(v.widths.length:Int):=by simpa using g1
  have g2:=of_decide_eq_false g2
  have g3:=of_decide_eq_false g3
  have g4:=of_decide_eq_false g4
  have g5:=of_decide_eq_false hc
  exact absurd ⟨FQ,⟨FQ,FQ⟩,FQ,FQ⟩ hb
def Aci(l:List FM):Prop:=∀ (k:Nat) (y x:FM),l[k]? =some y->l[k+1]? =some x->Wk y x<0
def iT:Hint:={ h60 with pc:=[20,49,60] }
@[go_sem] def AdC(k:Nat):iT.lv k=h60.lv k/\iT.ct k=h60.ct k/\iT.at k=h60.at k/\iT.dn k=h60.dn k:=⟨AG rfl rfl,AG rfl rfl,AG rfl rfl,AG rfl rfl⟩
@[go_sem] def Adu:iT.tk=[]/\iT.mt=[]/\iT.pc=[20,49,60]:=⟨rfl,rfl,rfl⟩
def AJI:FK AA 60 f60 iT:=⟨kr,kr,func60,kr⟩
def sh(vs:List FP)(hv:vs.length<=1073741824)(hw : ∀ v∈vs,∀ w∈v.widths,w<9223372036854775807)(l:List FM)(hl:l.length<=1073741824)(hk : ∀ e∈l,e.key.length<=1073741824):Jo AA 60 [.sl none (OD vs),.sl none (Fe l)] λr => ∃ n,r = .int .i64 n/\(n=0->(∀ e∈l,∃ v∈vs,v.name=e.var/\nz v e)/\Aci l):=by
 have el:(Fe l).length=l.length:=IP l
 have ev:(OD vs).length=vs.length:=gO vs
 refine qC AJI rfl ?_
 simp only [f60,go_sem]
 refine Fq l (λ(_:Unit) _=>()) (λk _=>(∀ e∈l.take k,∃ v∈vs,v.name=e.var/\nz v e) /\ ∀ (i:Nat) (y z:FM),i+1<k->l[i]? =some y->l[i+1]? =some z->Wk y z<0) (λk _=>[(0,.sl none (OD vs)),(1,.sl none (Fe l)),(5,.int .i64 k)]) (λ_ _=>[]) () FQ ⟨sm,λi y z hi=>FQ⟩ rfl rfl ?_ ?_
 ·rintro k _ x xs hd hx ⟨hI,hJ⟩ _ h0 h1 hw1
  have hkx:=hk x (AB hx)
  have c1:=o8 vs hv x.var
  have htk:l.take (k+1)=l.take k++[x]:=by rw [BF,hx];rfl
  have hkl:=(AC.1 hx).1
  have hkle:(k:Int)<=(l.length:Int):=FQ
  have htl:(l.take k).length<=1073741824:=by rw [BD];omega
  have c3:=AGU (l.take k) htl x.var
  have htl2:(Fe (l.take k)).length=k:=by rw [IP,BD];omega
  simp only [go_sem,h0,h1,el,Gn hx]
  refine pK c1 ?_
  rcases Ls (λv:FP=>decide (v.name=x.var)) vs 0 with ⟨w1,w2⟩|⟨i,v,w1,w2,w3⟩
  ·have e1:H7 (λv:FP=>decide (v.name=x.var)) vs = -1:=w1
   rw [e1]
   have z1:(-1:Int)<0:=dc
   simp only [go_sem,z1,dT]
   exact ⟨rfl,4,rfl,λh=>absurd h dc⟩
  ·have e1:H7 (λv:FP=>decide (v.name=x.var)) vs=(i:Int):=by rw [H7,w1,AY]
   have hvm:=AB w2
   have hvn:v.name=x.var:=by have:=List.find?_some w3;simpa using this
   have hiv:(i:Int)<(vs.length:Int):=by have:=(AC.1 w2).1;omega
   have i0:(0:Int)<=(i:Int):=FQ
   have i1 : ¬ (i:Int)<0:=FQ
   have q1:=AId v (hw v hvm) x hkx (l.take k) htl
   rw [e1]
   have hkne : ¬ ((k:Int)=(l.length:Int)):=FQ
   have hnx:nz v x->(∀ y,0<k->l[k - 1]? =some y->Wk y x<0)->(∀ e∈l.take (k+1),∃ v∈vs,v.name=e.var/\nz v e) /\ ∀ (i:Nat) (y z:FM),i+1<k+1->l[i]? =some y->l[i+1]? =some z->Wk y z<0:=λhf hq=>⟨λe he=>by
    rw [htk] at he
    rcases Ar.1 he with he|he
    ·exact hI e he
    ·rcases Ab.1 he with rfl
     exact ⟨v,hvm,hvn,hf⟩,λi y z hi hy hz=>by
    by_cases hik:i+1<k
    ·exact hJ i y z hik hy hz
    ·have hik:i+1=k:=FQ
     rw [hik,hx] at hz
     cases hz
     exact hq y FQ (by rw [<- hik];exact hy)⟩
   simp only [go_sem,i0,i1,dF,gP w2,h0,el,hkle,hkne,Gn hx]
   refine Jp q1 λr hr=>?_
   obtain ⟨b,rfl,hb⟩:=hr
   cases b with
   | false =>
    simp only [go_sem,Aw]
    exact ⟨rfl,1,rfl,λh=>absurd h dc⟩
   | true =>
    have hnx:=hnx (hb rfl)
    rcases Nat.eq_zero_or_pos k with hz|hz
    ·have hnx:=hnx λy hk0=>FQ
     have g0 : ¬ (0:Int)<(k:Int):=FQ
     simp only [go_sem,Av,g0,dF,h0,el,hkle,hkne,Gn hx]
     repeat' (first|(refine pK (c3) ?_;simp only [go_sem])|(first|apply cS|apply gS)<;>intro hc<;>simp only [go_sem,hc,hw1])
     all_goals first|exact ⟨rfl,2,rfl,λh=>absurd h dc⟩|exact ⟨(),hnx,rfl,rfl⟩|exact ⟨(),hnx⟩
    ·have g0:(0:Int)<(k:Int):=FQ
     obtain ⟨y,hy⟩ : ∃ y,l[k - 1]? =some y:=⟨_,AL FQ⟩
     have c2:=AGY y x (hk y (AB hy))
     have hwk:IntKind.i64.wrap ((k:Int) - 1)=((k - 1:Nat):Int):=by rw [OQ FQ FQ];omega
     have g1:(0:Int)<=((k - 1:Nat):Int):=FQ
     have g2:((k - 1:Nat):Int)<(l.length:Int):=FQ
     simp only [go_sem,Av,g0,g1,hwk,dT,h0,Gn hx,Gn hy]
     repeat' (first|((first|refine pK (c2) ?_|refine pK (c3) ?_);simp only [go_sem])|(first|apply cS|apply gS)<;>intro hc<;>simp only [go_sem,hc,h0,hw1,el,hkle,hkne,Gn hx])
     all_goals first|exact ⟨rfl,10,rfl,λh=>absurd h dc⟩|exact ⟨rfl,2,rfl,λh=>absurd h dc⟩|exact ⟨(),hnx (λy2 _ hy2=>by rw [hy] at hy2;cases hy2;simp only [decide_eq_false_iff_not] at *;omega),rfl,rfl⟩|exact ⟨(),hnx (λy2 _ hy2=>by rw [hy] at hy2;cases hy2;simp only [decide_eq_false_iff_not] at *;omega)⟩
 ·rintro _ ⟨hI,hJ⟩ _
  simp only [go_sem,AX,dF,el]
  rw [BI] at hI
  exact ⟨rfl,0,rfl,λ_=>⟨hI,λi y z hy hz=>hJ i y z (AC.1 hz).1 hy hz⟩⟩
def geB(a b:ByteArray):Bool:=!Tr a b
def Jx(n:ByteArray):Bool->List ByteArray->List ByteArray
 | d,[]=>if d then [] else [n]
 | d,x::r=>(if geB x n=true/\d=false then [n] else [])++((if x≠n then [x] else [])++Jx n (d||geB x n) r)
def Sq(l:List ByteArray)(n:ByteArray):List ByteArray:=Jx n false l
def ATy(l:List ByteArray)(n:ByteArray)(hl:l.length<=1073741824):A' AA 118 [.sl none (HA l),.str n] (.sl none (HA (Sq l n))):=by
 have el:(HA l).length=l.length:=Lp l
 refine pB ARI rfl ?_
 simp only [f118,go_sem]
 refine Fq l (λ(s:List ByteArray×Bool) r=>s.1++Jx n s.2 r) (λk s=>s.1.length<=2*k) (λk s=>[(0,.sl none (HA l)),(1,.str n),(5,.sl (some 1) (HA s.1)),(6,.bool s.2),(7,.int .i64 k)]) (λk o=>[]) ([],false) FQ sm rfl rfl ?_ ?_
 ·rintro k ⟨o,d⟩ y ys hd hx hI hF h0 h1 hw
  dsimp only at hI hF ⊢
  have hk2:=Fo hd
  obtain ⟨g1,g2,g3,g4,g5⟩:(o.length+1)*16<=140737488355328/\o.length<=9223372036854775806/\(o.length+1+1)*16<=140737488355328/\o.length+1<=9223372036854775806/\o.length<=9223372036854775805:=by
   have hm:o.length<=2147483648:=AK hI FQ
   generalize o.length=m at hm
   omega
  simp only [go_sem,h0,h1,Gj hx,el]
  repeat' (first|(first|apply cS|apply gS)<;>intro hc<;>simp only [go_sem,hc,h0,hw,Gj hx,FU,AF,Bm,g1,g2,g3,g5])
  all_goals first
   | exact ⟨(o++[n,y],true),by grind [Jx,geB,Tr],by simp;omega,rfl,rfl⟩
   | exact ⟨(o++[n],true),by grind [Jx,geB,Tr],by simp;omega,rfl,rfl⟩
   | exact ⟨(o++[y],d),by grind [Jx,geB,Tr],by simp;omega,rfl,rfl⟩
   | exact ⟨(o,d),by grind [Jx,geB,Tr],by simp;omega,rfl,rfl⟩
   | skip
 ·rintro ⟨o,d⟩ hI hF
  dsimp only at hI hF ⊢
  obtain ⟨g1,g2⟩:(o.length+1)*16<=140737488355328/\o.length<=9223372036854775806:=by
   have hm:o.length<=2147483648:=AK hI FQ
   generalize o.length=m at hm
   omega
  simp only [go_sem,AX,dF,el]
  repeat' (first|(first|apply cS|apply gS)<;>intro hc<;>simp only [go_sem,hc,g1,g2])
  all_goals first
   | rfl
   | (simp only [Sq];rfl)
   | grind [Sq,Jx]
   | (simp only [Sq,Jx];grind)
   | (simp [Sq,Jx, *];done)
   | (simp_all [Sq,Jx];done)
   | skip
def MS(o:List ByteArray):List FL->List ByteArray
 | []=>o
 | x::r=>MS (if x.step.kind=0 then o else Sq o x.step.var) r
def QZ(n:ByteArray): ∀ (l:List ByteArray) (d:Bool),(Jx n d l).length<=2*l.length+1
 | [],d=>by cases d<;>simp [Jx]
 | x::l,d=>by
  rw [Jx,AF,AF,AD]
  have:=QZ n l (d||geB x n)
  split<;>split<;>simp<;>omega
def iI:Hint:={ h61 with tk:=[89,93] }
@[go_sem] def Ac1(k:Nat):iI.lv k=h61.lv k/\iI.ct k=h61.ct k/\iI.at k=h61.at k/\iI.dn k=h61.dn k:=⟨AG rfl rfl,AG rfl rfl,AG rfl rfl,AG rfl rfl⟩
@[go_sem] def Ada:iI.tk=[89,93]/\iI.mt=[]/\iI.pc=[33,70,75,78]:=⟨rfl,rfl,rfl⟩
def AI8:FK AA 61 f61 iI:=⟨kr,kr,func61,kr⟩
def vW(l:List Fld)(nm:ByteArray)(a:FP×Bool)(s:Stp):FP×Bool :=
 if s.kind=0\/s.var≠nm then a
 else if Lm s=true/\a.2=false then ({ a.1 with family:=LT s.kind,widths:=Iw l s.key,n:=s.n,m:=s.m },true)
 else ({ a.1 with family:=LT s.kind,widths:=Iw l s.key },a.2)
def zQ(l:List Fld)(nm:ByteArray)(a:FP×Bool):List FL->FP×Bool
 | []=>a
 | x::r=>zQ l nm (vW l nm a x.step) r
def VH(l:List Fld)(p:List FL)(nm:ByteArray):FP:=(zQ l nm (⟨nm,0,[],0,0⟩,false) p).1
def NN(l:List Fld)(p:List FL):List FP:=(MS [] p).map (VH l p)
def ADD(l:List Fld)(p:List FL)(hp:p.length<=8)(hk : ∀ x∈p,x.step.key.length<=1048576):A' AA 61 [.sl none (GN l),.sl none (F9 p)] (.sl none (OD (NN l p))):=by
 have el:(F9 p).length=p.length:=Nd p
 refine pB AI8 rfl ?_ (hv:=by simp [AV.pure,th])
 simp only [f61,go_sem]
 refine Fq p (λ(s:Option Nat×List ByteArray) r=>MS s.2 r) (λk s=>s.2.length<4^k) (λk s=>[(0,.sl none (GN l)),(1,.sl none (F9 p)),(5,.sl s.1 (HA s.2)),(6,.int .i64 k)]) (λ_ _=>[]) (some 1,[]) FQ dc rfl rfl ?_ ?_
 ·rintro k ⟨w,o⟩ x xs hd hx hI hF h0 h1 hw
  dsimp only at hI hF ⊢
  have hkl:=(AC.1 hx).1
  have h48:(4:Nat)^k<=4^8:=BZ dc FQ
  have hol:o.length<65536:=BQ hI h48
  have c1:=ATy o x.step.var FQ
  have hl2:(Sq o x.step.var).length<4^(k+1):=by
   have:=QZ x.step.var o false
   have h4:(4:Nat)^(k+1)=4*4^k:=by rw [DN];omega
   unfold Sq
   omega
  have hl3:o.length<4^(k+1):=by
   have h4:(4:Nat)^(k+1)=4*4^k:=by rw [DN];omega
   omega
  by_cases h00:x.step.kind=0
  ·have z0:(x.step.kind !=0)=false:=by simp [h00]
   simp only [go_sem,h0,h1,GH hx,el,z0,hw]
   exact ⟨(w,o),by rw [MS,iP h00],hl3,rfl,rfl⟩
  ·have z0:(x.step.kind !=0)=true:=by simp [h00]
   simp only [go_sem,h0,h1,GH hx,el,z0]
   refine pK c1 ?_
   simp only [go_sem,hw]
   exact ⟨(none,Sq o x.step.var),by rw [MS,iN h00],hl2,rfl,rfl⟩
 ·rintro ⟨w,o⟩ hI hF
  dsimp only at hI hF ⊢
  have hol:o.length<65536:=BQ hI (BZ dc hp)
  have ho:MS [] p=o:=hF
  have eo:(HA o).length=o.length:=Lp o
  simp only [go_sem,AX,dF,el]
  refine Fq o (λ(s:List FP×FR) r=>s.1++r.map (VH l p)) (λk s=>s.1.length=k) (λk s=>[(0,.sl none (GN l)),(1,.sl none (F9 p)),(5,.sl w (HA o)),(7,.sl (some 5) (OD s.1)),(8,.int .i64 k)]) (λ_ s=>s.2) ([],[]) FQ rfl rfl rfl ?_ ?_
  ·rintro k ⟨out,J⟩ nm nms hd hx hI2 hF2 h0 h1 hw
   dsimp only at hI2 hF2 ⊢
   have hsp:Ht (Variable.z.cf (some 1)) [AV.str nm]=(⟨nm,0,[],0,0⟩:FP).cf (some 1):=rfl
   have gB : ∀ y L,(J++y::L)[J.length]? =some y:=λy L=>sm
   have sB : ∀ y z L,(J++y::L).set J.length z=J++z::L:=λy z L=>by
    rw [List.set_append_right _ _ (AU _)];simp
   have gN : ∀ y L z,(J++y::(L++[z]))[List.length (J++y::L)]? =some z:=λy L z=>by
    have:J++y::(L++[z])=(J++y::L)++[z]:=sm
    rw [this];exact BX
   have sN : ∀ y L z z2,(J++y::(L++[z])).set (List.length (J++y::L)) z2=J++y::(L++[z2]):=λy L z z2=>by
    have:J++y::(L++[z])=(J++y::L)++[z]:=sm
    rw [this];simp
   simp only [go_sem,h0,h1,Gj hx,eo,hsp]
   refine Fq p (λ(a:(FP×Bool)×Option Nat×FR) r=>zQ l nm a.1 r) (λ_ _=>True) (λj a=>[(0,.sl none (GN l)),(1,.sl none (F9 p)),(5,.sl w (HA o)),(7,.sl (some 5) (OD out)),(8,.int .i64 k),(9,.ptr J.length 0),(10,.bool a.1.2),(11,.int .i64 j)])
    (λ_ a=>J++some (a.1.1.cf a.2.1)::a.2.2) ((⟨nm,0,[],0,0⟩,false),some 1,[]) FQ trivial rfl rfl ?_ ?_
   ·rintro j ⟨⟨v,f⟩,w2,L⟩ x xs hd3 hx3 _ hF3 g0 g1 gw
    dsimp only at hF3 ⊢
    have c1:=AC9 x.step.kind
    have c2:=o7 l x.step.key (by have:=hk x (AB hx3);omega)
    have c3:=AC3 x.step
    by_cases h00:x.step.kind=0
    ·have z0:(x.step.kind==0)=true:=by simp [h00]
     simp only [go_sem,g0,g1,GH hx3,el,gN,sN,z0,gw]
     exact ⟨((v,f),w2,L++[some (x.step.cf none)]),by rw [zQ,vW,iP (.inl h00)],rfl,rfl⟩
    ·have z0:(x.step.kind==0)=false:=by simp [h00]
     by_cases hv:x.step.var=nm
     ·have hvb:(nm.toList==nm.toList)=true:=sm
      simp only [go_sem,g0,g1,GH hx3,el,gN,sN,z0,Gj hx,h0,hv,hvb,Av]
      have sp1 : ∀ (u:FP) (q:Option Nat) (i:Int),splice (u.cf q) 1 [.int .i64 i]=({ u with family:=i }:FP).cf q:=λ_ _ _=>rfl
      have sp2 : ∀ (u:FP) (q:Option Nat) (i:List Int),splice (u.cf q) 2 [.sl none (GC i)]=({ u with widths:=i }:FP).cf none:=λ_ _ _=>rfl
      have sp3 : ∀ (u:FP) (q:Option Nat) (i:Int),splice (u.cf q) 3 [.int .i64 i]=({ u with n:=i }:FP).cf q:=λ_ _ _=>rfl
      have sp4 : ∀ (u:FP) (q:Option Nat) (i:Int),splice (u.cf q) 4 [.int .i64 i]=({ u with m:=i }:FP).cf q:=λ_ _ _=>rfl
      have gN2 : ∀ y y' L z,(J++y::(L++[z]))[List.length (J++y'::L)]? =some z:=λy y' L z=>by
       have e:List.length (J++y'::L)=List.length (J++y::L):=sm
       rw [e];exact gN y L z
      refine pK c1 ?_
      simp only [go_sem,gB,gN2,sB,sp1]
      refine pK c2 ?_
      simp only [go_sem,gB,gN2,sB,sp2]
      refine pK c3 ?_
      cases hns:Lm x.step with
      | false =>
       simp only [go_sem,gw]
       exact ⟨(({ v with family:=LT x.step.kind,widths:=Iw l x.step.key },f),none,L++[some (x.step.cf none)]),by rw [zQ,vW,iN (by simp [h00,hv]),iN (by rw [hns];simp)],rfl,rfl⟩
      | true =>
       cases f with
       | true =>
        simp only [go_sem,gw,Av]
        exact ⟨(({ v with family:=LT x.step.kind,widths:=Iw l x.step.key },true),none,L++[some (x.step.cf none)]),by rw [zQ,vW,iN (by simp [h00,hv]),iN sm],rfl,rfl⟩
       | false =>
        simp only [go_sem,gB,gN2,sB,sp3,sp4,gw,Aw]
        exact ⟨(({ v with family:=LT x.step.kind,widths:=Iw l x.step.key,n:=x.step.n,m:=x.step.m },true),none,L++[some (x.step.cf none)]),by rw [zQ,vW,iN (by simp [h00,hv]),iP ⟨hns,rfl⟩],rfl,rfl⟩
     ·have hvd:decide (x.step.var=nm)=false:=decide_eq_false hv
      simp only [go_sem,g0,g1,GH hx3,el,gN,sN,z0,Gj hx,h0,FU,hvd,gw,Aw]
      exact ⟨((v,f),w2,L++[some (x.step.cf none)]),by rw [zQ,vW,iP (.inr hv)],rfl,rfl⟩
   ·rintro ⟨⟨v,f⟩,w2,L⟩ _ hF3
    dsimp only at hF3 ⊢
    have hvo:VH l p nm=v:=by unfold VH;rw [hF3];rfl
    simp only [go_sem,AX,dF,el,gB,hw]
    have hkl:=(AC.1 hx).1
    exact ⟨FQ,FQ,(out++[v],_),by rw [hvo];simp,by simp;omega,rfl,rfl⟩
  ·rintro ⟨out,J⟩ hI2 hF2
   dsimp only at hI2 hF2 ⊢
   have he:NN l p=out:=by unfold NN;rw [ho];simpa using hF2
   rw [he]
   simp only [go_sem,AX,dF,eo]
def AEw{l:List Fld}(hl:I0 l)(key:List ByteArray): ∀ w∈Iw l key,w<9223372036854775807:=by
 intro w hw
 obtain ⟨y,_,rfl⟩:=AN.1 hw
 cases hf:(Fc l y).2 with
 | true =>
  have:=Ij hl hf
  unfold HB at this
  omega
 | false =>
  unfold Fc at hf ⊢
  split at hf
  ·cases hf
  ·rename_i hn
   rw [iN hn]
   split at hf
   ·cases hf
   ·rename_i hz
    exact (by decide:Fld.z.width<9223372036854775807)
def Z2{l:List Fld}{nm:ByteArray}: ∀ (r:List FL) {a:FP×Bool},a.1.name=nm->(a.1.widths=[] \/ ∃ x:FL,x.step.kind≠0/\x.step.var=nm/\a.1.widths=Iw l x.step.key) ->
  (zQ l nm a r).1.name=nm/\((zQ l nm a r).1.widths=a.1.widths/\(∀ x∈r,x.step.kind=0\/x.step.var≠nm) \/ ∃ x∈r,x.step.kind≠0/\x.step.var=nm/\(zQ l nm a r).1.widths=Iw l x.step.key)
 | [],a,h1,_=>⟨h1,.inl ⟨rfl,sm⟩⟩
 | x::r,a,h1,h2=>by
  rw [zQ]
  by_cases hc:x.step.kind=0\/x.step.var≠nm
  ·have e:vW l nm a x.step=a:=by unfold vW;rw [iP hc]
   rw [e]
   obtain ⟨g1,g2⟩:=Z2 r h1 h2
   refine ⟨g1, ?_⟩
   rcases g2 with ⟨g2,g3⟩|⟨y,hy,g2⟩
   ·exact .inl ⟨g2,λz hz=>by rcases AW.1 hz with rfl|hz;exact hc;exact g3 z hz⟩
   ·exact .inr ⟨y,B0 _ hy,g2⟩
  ·have hk:x.step.kind≠0:=λh=>hc (.inl h)
   have hv:x.step.var=nm:=by
    by_cases h:x.step.var=nm
    ·exact h
    ·exact absurd (.inr h) hc
   have e1:(vW l nm a x.step).1.name=nm/\(vW l nm a x.step).1.widths=Iw l x.step.key:=by
    unfold vW
    rw [iN hc]
    split<;>exact ⟨h1,rfl⟩
   obtain ⟨g1,g2⟩:=Z2 r e1.1 (.inr ⟨x,hk,hv,e1.2⟩)
   refine ⟨g1,.inr ?_⟩
   rcases g2 with ⟨g2,g3⟩|⟨y,hy,g2⟩
   ·exact ⟨x,CR ..,hk,hv,by rw [g2,e1.2]⟩
   ·exact ⟨y,B0 _ hy,g2⟩
def Yt(l:List Fld)(p:List FL)(nm:ByteArray):(VH l p nm).name=nm/\((VH l p nm).widths=[]/\(∀ x∈p,x.step.kind=0\/x.step.var≠nm) \/ ∃ x∈p,x.step.kind≠0/\x.step.var=nm/\(VH l p nm).widths=Iw l x.step.key) :=
 Z2 p (a:=(⟨nm,0,[],0,0⟩,false)) rfl (.inl rfl)
def zn{l:List Fld}(hl:I0 l){p:List FL}: ∀ v∈NN l p,∀ w∈v.widths,w<9223372036854775807:=by
 intro v hv w hw
 obtain ⟨nm,_,rfl⟩:=AN.1 hv
 rcases (Yt l p nm).2 with ⟨h,_⟩|⟨x,_,_,_,h⟩
 ·rw [h] at hw;cases hw
 ·rw [h] at hw;exact AEw hl _ w hw
def Vt : ∀ (p:List FL) (o:List ByteArray),(MS o p).length<4^p.length*(o.length+1)
 | [],o=>by simp [MS]
 | x::p,o=>by
  rw [MS]
  have h1:=Vt p (if x.step.kind=0 then o else Sq o x.step.var)
  have h2:(if x.step.kind=0 then o else Sq o x.step.var).length+1<=4*(o.length+1):=by
   split
   ·omega
   ·have:=QZ x.step.var o false
    unfold Sq
    omega
  have h3:4^(x::p).length=4^p.length*4:=by rw [AD,DN]
  rw [h3,Nat.mul_assoc]
  exact BQ h1 (Nat.mul_le_mul_left _ h2)
def iJ:Hint:={ h30 with pc:=[11,21] }
@[go_sem] def Ac3(k:Nat):iJ.lv k=h30.lv k/\iJ.ct k=h30.ct k/\iJ.at k=h30.at k/\iJ.dn k=h30.dn k:=⟨AG rfl rfl,AG rfl rfl,AG rfl rfl,AG rfl rfl⟩
@[go_sem] def Adg:iJ.tk=[19,20,22]/\iJ.mt=[]/\iJ.pc=[11,21]:=⟨rfl,rfl,rfl⟩
def AI9:FK AA 30 f30 iJ:=⟨kr,kr,func30,kr⟩
def stQ(l:List Fld)(p:List FL)(st:List FM):Prop:=QJ l p=0/\st.length<=250/\(∀ e∈st,∃ v∈NN l p,v.name=e.var/\nz v e)/\Aci st
def sg(l:List Fld)(hl:zT l)(hl2:I0 l)(p:List FL)(hb:FT (F9 p)<=1048576)(st:List FM)(hst:st.length<=1073741824)(hk : ∀ e∈st,e.key.length<=1073741824):Jo AA 30 [.sl none (GN l),.sl none (F9 p),.sl none (Fe st)] λr => ∃ b,r = .bool b/\(b=true->stQ l p st):=by
 have c1:=AHq l p hl (AK hb dc)
 have el:(Fe st).length=st.length:=IP st
 refine qC AI9 rfl ?_
 simp only [f30,go_sem]
 refine pK c1 ?_
 by_cases h0:QJ l p=0
 ·have z0:(QJ l p !=0)=false:=by simp [h0]
  have hp8:=(rU h0).1
  have hkey : ∀ x∈p,x.step.key.length<=1048576:=λx hx=>by
   have h1:=rU h0
   have:=(fg (h1.2.2.1 x hx).2).klen
   exact this
  have c2:=ADD l p hp8 hkey
  have hvl:(NN l p).length<=1073741824:=by
   have h1:=Vt p []
   have h2:4^p.length<=4^8:=BZ dc hp8
   have h3:(NN l p).length=(MS [] p).length:=by unfold NN;rw [Aq]
   have h4:(4:Nat)^8=65536:=dc
   rw [AH,AY,Nat.mul_one] at h1
   omega
  have q3:=sh (NN l p) hvl (zn hl2) st hst hk
  simp only [go_sem,z0,el]
  refine cS ?_ ?_<;>intro hc
  ·simp only [go_sem]
   exact ⟨rfl,false,rfl,λh=>by cases h⟩
  ·have hc:=of_decide_eq_false hc
   simp only [go_sem]
   refine pK c2 ?_
   simp only [go_sem]
   refine Jp q3 λr hr=>?_
   obtain ⟨n,rfl,hn⟩:=hr
   simp only [go_sem]
   exact ⟨rfl,_,rfl,λh=>⟨h0,FQ,hn (by simpa using h)⟩⟩
 ·have z0:(QJ l p !=0)=true:=by simp [h0]
  simp only [go_sem,z0]
  exact ⟨rfl,false,rfl,λh=>by cases h⟩
def T3:Hint:={ h12 with pc:=[] }
@[go_sem] def AWx(k:Nat):T3.lv k=h12.lv k/\T3.ct k=h12.ct k/\T3.at k=h12.at k/\T3.dn k=h12.dn k:=⟨AG rfl rfl,AG rfl rfl,AG rfl rfl,AG rfl rfl⟩
@[go_sem] def Ac2:T3.tk=[]/\T3.mt=[]/\T3.pc=[]:=⟨rfl,rfl,rfl⟩
def AFp:FK AA 12 f12 T3:=⟨kr,kr,func12,kr⟩
def AIU(s:FG)(sts:List (List FM)):Prop:=sts.length=s.tenants.length /\ ∀ (k:Nat) (t:FH) (st:List FM),s.tenants[k]? =some t->sts[k]? =some st->stQ s.fields t.program st/\st.length<=60
def AAd(s:FG)(hl:zT s.fields)(hl2:I0 s.fields)(hb:FT s.c<=1048576)(sts:List (List FM))(hsl:sts.length<=1073741824)(hst : ∀ st∈sts,st.length<=1073741824 /\ ∀ e∈st,e.key.length<=1073741824):Jo AA 12 [.agg s.c,.sl none (HE sts)] λr => ∃ b,r = .bool b/\(b=true->AIU s sts):=by
 have el:(HE sts).length=sts.length:=Rr sts
 refine qC AFp rfl ?_
 by_cases hn:sts.length=s.tenants.length
 ·have z0:((sts.length:Int) !=(s.tenants.length:Int))=false:=by simp [hn]
  simp only [f12,go_sem,el,z0]
  refine Fq sts (λ(_:Unit) _=>()) (λk _ => ∀ (i:Nat) (t:FH) (st:List FM),i<k->s.tenants[i]? =some t->sts[i]? =some st->stQ s.fields t.program st/\st.length<=60) (λk _=>[(1,.sl none (HE sts)),(2,.ptr 0 0),(5,.int .i64 k)]) (λ_ _=>[some s.c]) () FQ (λi t st hi=>absurd hi (ES i)) rfl rfl ?_ ?_
  ·intro k _ st xs hd hx hI _ h0 h1 hw
   have hkl:=(AC.1 hx).1
   obtain ⟨t,ht⟩ : ∃ t,s.tenants[k]? =some t:=⟨_,AL FQ⟩
   have hk2:(k:Int)<(s.tenants.length:Int):=FQ
   have hbt:FT t.c<=1048576:=by
    have h1:=Ql (Hj hb) (AB ht)
    simpa only [AV.bulk] using h1
   have hm:=hst st (AB hx)
   have q1:=sg s.fields hl hl2 t.program (HZ hbt) st hm.1 hm.2
   simp only [go_sem,h0,h1,el,Rs hx,GV ht]
   refine Jp q1 λr hr=>?_
   obtain ⟨b,rfl,hq⟩:=hr
   cases b with
   | false =>
    simp only [go_sem,Aw]
    exact ⟨rfl,false,rfl,λh=>by cases h⟩
   | true =>
    have hq:=hq rfl
    have es:(Fe st).length=st.length:=IP st
    simp only [go_sem,Av,h0,es,Rs hx]
    refine cS ?_ ?_<;>intro hc
    ·simp only [go_sem]
     exact ⟨rfl,false,rfl,λh=>by cases h⟩
    ·have hc:=of_decide_eq_false hc
     simp only [go_sem,hw]
     refine ⟨(),λi t2 st2 hi h2 h3=>?_⟩
     rcases Nat.lt_or_ge i k with hik|hik
     ·exact hI i t2 st2 hik h2 h3
     ·have:i=k:=FQ
      subst this
      rw [ht] at h2
      rw [hx] at h3
      cases h2;cases h3
      exact ⟨hq,FQ⟩
  ·intro _ hI _
   simp only [go_sem,AX,dF,el]
   exact ⟨rfl,true,rfl,λ_=>⟨hn,λk t st h1 h2=>hI k t st (AC.1 h2).1 h1 h2⟩⟩
 ·have z0:((sts.length:Int) !=(s.tenants.length:Int))=true:=by
   rw [bne_iff_ne];omega
  simp only [f12,go_sem,el,z0]
  exact ⟨rfl,false,rfl,λh=>by cases h⟩
def ABM{s:FG}(hR:R19 s){sts:List (List FM)}(h:AIU s sts)(hk : ∀ st∈sts,∀ e∈st,e.key.length<=1048576):okSts s sts:=by
 refine ⟨h.1,λk t st h1 h2=>?_⟩
 obtain ⟨⟨q1,_,q3,_⟩,q4⟩:=h.2 k t st h1 h2
 have hp:=(fj q1).1
 refine ⟨λe he=>?_,q4⟩
 obtain ⟨v,hv,hn,f1,f2,f3,f4⟩:=q3 e he
 refine ⟨⟨f2,f3,hk st (AB h2) e he,f4⟩,λx hx h0 hvar=>?_⟩
 obtain ⟨nm,_,rfl⟩:=AN.1 hv
 obtain ⟨g1,g2⟩:=Yt s.fields t.program nm
 have hnm:nm=e.var:=by rw [<- g1];exact hn
 rcases g2 with ⟨_,g2⟩|⟨y,hy,g3,g4,g5⟩
 ·rcases g2 x hx with g|g
  ·exact absurd g h0
  ·exact absurd (by rw [<- hvar,hnm]) g
 ·have hw:(Iw s.fields y.step.key).length=y.step.key.length:=by simp [Iw]
  rw [f1,g5,hw]
  exact hp.key y hy x hx g3 h0 (by rw [g4,hnm,hvar])
def UQ(l:List FO):List AV:=l.map λx => .agg x.c
@[go_sem] def gq(l:List FO):(UQ l).length=l.length:=by simp [UQ]
def gt{l:List FO}{i:Nat}{x:FO}(h:l[i]? =some x):(UQ l)[i]? =some (.agg x.c):=by simp [UQ,h]
@[go_sem] def AVB(l:List FO):FV (UQ l)=true:=by
 induction l with
 | nil=>rfl
 | cons x xs ih=>simpa [UQ,FV,AV.pure] using ⟨Xc x,ih⟩
def hRt:Hint:={ h4 with pc:=[10,25] }
@[go_sem] def Adb(k:Nat):hRt.lv k=h4.lv k/\hRt.ct k=h4.ct k/\hRt.at k=h4.at k/\hRt.dn k=h4.dn k:=⟨AG rfl rfl,AG rfl rfl,AG rfl rfl,AG rfl rfl⟩
@[go_sem] def Agw:hRt.tk=[14,18]/\hRt.mt=[]/\hRt.pc=[10,25]:=⟨rfl,rfl,rfl⟩
def AWy:FK AA 4 f4 hRt:=⟨kr,kr,func4,kr⟩
def AIZ(s:FG)(sts:List (List FM))(l:List FO):Prop:=Jw s=true/\AIU s sts /\ ∀ a∈l,YL a=true
def AE6(s:FG)(hb:FT s.c<=1048576)(sts:List (List FM))(hsl:sts.length<=1073741824)(hst : ∀ st∈sts,st.length<=1073741824 /\ ∀ e∈st,e.key.length<=1073741824)(l:List FO)(hl:l.length<=1073741824):Jo AA 4 [.agg s.c,.sl none (HE sts),.sl none (UQ l)] λr => ∃ b,r = .bool b/\(b=true->AIZ s sts l):=by
 have el:(UQ l).length=l.length:=gq l
 have c1:=yJ s hb
 refine qC AWy rfl ?_
 simp only [f4,go_sem]
 refine pK c1 ?_
 cases h1:Jw s with
 | false =>
  simp only [go_sem,Aw]
  exact ⟨rfl,false,rfl,λh=>by cases h⟩
 | true =>
  have hR:=Y4 h1
  have q1:=AAd s (λf hf=>Int.le_trans (Zi hR.fld0 f hf) dc) hR.fld hb sts hsl hst
  simp only [go_sem,Av]
  refine Jp q1 λr hr=>?_
  obtain ⟨b,rfl,hq⟩:=hr
  cases b with
  | false =>
   simp only [go_sem,Aw]
   exact ⟨rfl,false,rfl,λh=>by cases h⟩
  | true =>
   have hq:=hq rfl
   simp only [go_sem,Av,el]
   refine Fq l (λ(_:FR) _=>()) (λk _ => ∀ a∈l.take k,YL a=true) (λk _=>[(18,.sl none (UQ l)),(19,.int .i64 l.length),(20,.int .i64 k)]) (λ_ L=>some s.c::L) [] FQ sm rfl rfl ?_ ?_
   ·intro k L x xs hd hx hI _ h0 h1 hw
    have gN : ∀ a (L:FR) z,(a::(L++[z]))[List.length (a::L)]? =some z:=λa L z=>by
     have:a::(L++[z])=(a::L)++[z]:=sm
     rw [this];exact BX
    have sN : ∀ a (L:FR) z z2,(a::(L++[z])).set (List.length (a::L)) z2=a::(L++[z2]):=λa L z z2=>by
     have:a::(L++[z])=(a::L)++[z]:=sm
     rw [this];simp
    have c2:=yO x
    have htk:l.take (k+1)=l.take k++[x]:=by rw [BF,hx];rfl
    simp only [go_sem,h0,h1,gt hx]
    refine pK c2 ?_
    cases ha:YL x with
    | false =>
     simp only [go_sem,Aw]
     exact ⟨rfl,false,rfl,λh=>by cases h⟩
    | true =>
     simp only [go_sem,Av,hw]
     refine ⟨_,λy hy=>?_,rfl,rfl⟩
     rw [htk] at hy
     rcases Ar.1 hy with hy|hy
     ·exact hI y hy
     ·rcases Ab.1 hy with rfl;exact ha
   ·intro L hI _
    simp only [go_sem,AX,dF]
    rw [BI] at hI
    exact ⟨rfl,true,rfl,λ_=>⟨h1,hq,hI⟩⟩
def rE{l:List Fld}{tick:Int}{x:Policy}: ∀ (pk:List FI) {gv r:List FI},gv.length<=256->xb l tick x gv pk=some r->r.length<=256
 | [],gv,r,hn,e=>by
  rw [xb] at e
  cases e
  exact hn
 | g::pk,gv,r,hn,e=>by
  rw [xb] at e
  cases ev:vO l tick x g with
  | none=>rw [ev] at e;cases e
  | some y =>
   rw [ev] at e
   by_cases h256:256<(gv++y).length
   ·simp only [iP h256] at e
    cases e
   ·simp only [iN h256] at e
    exact rE pk FQ e
def rQ(l:List Fld)(s:Stp)(tick:Int): ∀ (gv:List FI) (a:List FI×List FM),(zU l s tick a gv).1.length<=a.1.length+gv.length
 | [],a=>AU _
 | g::gv,a=>by
  rw [zU,AD]
  refine AK (rQ l s tick gv _) ?_
  dsimp only
  split
  ·rw [AF,Bm];omega
  ·omega
def eG{l:List Fld}{tick:Int}: ∀ (r:List FL) {a b:List FI×List FM},a.1.length<=256->RZ l tick a r=some b->b.1.length<=256
 | [],a,b,h,e=>by
  rw [RZ] at e
  cases e
  exact h
 | s::r,a,b,h,e=>by
  rw [RZ] at e
  cases eg:xb l tick s.policy [] a.1 with
  | none=>rw [eg] at e;cases e
  | some gv =>
   rw [eg] at e
   dsimp only at e
   have h1:=rE a.1 sm eg
   have h2:=rQ l s.step tick gv ([],a.2)
   rw [AH] at h2
   exact eG r FQ e
def AFC(s:FG)(x:FJ)(t:FH)(tick:Int)(a:List FJ×List FN)(p:FI):(lS s x t tick a p).2.length<=a.2.length+1:=by
 unfold lS
 split
 ·exact DU _
 ·split
  ·rw [AF];exact AU _
  ·split<;>exact DU _
def qq(s:FG)(x:FJ)(t:FH)(tick:Int): ∀ (r:List FI) (a:List FJ×List FN),(Xm s x t tick a r).2.length<=a.2.length+r.length
 | [],a=>AU _
 | p::r,a=>by
  rw [Xm,AD]
  have h1:=qq s x t tick r (lS s x t tick a p)
  have h2:=AFC s x t tick a p
  omega
def rh{s:FG}{tick:Int}: ∀ (f n:Nat) {q:List FJ} {now:List (List FM)} {out:List FN} {r:List FN×List (List FM)},TP s tick f n q now out=some r->r.1.length<=out.length+f*256
 | 0,n,q,now,out,r,e=>by rw [TP] at e;cases e
 | f+1,n,q,now,out,r,e=>by
  rw [TP] at e
  cases hx:q[n]? with
  | none =>
   rw [hx] at e
   cases e
   exact Nat.le_add_right _ _
  | some x =>
   rw [hx] at e
   dsimp only at e
   cases ht:s.tenants[x.tenant.toNat]? with
   | none=>rw [ht] at e;cases e
   | some t =>
    rw [ht] at e
    cases hs:now[x.tenant.toNat]? with
    | none=>rw [hs] at e;cases e
    | some st =>
     rw [hs] at e
     dsimp only at e
     cases er:Sk s.fields (GO t).1 st x.head tick with
     | none=>rw [er] at e;cases e
     | some b =>
      rw [er] at e
      dsimp only at e
      have hb:=eG (GO t).1 sm er
      have hp:=qq s x t tick b.1 (q,out)
      split at e
      ·cases e
      ·have:=rh f (n+1) e
       dsimp only at hp
       omega
def dL(s:FG)(a k:Nat):Prop:=∃ c,Qb s a c k
def jU{s:FG}(hR:R19 s){a:Nat}{tick:Int}: ∀ (f n:Nat) {q:List FJ} {now now':List (List FM)} {out:List FN},itP s a q->dlP s a out->now.length=now'.length->(∀ k,dL s a k->now[k]? =now'[k]?) ->
  (TP s tick f n q now out=none/\TP s tick f n q now' out=none) \/ ∃ o S S',TP s tick f n q now out=some (o,S)/\TP s tick f n q now' out=some (o,S') /\ ∀ k,dL s a k->S[k]? =S'[k]?
 | 0,n,q,now,now',out,_,_,_,_ => .inl ⟨by rw [TP],by rw [TP]⟩
 | f+1,n,q,now,now',out,h1,h2,hl,hk=>by
  rw [TP,TP]
  cases hx:q[n]? with
  | none=>exact .inr ⟨out,now,now',rfl,rfl,hk⟩
  | some x =>
   dsimp only
   obtain ⟨x0,x1,x2⟩:=h1 x (AB hx)
   rw [<- hk _ ⟨_,x2⟩]
   cases ht:s.tenants[x.tenant.toNat]? with
   | none=>exact .inl ⟨rfl,rfl⟩
   | some t =>
    cases hs:now[x.tenant.toNat]? with
    | none=>exact .inl ⟨rfl,rfl⟩
    | some st =>
     dsimp only
     cases er:Sk s.fields (GO t).1 st x.head tick with
     | none=>exact .inl ⟨rfl,rfl⟩
     | some b =>
      dsimp only
      obtain ⟨g1,g2⟩:=aJ hR ht (x:=x) FQ x2 (tick:=tick) b.1 (b:=(q,out)) h1 h2
      split
      ·exact .inl ⟨rfl,rfl⟩
      ·refine jU hR f (n+1) g1 g2 (by rw [An,An];exact hl) λk hr=>?_
       rw [Au,Au,hl]
       split
       ·rfl
       ·exact hk k hr
def HD(s:FG)(sts:List (List FM))(a:FO):(Int×List FN)×List (List FM):=match NC s sts a.head a.tick with
 | none=>((2,[]),sts)
 | some o=>((0,o.1),o.2)
def dg{s:FG}{sts:List (List FM)}{a:FO}(h:OI a.head 0 s.tenants=[]):HD s sts a=((0,[]),sts):=by unfold HD;rw [Zm h]
def NQ{s:FG}(hR:R19 s){a:FO}{x:Nat}{t:FH}(hx:s.tenants[x]? =some t)(he:(O1 t a.head).2=true)(sts:List (List FM)):(HD s sts a).2.length=sts.length /\ ∀ k,¬ dL s x k->(HD s sts a).2[k]? =sts[k]?:=by
 unfold HD
 cases e:NC s sts a.head a.tick with
 | none=>exact ⟨rfl,λ_ _=>rfl⟩
 | some o =>
  obtain ⟨_,g2,g3⟩:=Zl hR hx he e
  exact ⟨g2,λk hk=>g3 k λc hc=>hk ⟨c,hc⟩⟩
def Y2{s:FG}(hR:R19 s){a:FO}{x:Nat}{t:FH}(hx:s.tenants[x]? =some t)(he:(O1 t a.head).2=true){sts sts':List (List FM)}(hl:sts.length=sts'.length)(hk : ∀ k,dL s x k->sts[k]? =sts'[k]?):(HD s sts a).1=(HD s sts' a).1 /\ ∀ k,dL s x k->(HD s sts a).2[k]? =(HD s sts' a).2[k]?:=by
 unfold HD NC
 rcases jU hR (tick:=a.tick) 600 0 (iz hR hx he) (out:=[]) (λd hd=>by cases hd) hl hk with ⟨e1,e2⟩|⟨o,S,S',e1,e2,e3⟩
 ·rw [e1,e2];exact ⟨rfl,hk⟩
 ·rw [e1,e2];exact ⟨rfl,e3⟩
def Qf {s:FG} (hR:R19 s) {a b:FO} (sts:List (List FM))
  (h : ∀ x y t u,s.tenants[x]? =some t->(O1 t a.head).2=true->s.tenants[y]? =some u->(O1 u b.head).2=true -> ∀ k,dL s x k->dL s y k->False) :
  (HD s (HD s sts a).2 b).1=(HD s sts b).1/\(HD s (HD s sts b).2 a).1=(HD s sts a).1/\(HD s (HD s sts a).2 b).2=(HD s (HD s sts b).2 a).2:=by
 rcases NA (h:=a.head) (l:=s.tenants) (k:=0) with ⟨_,w2,_⟩|⟨x,t,hx,_,he⟩
 ·have e:=λsts=>dg (s:=s) (sts:=sts) w2
  rw [e,e];exact ⟨rfl,rfl,rfl⟩
 rcases NA (h:=b.head) (l:=s.tenants) (k:=0) with ⟨_,w2,_⟩|⟨y,u,hy,_,hu⟩
 ·have e:=λsts=>dg (s:=s) (sts:=sts) w2
  rw [e,e];exact ⟨rfl,rfl,rfl⟩
 have hd:=h x y t u hx he hy hu
 obtain ⟨a1,a2⟩:=NQ hR hx he sts
 obtain ⟨b1,b2⟩:=NQ hR hy hu sts
 obtain ⟨c1,c2⟩:=Y2 hR hy hu (sts:=(HD s sts a).2) (sts':=sts) a1 λk hk=>a2 k λhx=>hd k hx hk
 obtain ⟨d1,d2⟩:=Y2 hR hx he (sts:=(HD s sts b).2) (sts':=sts) b1 λk hk=>b2 k λhy=>hd k hk hy
 obtain ⟨p1,p2⟩:=NQ hR hy hu (HD s sts a).2
 obtain ⟨q1,q2⟩:=NQ hR hx he (HD s sts b).2
 refine ⟨c1,d1,List.ext_getElem? λk=>?_⟩
 by_cases hxk:dL s x k
 ·have hyk : ¬ dL s y k:=λhy=>hd k hxk hy
  rw [p2 k hyk,d2 k hxk]
 ·rw [q2 k hxk]
  by_cases hyk:dL s y k
  ·rw [c2 k hyk]
  ·rw [p2 k hyk,a2 k hxk,b2 k hyk]
def sk{s:FG}(hport : ∀ c∈s.contracts,0<=c.toPort/\c.toPort<=65535){x:FJ}{t:FH}{tick:Int}{a:List FJ×List FN}{p:FI}(h : ∀ y∈a.1,FX y.head=true)(hp:FX p=true): ∀ y∈(lS s x t tick a p).1,FX y.head=true:=by
 unfold lS
 split
 ·exact h
 ·split
  ·exact h
  ·split
   ·exact h
   ·rename_i d hd
    intro y hy
    rcases Ar.1 hy with hy|hy
    ·exact h y hy
    ·rcases Ab.1 hy with rfl
     have:=hport d (AB hd)
     exact VX hp this.1 this.2
def ZE{s:FG}(hport : ∀ c∈s.contracts,0<=c.toPort/\c.toPort<=65535){x:FJ}{t:FH}{tick:Int}: ∀ (r:List FI) {a:List FJ×List FN},(∀ y∈a.1,FX y.head=true)->(∀ p∈r,FX p=true) -> ∀ y∈(Xm s x t tick a r).1,FX y.head=true
 | [],_,h,_=>h
 | p::r,a,h,hp=>by
  rw [Xm]
  exact ZE hport r (sk hport h (hp p (CR ..))) λz hz=>hp z (B0 _ hz)
def ADH{s:FG}{sts0:List (List FM)}{h0:FI}{tick:Int}(hR:R19 s)(R:okRun s sts0 h0 tick){B:Nat}(hB:B<=1073741823): ∀ (f n:Nat) {q:List FJ} {now:List (List FM)} {out:List FN} {r:List FN×List (List FM)},(∀ y∈q,FX y.head=true)->(∀ (k:Nat) (t:FH) (st:List FM),s.tenants[k]? =some t->now[k]? =some st->Pv (GO t).1 st/\st.length+f*2048<=B)->TP s tick f n q now out=some r ->
  r.2.length=now.length /\ ∀ (k:Nat) (t:FH) (st:List FM),s.tenants[k]? =some t->r.2[k]? =some st->Pv (GO t).1 st/\st.length<=B
 | 0,n,q,now,out,r,_,_,e=>by rw [TP] at e;cases e
 | f+1,n,q,now,out,r,h1,h2,e=>by
  rw [TP] at e
  cases hx:q[n]? with
  | none =>
   rw [hx] at e
   cases e
   exact ⟨rfl,λk t st ht hs=>⟨(h2 k t st ht hs).1,by have:=(h2 k t st ht hs).2;omega⟩⟩
  | some x =>
   rw [hx] at e
   dsimp only at e
   have hxr:=h1 x (AB hx)
   cases ht:s.tenants[x.tenant.toNat]? with
   | none=>rw [ht] at e;cases e
   | some t =>
    rw [ht] at e
    cases hs:now[x.tenant.toNat]? with
    | none=>rw [hs] at e;cases e
    | some st =>
     rw [hs] at e
     dsimp only at e
     cases er:Sk s.fields (GO t).1 st x.head tick with
     | none=>rw [er] at e;cases e
     | some b =>
      rw [er] at e
      dsimp only at e
      obtain ⟨s1,s2⟩:=h2 _ t st ht hs
      obtain ⟨w1,w2,_⟩:=LZ hR ht
      have hfl:s.fields.length<=1073741824:=by have:=ap (LG R.bulk);omega
      obtain ⟨r1,_,r3,r4⟩:=eD R.fld hfl w1 R.tick s1 FQ hxr er
      split at e
      ·cases e
      ·obtain ⟨i1,i2⟩:=ADH hR R hB f (n+1) (ZE R.port b.1 h1 r1) (λk t2 st2 e1 e2=>by
        rw [Au] at e2
        split at e2
        ·rename_i hk
         subst hk
         rw [ht] at e1
         cases e1
         split at e2
         ·cases e2
          exact ⟨r3,FQ⟩
         ·cases e2
        ·have:=h2 k t2 st2 e1 e2
         exact ⟨this.1,by have:=this.2;omega⟩) e
       rw [An] at i1
       exact ⟨i1,i2⟩
def Ll(s:FG)(sts:List (List FM))(N:Nat):Prop:=sts.length=s.tenants.length /\ ∀ (k:Nat) (t:FH) (st:List FM),s.tenants[k]? =some t->sts[k]? =some st->Pv (GO t).1 st/\st.length<=N
def Ll.mono{s:FG}{sts:List (List FM)}{N M:Nat}(h:Ll s sts N)(hm:N<=M):Ll s sts M:=⟨h.1,λk t st h1 h2=>⟨(h.2 k t st h1 h2).1,AK (h.2 k t st h1 h2).2 hm⟩⟩
def Ll.keys{s:FG}{sts:List (List FM)}{N:Nat}(h:Ll s sts N): ∀ st∈sts,st.length<=N /\ ∀ e∈st,e.key.length<=1048576:=by
 intro st hm
 obtain ⟨k,hk⟩:=Ae hm
 have hl:=(AC.1 hk).1
 have hs:s.tenants[k]? =some (s.tenants[k]'(by rw [<- h.1];exact hl)):=AL _
 obtain ⟨g1,g2⟩:=h.2 k _ st hs hk
 exact ⟨g2,λe he=>(g1 e he).1.2.2.1⟩
def okSts.n{s:FG}(hR:R19 s){sts:List (List FM)}(hs:okSts s sts):Ll s sts 60 :=
 ⟨hs.len,λk t st h1 h2=>by
  obtain ⟨g1,g2⟩:=hs.st k t st h1 h2
  refine ⟨λe he=>⟨(g1 e he).1,λx hx=>?_⟩,g2⟩
  have hmap:=(LZ hR h1).2.2.1
  have:x.step∈t.program.map (·.step):=by rw [<- hmap];exact AN.2 ⟨x,hx,rfl⟩
  obtain ⟨y,hy,hxy⟩:=AN.1 this
  rw [<- hxy]
  exact (g1 e he).2 y hy⟩
def AGZ{s:FG}{sts:List (List FM)}{h:FI}{tick:Int}(hR:R19 s)(R:okRun s sts h tick){N:Nat}(hN:N+1228800<=1073741823)(hs:Ll s sts N){r:List FN×List (List FM)}(e:NC s sts h tick=some r):Ll s r.2 (N+1228800):=by
 obtain ⟨i1,i2⟩:=ADH hR R hN 600 0 (λy hy=>by
  obtain ⟨j,t,h1,_,_,h4,h5⟩:=Wc hy
  rw [h5]
  exact R.ent t (AB h1) h4) (λk t st h1 h2=>by
  have:=hs.2 k t st h1 h2
  exact ⟨this.1,FQ⟩) e
 exact ⟨by rw [i1,hs.1],i2⟩
def ZH{s:FG}(hR:R19 s)(hf:Hw s=true)(hb:FT s.c<=1048576){sts:List (List FM)}{N:Nat}(hs:Ll s sts N)(hN:N<=268435456){h:FI}(hr:FX h=true){tick:Int}(ht:0<=tick/\tick<=1073741824):okRun s sts h tick:=by
 have h0:okSts s (s.tenants.map λ_=>[]):=⟨sm,λk t st h1 h2=>by
  have:st=[]:=by
   rw [List.getElem?_map,h1] at h2
   simpa using h2.symm
  subst this
  exact ⟨sm,sm⟩⟩
 have R:=fh hR hf hb h0 hr ht
 exact ⟨R.bulk,R.fld,R.ten,R.tick,hs.1,R.prg,R.whole,λk t st h1 h2=>⟨(hs.2 k t st h1 h2).1,AK (hs.2 k t st h1 h2).2 hN⟩,R.pred,R.to,R.port,R.prt,R.ent⟩
def qe{s:FG}(hR:R19 s)(hf:Hw s=true)(hb:FT s.c<=1048576){sts:List (List FM)}{N:Nat}(hs:Ll s sts N)(hN:N<=268435456){a:FO}(hr:FX a.head=true)(ht:0<=a.tick/\a.tick<=1073741824):Ll s (HD s sts a).2 (N+1228800):=by
 have R:=ZH hR hf hb hs hN hr ht
 unfold HD
 cases e:NC s sts a.head a.tick with
 | none=>exact hs.mono FQ
 | some o=>exact AGZ hR R FQ hs e
def ei{s:FG}(hR:R19 s): ∀ {c:List Int} {a k:Nat},a<s.tenants.length->Qb s a c k->c.length+zR s k<=zR s a
 | [],a,k,_,h=>by
  have:a=k:=h
  subst this
  simp
 | x::c,a,k,ha,h=>by
  obtain ⟨d,_,e1,e2,e3⟩:=h
  have hdm:=AB e1
  have h1:=hR.rank ha hdm e2
  have h2:=ei hR (Q7 hR hdm) e3
  rw [AD]
  omega
def pE{s:FG}(hR:R19 s){sts:List (List FM)}{h:FI}{tick:Int}{r:List FN×List (List FM)}(e:NC s sts h tick=some r): ∀ d∈r.1,d.chain.length<=s.tenants.length:=by
 rcases NA (h:=h) (l:=s.tenants) (k:=0) with ⟨_,w2,_⟩|⟨x,t,hx,_,he⟩
 ·rw [Zm w2] at e
  cases e
  intro d hd;cases hd
 ·intro d hd
  obtain ⟨k,t2,p,_,v2,_,_,v5⟩:=(Zl hR hx he e).1 d hd
  have h1:=ei hR (AC.1 hx).1 v5
  have h2:=AAS (s:=s) x
  omega
def Gf(s:FG):List (List FM)->List FO->List (Int×List FN)×List (List FM)
 | sts,[]=>([],sts)
 | sts,a::r=>((HD s sts a).1::(Gf s (HD s sts a).2 r).1,(Gf s (HD s sts a).2 r).2)
def yM(l:List FN)(hl:l.length<=1073741824)(hk : ∀ d∈l,d.chain.length<=1073741824):A' AA 22 [.sl none (F5 l),.sl none (F5 l)] (.bool true):=by
 have el:(F5 l).length=l.length:=QC l
 have n0:((l.length:Int) !=(l.length:Int))=false:=sm
 refine pC AZW rfl ?_
 simp only [f22,go_sem,el,n0]
 refine Fq l (λ(_:Unit) _=>()) (λ_ _=>True) (λk _=>[(0,.sl none (F5 l)),(1,.sl none (F5 l)),(5,.int .i64 k)]) (λ_ _=>[]) () FQ trivial rfl rfl ?_ ?_
 ·intro k _ x xs hd hx _ _ h0 h1 hw
  have c1:=pD x.chain x.chain true sm (hk x (AB hx))
  have v1:(x.tenant !=x.tenant)=false:=sm
  have v2:(x.head !=x.head)=false:=sm
  simp only [go_sem,h0,h1,QD hx,el]
  refine pK c1 ?_
  simp only [go_sem,h0,QD hx,v1,hw,Av]
  exact ⟨(),trivial⟩
 ·intro _ _ _
  simp only [go_sem,AX,dF,el]
def AFe{a:AV}(h:Rd AA 32 a): ∃ l,a = .sl none (HE l)/\True:=by
 obtain ⟨l,h1,_,_⟩:=IC (f:=λ(x:List FM)=>AV.sl none (Fe x)) (ok:=λx=>ZQ x) (P:=AA) (t:=32) (e:=94) kr (λx hx=>Tz hx) h
 exact ⟨l,h1,trivial⟩
def AFf{l:List (List FM)}{B:Nat}(h:FT (HE l)<=B):l.length<=B /\ ∀ st∈l,st.length<=B /\ ∀ e∈st,e.key.length<=B:=by
 refine ⟨AK (HM (f:=λ(x:List FM)=>AV.sl none (Fe x)) (λx=>by simp [AV.bulk]) l) h,λst hst=>?_⟩
 have h1:FT (Fe st)<=B:=Gu (o:=none) (AN.2 ⟨st,hst,rfl⟩) h
 refine ⟨uH h1,λe he=>?_⟩
 have h2:=uI h1 he
 have h3:FT e.c<=B:=by simpa only [AV.bulk] using h2
 exact AFj (cw h3)
def Ri(x:Int×List FN):Outcome:=⟨x.1,x.2⟩
def KE(l:List (Int×List FN)):List AV:=l.map λx => .agg (Ri x).c
@[go_sem] def ABn(l:List (Int×List FN)):(KE l).length=l.length:=by simp [KE]
def ge{l:List (Int×List FN)}{i:Nat}{x:Int×List FN}(h:l[i]? =some x):(KE l)[i]? =some (.agg (Ri x).c):=by simp [KE,h]
@[go_sem] def AU6(l:List (Int×List FN)):FV (KE l)=true:=by
 induction l with
 | nil=>rfl
 | cons x xs ih=>simpa [KE,FV,AV.pure] using ⟨XN (Ri x),ih⟩
def TO(l:List (Int×List FN))(hl:l.length<=1073741824)(hk : ∀ x∈l,x.2.length<=1073741824 /\ ∀ d∈x.2,d.chain.length<=1073741824):A' AA 9 [.sl none (KE l),.sl none (KE l)] (.bool true):=by
 have el:(KE l).length=l.length:=ABn l
 have n0:((l.length:Int) !=(l.length:Int))=false:=sm
 refine pC Adx rfl ?_
 simp only [f9,go_sem,el,n0]
 refine Fq l (λ(_:Unit) _=>()) (λ_ _=>True) (λk _=>[(0,.sl none (KE l)),(1,.sl none (KE l)),(5,.int .i64 k)]) (λ_ _=>[]) () FQ trivial rfl rfl ?_ ?_
 ·intro k _ x xs hd hx _ _ h0 h1 hw
  have hx2:=hk x (AB hx)
  have c1:=yM x.2 hx2.1 hx2.2
  have v1:((Ri x).e !=(Ri x).e)=false:=sm
  have ed:(Ri x).l=x.2:=rfl
  simp only [go_sem,h0,h1,ge hx,el,ed]
  refine pK c1 ?_
  simp only [go_sem,h0,ge hx,v1,hw,Av]
  exact ⟨(),trivial⟩
 ·intro _ _ _
  simp only [go_sem,AX,dF,el]
def nf:Hint:={ h8 with pc:=[32],mt:=[13],fz:=[(7,[(6,none,true)])] }
@[go_sem] def Adh(k:Nat):nf.lv k=h8.lv k:=AG rfl rfl
@[go_sem] def Adj(k:Nat):nf.ct k=h8.ct k:=AG rfl rfl
@[go_sem] def Adi(k:Nat):nf.dn k=h8.dn k:=AG rfl rfl
@[go_sem] def Adk:nf.at 0=[]/\nf.at 1=[]/\nf.at 2=[]/\nf.at 3=[]/\nf.at 4=[]/\nf.at 5=[]/\nf.at 6=[]/\nf.at 7=[(6,none,true)]:=⟨rfl,rfl,rfl,rfl,rfl,rfl,rfl,rfl⟩
@[go_sem] def Agy:nf.tk=[14,27,41,42]/\nf.mt=[13]/\nf.pc=[32]:=⟨rfl,rfl,rfl⟩
def AW0:FK AA 8 f8 nf:=⟨kr,kr,func8,kr⟩
def AAE{s:FG}(hR:R19 s){sts:List (List FM)}{a:FO}:(HD s sts a).1.2.length<=153600 /\ ∀ d∈(HD s sts a).1.2,d.chain.length<=s.tenants.length:=by
 unfold HD
 cases e:NC s sts a.head a.tick with
 | none=>exact ⟨sm,sm⟩
 | some o =>
  refine ⟨?_,pE hR e⟩
  have:=rh 600 0 (show TP s a.tick 600 0 (OI a.head 0 s.tenants) sts []=some o from e)
  simpa using this
def PX(s:FG): ∀ (l:List FO) (sts:List (List FM)),(Gf s sts l).1.length=l.length
 | [],_=>rfl
 | a::l,sts=>by rw [Gf,AD,AD,PX s l]
def KP{s:FG}(hR:R19 s): ∀ (l:List FO) (sts:List (List FM)),∀ x∈(Gf s sts l).1,x.2.length<=153600 /\ ∀ d∈x.2,d.chain.length<=s.tenants.length
 | [],_,x,h=>by cases h
 | a::l,sts,x,h=>by
  rw [Gf] at h
  rcases AW.1 h with rfl|h
  ·exact AAE hR
  ·exact KP hR l _ x h
def Rh{s:FG}(hR:R19 s)(hf:Hw s=true)(hb:FT s.c<=1048576): ∀ (l:List FO) {sts:List (List FM)} {N:Nat},Ll s sts N->N+l.length*1228800<=268435456->(∀ a∈l,FX a.head=true/\0<=a.tick/\a.tick<=1073741824)->Ll s (Gf s sts l).2 (N+l.length*1228800)
 | [],sts,N,hs,_,_=>by simpa [Gf] using hs
 | a::l,sts,N,hs,hN,hr=>by
  rw [AD] at hN ⊢
  have h1:=hr a (CR ..)
  have h2:=qe hR hf hb hs FQ h1.1 h1.2
  have h3:=Rh hR hf hb l h2 FQ λx hx=>hr x (B0 _ hx)
  rw [Gf]
  exact h3.mono FQ
def Jg(x:(Int×List FN)×Option Nat):List AV:=[.int .i64 x.1.1,.sl x.2 (F5 x.1.2)]
def Od(out:List (Int×List FN))(m:Nat):List ((Int×List FN)×Option Nat):=out.map (λx=>(x,none))++Ay m ((0,[]),some 12)
def ABN(out:List (Int×List FN))(m:Nat)(x:Int×List FN):splice (splice ((Od out (m+1)).flatMap Jg) (out.length*2+1) [.sl none (F5 x.2)]) (out.length*2) [.int .i64 x.1]=(Od (out++[x]) m).flatMap Jg:=by
 have e1:(Od out (m+1)).flatMap Jg=(out.map λx=>(x,none)).flatMap Jg++(.int .i64 0 :: .sl (some 12) (F5 [])::(Ay m (((0:Int),([]:List FN)),some 12)).flatMap Jg):=by
  rw [Od,List.replicate_succ,C3,BA];rfl
 have e2:(Od (out++[x]) m).flatMap Jg=(out.map λx=>(x,none)).flatMap Jg++(.int .i64 x.1 :: .sl none (F5 x.2)::(Ay m (((0:Int),([]:List FN)),some 12)).flatMap Jg):=by
  rw [Od,Ap,AE,C3];rfl
 have e3:((out.map λx=>((x,none):(Int×List FN)×Option Nat)).flatMap Jg).length=out.length*2:=by
  rw [gJ (n:=2) (λ_=>rfl),Aq]
 rw [e1,e2]
 generalize ((out.map λx=>((x,none):(Int×List FN)×Option Nat)).flatMap Jg)=A at e3
 generalize (Ay m (((0:Int),([]:List FN)),some 12)).flatMap Jg=Z
 rw [<- e3]
 have u1:splice (A++(.int .i64 0 :: .sl (some 12) (F5 [])::Z)) (A.length+1) [.sl none (F5 x.2)]=A++(.int .i64 0 :: .sl none (F5 x.2)::Z):=by
  unfold splice
  rw [C4,Bf FQ,ET,Cx (by simp;omega)]
  have:A.length+1 - A.length=1:=FQ
  rw [this]
  have:A.length+1+1 - A.length=2:=FQ
  simp [this]
 rw [u1]
 unfold splice
 rw [C4,Bf FQ,ET,Cx sm]
 have:A.length+1 - A.length=1:=FQ
 simp [this]
def fm(out:List (Int×List FN))(m:Nat):((Od out m).flatMap Jg).length=(out.length+m)*2:=by
 rw [gJ (n:=2) (λ_=>rfl),Od,AF,Aq,List.length_replicate]
def AA5(s:FG)(hR:R19 s)(hf:Hw s=true)(hb:FT s.c<=1048576)(sts:List (List FM))(hs:Ll s sts 60)(l:List FO)(hl:l.length<=12)(hr : ∀ a∈l,FX a.head=true/\0<=a.tick/\a.tick<=1073741824):
  A' AA 8 [.agg s.c,.sl none (HE sts),.sl none (UQ l)] (.tup [.sl none (KE (Gf s sts l).1),.sl none (HE (Gf s sts l).2)]):=by
 have el:(UQ l).length=l.length:=gq l
 refine pB AW0 rfl ?_
 simp only [f8,go_sem,el]
 refine ⟨FQ,FQ,FQ, ?_⟩
 refine Fq l (λ(w:List (Int×List FN)×List (List FM)×FR) (r:List FO)=>(w.1++(Gf s w.2.1 r).1,(Gf s w.2.1 r).2)) (λk w=>w.1.length=k/\Ll s w.2.1 (60+k*1228800))
  (λk w=>[(1,.sl none (HE w.2.1)),(3,.ptr 0 0),(8,.msl 1 0 l.length 2),(14,.sl none (UQ l)),(15,.int .i64 l.length),(16,.int .i64 k)]) (λk w=>some s.c::some ((Od w.1 (l.length - k)).flatMap Jg)::w.2.2) ([],sts,[]) FQ ⟨rfl,by simpa using hs⟩ rfl (by rw [Od,List.map_nil,List.nil_append,List.flatMap_replicate];rfl) ?_ ?_
 ·rintro k ⟨out,now,J⟩ a ar hd hx ⟨i1,i2⟩ hF h0 h1 hw
  dsimp only at i1 i2 hF ⊢
  have hkl:=(AC.1 hx).1
  have ha:=hr a (AB hx)
  have R:=ZH hR hf hb i2 FQ ha.1 ha.2
  have c1:=AIl s now a.head a.tick ha.1 R
  have h3:=qe hR hf hb i2 FQ ha.1 ha.2
  have gN : ∀ a b (L:FR) z,(a::b::(L++[z]))[List.length (a::b::L)]? =some z:=λa b L z=>by
   have:a::b::(L++[z])=(a::b::L)++[z]:=sm
   rw [this];exact BX
  have sN : ∀ a b (L:FR) z z2,(a::b::(L++[z])).set (List.length (a::b::L)) z2=a::b::(L++[z2]):=λa b L z z2=>by
   have:a::b::(L++[z])=(a::b::L)++[z]:=sm
   rw [this];simp
  simp only [go_sem,h0,h1,gt hx]
  have hput:=ABN out (l.length - (k+1)) (HD s now a).1
  have hm1:l.length - k=l.length - (k+1)+1:=FQ
  have hk0:(0:Int)<=(k:Int):=FQ
  have hk1:(k:Int)<(l.length:Int):=FQ
  have hle:((Od out (l.length - (k+1)+1)).flatMap Jg).length=(out.length+(l.length - (k+1)+1))*2:=fm _ _
  have hle1:k*2+1+1<=((Od out (l.length - (k+1)+1)).flatMap Jg).length:=by rw [hle];omega
  have hle0:k*2+1<=((Od out (l.length - (k+1)+1)).flatMap Jg).length:=by rw [hle];omega
  rw [i1] at hput
  have eS:qn now (NC s now a.head a.tick) = .tup [.sl none (F5 (HD s now a).1.2),.sl none (HE (HD s now a).2),.int .i64 (HD s now a).1.1]:=by
   unfold HD
   cases NC s now a.head a.tick<;>rfl
  rw [eS] at c1
  rw [hm1]
  refine pK c1 ?_
  have hsp : ∀ (R:List AV) (v:AV),k*2+2<=R.length->(splice R (k*2+1) [v]).length=R.length:=λR v h=>by
   unfold splice;simp;omega
  have hle2:k*2+1<=(splice ((Od out (l.length - (k+1)+1)).flatMap Jg) (k*2+1) [AV.sl none (F5 (HD s now a).1.2)]).length:=by
   rw [hsp _ _ FQ];exact hle0
  simp only [go_sem,hk0,hk1,hle1,hle2,hput,hw]
  refine ⟨(out++[(HD s now a).1],(HD s now a).2,J++[some a.c]),by rw [Gf];simp [AE],⟨by rw [AF,Bm];omega, ?_⟩,rfl,rfl⟩
  have e1:60+k*1228800+1228800=60+(k+1)*1228800:=by rw [Nat.add_mul];omega
  rw [e1] at h3
  exact h3
 ·rintro ⟨out,now,J⟩ ⟨i1,i2⟩ hF
  dsimp only at i1 i2 hF ⊢
  have hle:l.length*2<=((Od out (l.length - l.length)).flatMap Jg).length:=by rw [fm];omega
  have hch:Hy true 2 l.length (((Od out (l.length - l.length)).flatMap Jg).map borrow1)=KE out:=by
   have e1 : ∀ q:List (Int×List FN),((q.map λx=>((x,none):(Int×List FN)×Option Nat)).flatMap Jg).map borrow1=q.flatMap λx=>(Ri x).c:=λq=>by
    induction q with
    | nil=>rfl
    | cons x q ih=>rw [List.map_cons,BA,Ap,ih];rfl
   rw [AP,Od,List.replicate_zero,List.append_nil,e1]
   exact xw (n:=2) (f:=λx=>(Ri x).c) (λ_=>rfl) i1.symm
  have hres:(Gf s sts l).1=out/\(Gf s sts l).2=now:=by simpa [Gf] using hF
  rw [hres.1,hres.2]
  simp only [go_sem,AX,dF,hle,hch]
def qo{s:FG}(hR:R19 s): ∀ {c:List Int} {a k:Nat},a<s.tenants.length->Qb s a c k->k<s.tenants.length
 | [],a,k,ha,h=>by
  have:a=k:=h
  subst this
  exact ha
 | x::c,a,k,ha,h=>by
  obtain ⟨d,_,e1,e2,e3⟩:=h
  exact qo hR (Q7 hR (AB e1)) e3
def Wo(l:List (List Int)):(l=[]/\bS l = .tup [.sl none (dN []),.int .i64 0])\/(l≠[]/\((∃ L,bS l = .tup [.sl none (dN L),.int .i64 2])\/bS l = .tup [.sl none (dN l),.int .i64 0])):=by
 by_cases h:l=[]
 ·subst h;exact .inl ⟨rfl,rfl⟩
 ·refine .inr ⟨h, ?_⟩
  unfold bS
  split
  ·exact .inl ⟨[],rfl⟩
  ·exact .inr rfl
def Ach(s:FG)(x y:Nat):Prop:=∀ k,k<s.tenants.length->Sc s k (s.tenants.length+1) x []=[]\/Sc s k (s.tenants.length+1) y []=[]
def AGr{s:FG}(hR:R19 s){x y:Nat}(hx:x<s.tenants.length)(hy:y<s.tenants.length)(h:Ach s x y)(k:Nat)(h1:dL s x k)(h2:dL s y k):False:=by
 obtain ⟨c,h1⟩:=h1
 obtain ⟨d,h2⟩:=h2
 have g1:=T6 hR hx h1
 have g2:=T6 hR hy h2
 rcases h k (qo hR hx h1) with e|e
 ·rw [e] at g1;cases g1
 ·rw [e] at g2;cases g2
def AE7(s:FG)(hb:FT s.c<=1048576)(hR:R19 s)(hn:s.tenants.length<=1073741824)(x y:Nat)(hx:x<s.tenants.length)(hy:y<s.tenants.length):Jo AA 7 [.agg s.c,.int .i64 x,.int .i64 y] λr => ∃ b,r = .bool b/\(b=true->Ach s x y):=by
 refine qC Ad2 rfl ?_
 simp only [f7,go_sem]
 refine Fq s.tenants (λ(_:Unit) _=>()) (λk _ => ∀ i,i<k->Sc s i (s.tenants.length+1) x []=[]\/Sc s i (s.tenants.length+1) y []=[]) (λk _=>[(1,.int .i64 x),(2,.int .i64 y),(3,.ptr 0 0),(14,.int .i64 s.tenants.length),(15,.int .i64 k)]) (λ_ _=>[some s.c]) () FQ (λi hi=>absurd hi (ES i)) rfl rfl ?_ ?_
 ·intro k _ t ts hd hxt hI _ h0 h1 hw
  have c5:=fN s hb hR x k hx
  have c6:=fN s hb hR y k hy
  have b2:((2:Int) !=0)=true:=rfl
  have b0:((0:Int) !=0)=false:=rfl
  have ez:(dN []).length=0:=rfl
  have z0 : ¬ ((0:Int)<((0:Nat):Int)):=dc
  have hnx:(Sc s k (s.tenants.length+1) x []=[]\/Sc s k (s.tenants.length+1) y []=[]) -> ∀ i,i<k+1->Sc s i (s.tenants.length+1) x []=[]\/Sc s i (s.tenants.length+1) y []=[]:=λh i hi=>by
   by_cases hik:i<k
   ·exact hI i hik
   ·have:i=k:=FQ
    subst this;exact h
  generalize Sc s k (s.tenants.length+1) x []=ch at c5 hnx
  generalize Sc s k (s.tenants.length+1) y []=dh at c6 hnx
  have lc : ∀ l:List (List Int),(dN l).length=l.length:=bA
  have lp : ∀ l:List (List Int),l≠[]->(0:Int)<(l.length:Int):=λl hl=>by
   have:=List.length_pos_iff.2 hl
   omega
  simp only [go_sem,h1]
  rcases Wo ch with ⟨e1,r1⟩|⟨e1,⟨L,r1⟩|r1⟩<;>rcases Wo dh with ⟨e2,r2⟩|⟨e2,⟨M,r2⟩|r2⟩<;>rw [r1] at c5<;>rw [r2] at c6<;>refine pK c5 ?_<;>simp only [go_sem]<;>refine pK c6 ?_
  ·simp only [go_sem,b0,ez,z0,dF,hw]
   exact ⟨(),hnx (.inl e1)⟩
  ·simp only [go_sem,b0,ez,z0,dF,hw]
   exact ⟨(),hnx (.inl e1)⟩
  ·simp only [go_sem,b0,ez,z0,dF,hw]
   exact ⟨(),hnx (.inl e1)⟩
  ·simp only [go_sem,b0,b2,ez,z0,dF,hw]
   exact ⟨(),hnx (.inr e2)⟩
  ·simp only [go_sem,b2]
   exact ⟨rfl,false,rfl,λh=>by cases h⟩
  ·have:=lp dh e2
   simp only [go_sem,b0,b2,lc,this,dT]
   exact ⟨rfl,false,rfl,λh=>by cases h⟩
  ·have:=lp ch e1
   simp only [go_sem,b0,lc,this,dT,z0,dF,hw]
   exact ⟨(),hnx (.inr e2)⟩
  ·have:=lp ch e1
   simp only [go_sem,b0,b2,lc,this,dT]
   exact ⟨rfl,false,rfl,λh=>by cases h⟩
  ·have h1:=lp ch e1
   have h2:=lp dh e2
   simp only [go_sem,b0,lc,h1,h2,dT]
   exact ⟨rfl,false,rfl,λh=>by cases h⟩
 ·intro _ hI _
  simp only [go_sem,AX,dF]
  exact ⟨rfl,true,rfl,λ_=>hI⟩
def iK:Hint:={ h3 with pc:=[22,26,30,44,51,60,71,81,86] }
@[go_sem] def Ac4(k:Nat):iK.lv k=h3.lv k/\iK.ct k=h3.ct k/\iK.at k=h3.at k/\iK.dn k=h3.dn k:=⟨AG rfl rfl,AG rfl rfl,AG rfl rfl,AG rfl rfl⟩
@[go_sem] def Adl:iK.tk=[56,73,84,85]/\iK.mt=[]/\iK.pc=[22,26,30,44,51,60,71,81,86]:=⟨rfl,rfl,rfl⟩
def AJA:FK AA 3 f3 iK:=⟨kr,kr,func3,kr⟩
def AGQ(hsan:A' AA 5 [] (.bool true))(s:FG)(sts:List (List FM))(a b:FO)(hb:FT s.c<=1048576)(hsb:FT (HE sts)<=1048576):A' AA 3 [.agg s.c,.sl none (HE sts),.agg a.c,.agg b.c] (.bool true):=by
 obtain ⟨hsl,hst⟩:=AFf hsb
 have q1:=AE6 s hb sts FQ (λst hm=>⟨by have:=(hst st hm).1;omega,λe he=>by have:=(hst st hm).2 e he;omega⟩) [a,b] sm
 refine pC AJA rfl ?_
 simp only [f3,go_sem]
 refine Jp (Jo.lend q1) λr hr=>?_
 obtain ⟨bb,rfl,hq⟩:=hr
 cases bb with
 | false =>
  simp only [go_sem,Aw]
  refine pK hsan ?_
  simp only [go_sem]
 | true =>
  obtain ⟨h1,h2,h3⟩:=hq rfl
  have hR:=Y4 h1
  have hf:Hw s=true:=by unfold Jw at h1;rw [AQ] at h1;exact h1.1
  have ha:=h3 a sm
  have hbb:=h3 b sm
  unfold YL at ha hbb
  simp only [AQ,decide_eq_true_eq] at ha hbb
  have hSt:=ABM hR h2 λst h=>(hst st h).2
  have hN:=hSt.n hR
  have hRun:=fh hR hf hb hSt ha.1 ⟨ha.2.2.1,ha.2.2.2⟩
  have hnt:s.tenants.length<=256:=hRun.ten
  have c3:=Zk s FQ hRun.prt a.head
  have c4:=Zk s FQ hRun.prt b.head
  have hr2 : ∀ x∈[a,b],FX x.head=true/\0<=x.tick/\x.tick<=1073741824:=λx hx=>by
   rcases AW.1 hx with rfl|hx
   ·exact ⟨ha.1,ha.2.2.1,ha.2.2.2⟩
   ·rcases Ab.1 hx with rfl
    exact ⟨hbb.1,hbb.2.2.1,hbb.2.2.2⟩
  have c5:=AA5 s hR hf hb sts hN [a,b] sm hr2
  have c6:=AA5 s hR hf hb sts hN [b,a] sm (λx hx=>by
   rcases AW.1 hx with rfl|hx
   ·exact ⟨hbb.1,hbb.2.2.1,hbb.2.2.2⟩
   ·rcases Ab.1 hx with rfl
    exact ⟨ha.1,ha.2.2.1,ha.2.2.2⟩)
  have m1 : ¬ ((0:Int) <= -1):=dc
  rcases NA (h:=a.head) (l:=s.tenants) (k:=0) with ⟨w1,w2,w3⟩|⟨x,t,w1,w2,w3⟩
  ·have hd : ∀ x y t u,s.tenants[x]? =some t->(O1 t a.head).2=true->s.tenants[y]? =some u->(O1 u b.head).2=true -> ∀ k,dL s x k->dL s y k->False:=λx y t u h4 h5 _ _=>by
    have:=w3 t (AB h4);rw [h5] at this;cases this
   simp only [go_sem,Av]
   refine pK c3 ?_
   rw [w1]
   simp only [go_sem]
   refine pK c4 ?_
   simp only [go_sem,m1,dF]
   refine pK (A'.weak c5) ?_
   simp only [go_sem]
   refine pK (A'.weak c6) ?_
   obtain ⟨o1,o2,o3⟩:=Qf hR sts hd
   have e1:(Gf s sts [a,b]).1=[(HD s sts a).1,(HD s sts b).1]:=by simp [Gf,o1]
   have e2:(Gf s sts [b,a]).1=[(HD s sts b).1,(HD s sts a).1]:=by simp [Gf,o2]
   have e3:(Gf s sts [b,a]).2=(Gf s sts [a,b]).2:=by simp only [Gf];exact o3.symm
   have hS:=Rh hR hf hb [a,b] hN sm hr2
   have c8:=TN (Gf s sts [a,b]).2 (by rw [hS.1];omega) λst h=>⟨by have:=(hS.keys st h).1;simp at this;omega,λe he=>by have:=(hS.keys st h).2 e he;omega⟩
   have c7:=TO (Gf s sts [a,b]).1 (by rw [PX];simp) λx hx=>⟨by have:=(KP hR _ _ x hx).1;omega,λd hd=>by have:=(KP hR _ _ x hx).2 d hd;omega⟩
   rw [e3]
   rw [e1] at c7 ⊢
   rw [e2]
   generalize (Gf s sts [a,b]).2=S at c8
   generalize (HD s sts a).1=A at c7
   generalize (HD s sts b).1=B at c7
   have n2 : ∀ X Y:Int×List FN,((((KE [X,Y]).length:Nat):Int) !=2)=false:=λ_ _=>rfl
   have n3:((((0:Nat)+1+1:Nat):Int) !=2)=false:=rfl
   have g1:(KE [B,A])[1]? =some (.agg (Ri A).c):=rfl
   have g0:(KE [B,A])[0]? =some (.agg (Ri B).c):=rfl
   have l1:(1:Int)<(((KE [B,A]).length:Nat):Int):=show (1:Int)<((2:Nat):Int) by decide
   have l0:(0:Int)<(((KE [B,A]).length:Nat):Int):=show (0:Int)<((2:Nat):Int) by decide
   simp only [go_sem,n3,AD,AH]
   refine pK hsan ?_
   simp only [go_sem,g0,g1]
   refine pK (A'.weak c7) ?_
   simp only [go_sem]
   refine pK c8 ?_
   simp only [go_sem]
  ·rw [AY] at w2
   have hxl:=(AC.1 w1).1
   have x0:(0:Int)<=((x:Nat):Int):=FQ
   rcases NA (h:=b.head) (l:=s.tenants) (k:=0) with ⟨v1,v2,v3⟩|⟨y,u,v1,v2,v3⟩
   ·have hd : ∀ x y t u,s.tenants[x]? =some t->(O1 t a.head).2=true->s.tenants[y]? =some u->(O1 u b.head).2=true -> ∀ k,dL s x k->dL s y k->False:=λx y t u _ _ h4 h5=>by
     have:=v3 u (AB h4);rw [h5] at this;cases this
    simp only [go_sem,Av]
    refine pK c3 ?_
    rw [w2]
    simp only [go_sem]
    refine pK c4 ?_
    rw [v1]
    simp only [go_sem,x0,m1,dT,dF]
    refine pK (A'.weak c5) ?_
    simp only [go_sem]
    refine pK (A'.weak c6) ?_
    obtain ⟨o1,o2,o3⟩:=Qf hR sts hd
    have e1:(Gf s sts [a,b]).1=[(HD s sts a).1,(HD s sts b).1]:=by simp [Gf,o1]
    have e2:(Gf s sts [b,a]).1=[(HD s sts b).1,(HD s sts a).1]:=by simp [Gf,o2]
    have e3:(Gf s sts [b,a]).2=(Gf s sts [a,b]).2:=by simp only [Gf];exact o3.symm
    have hS:=Rh hR hf hb [a,b] hN sm hr2
    have c8:=TN (Gf s sts [a,b]).2 (by rw [hS.1];omega) λst h=>⟨by have:=(hS.keys st h).1;simp at this;omega,λe he=>by have:=(hS.keys st h).2 e he;omega⟩
    have c7:=TO (Gf s sts [a,b]).1 (by rw [PX];simp) λx hx=>⟨by have:=(KP hR _ _ x hx).1;omega,λd hd=>by have:=(KP hR _ _ x hx).2 d hd;omega⟩
    rw [e3]
    rw [e1] at c7 ⊢
    rw [e2]
    generalize (Gf s sts [a,b]).2=S at c8
    generalize (HD s sts a).1=A at c7
    generalize (HD s sts b).1=B at c7
    have n2 : ∀ X Y:Int×List FN,((((KE [X,Y]).length:Nat):Int) !=2)=false:=λ_ _=>rfl
    have n3:((((0:Nat)+1+1:Nat):Int) !=2)=false:=rfl
    have g1:(KE [B,A])[1]? =some (.agg (Ri A).c):=rfl
    have g0:(KE [B,A])[0]? =some (.agg (Ri B).c):=rfl
    have l1:(1:Int)<(((KE [B,A]).length:Nat):Int):=show (1:Int)<((2:Nat):Int) by decide
    have l0:(0:Int)<(((KE [B,A]).length:Nat):Int):=show (0:Int)<((2:Nat):Int) by decide
    simp only [go_sem,n3,AD,AH]
    refine pK hsan ?_
    simp only [go_sem,g0,g1]
    refine pK (A'.weak c7) ?_
    simp only [go_sem]
    refine pK c8 ?_
    simp only [go_sem]
   ·rw [AY] at v2
    have hyl:=(AC.1 v1).1
    have y0:(0:Int)<=((y:Nat):Int):=FQ
    have q2:=AE7 s hb hR FQ x y hxl hyl
    simp only [go_sem,Av]
    refine pK c3 ?_
    rw [w2]
    simp only [go_sem]
    refine pK c4 ?_
    rw [v2]
    simp only [go_sem,x0,y0,dT]
    refine Jp (Jo.lend q2) λr hr=>?_
    obtain ⟨bq,rfl,hq2⟩:=hr
    cases bq with
    | false =>
     simp only [go_sem,Aw]
     refine pK hsan ?_
     simp only [go_sem]
    | true =>
     have hap:=hq2 rfl
     have hd : ∀ x y t u,s.tenants[x]? =some t->(O1 t a.head).2=true->s.tenants[y]? =some u->(O1 u b.head).2=true -> ∀ k,dL s x k->dL s y k->False:=λx' y' t' u' h4 h5 h6 h7 k hk1 hk2=>by
      have e1:=S0 hR h4 w1 (Lv.1 h5) (Lv.1 w3)
      have e2:=S0 hR h6 v1 (Lv.1 h7) (Lv.1 v3)
      subst e1 e2
      exact AGr hR hxl hyl hap k hk1 hk2
     simp only [go_sem,Av]
     refine pK (A'.weak c5) ?_
     simp only [go_sem]
     refine pK (A'.weak c6) ?_
     obtain ⟨o1,o2,o3⟩:=Qf hR sts hd
     have e1:(Gf s sts [a,b]).1=[(HD s sts a).1,(HD s sts b).1]:=by simp [Gf,o1]
     have e2:(Gf s sts [b,a]).1=[(HD s sts b).1,(HD s sts a).1]:=by simp [Gf,o2]
     have e3:(Gf s sts [b,a]).2=(Gf s sts [a,b]).2:=by simp only [Gf];exact o3.symm
     have hS:=Rh hR hf hb [a,b] hN sm hr2
     have c8:=TN (Gf s sts [a,b]).2 (by rw [hS.1];omega) λst h=>⟨by have:=(hS.keys st h).1;simp at this;omega,λe he=>by have:=(hS.keys st h).2 e he;omega⟩
     have c7:=TO (Gf s sts [a,b]).1 (by rw [PX];simp) λx hx=>⟨by have:=(KP hR _ _ x hx).1;omega,λd hd=>by have:=(KP hR _ _ x hx).2 d hd;omega⟩
     rw [e3]
     rw [e1] at c7 ⊢
     rw [e2]
     generalize (Gf s sts [a,b]).2=S at c8
     generalize (HD s sts a).1=A at c7
     generalize (HD s sts b).1=B at c7
     have n2 : ∀ X Y:Int×List FN,((((KE [X,Y]).length:Nat):Int) !=2)=false:=λ_ _=>rfl
     have n3:((((0:Nat)+1+1:Nat):Int) !=2)=false:=rfl
     have g1:(KE [B,A])[1]? =some (.agg (Ri A).c):=rfl
     have g0:(KE [B,A])[0]? =some (.agg (Ri B).c):=rfl
     have l1:(1:Int)<(((KE [B,A]).length:Nat):Int):=show (1:Int)<((2:Nat):Int) by decide
     have l0:(0:Int)<(((KE [B,A]).length:Nat):Int):=show (0:Int)<((2:Nat):Int) by decide
     simp only [go_sem,n3,AD,AH]
     refine pK hsan ?_
     simp only [go_sem,g0,g1]
     refine pK (A'.weak c7) ?_
     simp only [go_sem]
     refine pK c8 ?_
     simp only [go_sem]
end Go.AI
