/- One owner for an edge;the tenant at whose edge a head enters;the owner of what is delivered. -/
import Derived.Test.YtofajkggflobkaaGreatDoorMk
set_option linter.unusedSimpArgs false
set_option linter.unusedVariables false
set_option linter.defProp false
set_option maxHeartbeats 4000000
open Go.Proofs.Tryz
open Go.AI renaming Setup->FE,Tenant->FF,Head->FG,Stage->FH,Entry->FI,Delivery->FJ,Arrival->FL,Variable->FM
open Bool renaming and_eq_true->AQ,false_or->BM,not_false->Ax,not_true->Av
open Eq renaming trans->AG
open Int renaming lt_irrefl->AW
open List renaming all_eq_true->An,any_eq_true->CZ,drop_zero->BO,filter_append->Cb,getElem?_concat_length->BT,getElem?_eq_getElem->AL,getElem?_eq_some_iff->AC,getElem?_of_mem->Af,getElem?_take->Ak,length_append->AF,length_cons->AD,length_nil->AH,length_singleton->Bt,length_take->BC,mem_append->As,mem_cons->AX,mem_cons_of_mem->CJ,mem_map->AP,mem_of_getElem?->AB,mem_singleton->Ac,take_add_one->BE,take_length->BH
open Nat renaming le_refl->AU,le_succ->DS,le_trans->AK,lt_of_lt_of_le->BR,lt_trichotomy->ER,pow_le_pow_right->Ba,pow_succ->DL,sub_self->AO,zero_add->AY
open Go.Proofs.Tryz renaming prog->AA
namespace Go.AI
open Go.Proofs
def Tk{s:FE}{t:FF}(h1:Jh s t=0): ∀ x∈t.ports,-1<=x.edge/\x.edge<(s.network.edges.length:Int):=by
 have h2:It s t=0:=by
  unfold Jh at h1
  split at h1
  ·cases h1
  ·split at h1
   ·rename_i hne;exact absurd h1 hne
   ·rename_i hne;simpa using hne
 have h3:IU (RA s.network.edges.length) Q9 t.ports=true:=by
  unfold It at h2
  split at h2
  ·cases h2
  split at h2
  ·cases h2
  split at h2
  ·cases h2
  ·rename_i hne;simpa using hne
 have h4 : ∀ (r:List Port) (i:Nat),Ij (RA s.network.edges.length) Q9 t.ports i r=true -> ∀ x∈r,-1<=x.edge/\x.edge<(s.network.edges.length:Int):=by
  intro r
  induction r with
  | nil=>intro i _ x hx;cases hx
  | cons y r ih =>
   intro i hi x hx
   simp only [Ij,AQ] at hi
   rcases AX.1 hx with rfl|hx
   ·have:=hi.1.1;simp only [RA,AQ,decide_eq_true_eq] at this;exact this
   ·exact ih _ hi.2 x hx
 exact h4 t.ports 0 h3
def R19.ckE{s:FE}(h:R19 s){k:Nat}{t:FF}(ht:s.tenants[k]? =some t):Jh s t=0/\(Gf t).2=0/\JW s k t=false:=by
 have h1:=h.ten k t ht
 unfold RE at h1
 split at h1
 ·rename_i hne;exact absurd h1 hne
 rename_i h2
 split at h1
 ·rename_i hne;exact absurd h1 hne
 rename_i h3
 split at h1
 ·cases h1
 split at h1
 ·cases h1
 rename_i h5
 exact ⟨by simpa using h2,by simpa using h3,by simpa using h5⟩
def VH{e:Int}(he:0<=e): ∀ {l:List Port} {i:Nat} {x:Port},x∈l->x.edge=e->0<=IN e i l
 | y::l,i,x,hx,hxe=>by
  rw [IN]
  split
  ·omega
  ·rename_i hn
   rcases AX.1 hx with rfl|hx
   ·exact absurd ⟨he,hxe⟩ hn
   ·exact VH he hx hxe
def LY{e:Int}: ∀ {l:List Port} {i:Nat},0<=IT e i l -> ∃ (j:Nat) (x:Port),l[j]? =some x/\x.edge ≠ -1/\x.edge=e/\IT e i l=((i+j:Nat):Int)
 | [],i,h=>by rw [IT] at h;exact absurd h dc
 | y::l,i,h=>by
  rw [IT] at h ⊢
  by_cases hy:y.edge ≠ -1/\y.edge=e
  ·rw [iP hy];exact ⟨0,y,rfl,hy.1,hy.2,rfl⟩
  ·rw [iN hy] at h ⊢
   obtain ⟨j,x,h1,h2,h3,h4⟩:=LY h
   exact ⟨j+1,x,h1,h2,h3,by rw [h4];congr 1;omega⟩
def TT{e:Int}: ∀ {l:List Port} {i:Nat} {x:Port},x∈l->x.edge ≠ -1->x.edge=e->0<=IT e i l
 | y::l,i,x,hx,h1,h2=>by
  rw [IT]
  split
  ·omega
  ·rename_i hn
   rcases AX.1 hx with rfl|hx
   ·exact absurd ⟨h1,h2⟩ hn
   ·exact TT hx h1 h2
def Yp{s:FE}(hR:R19 s){i j:Nat}{t u:FF}(ht:s.tenants[i]? =some t)(hu:s.tenants[j]? =some u){e:Int}(h1:0<=HI t e)(h2:0<=HI u e):i=j:=by
 have key : ∀ {i j:Nat} {t u:FF},s.tenants[i]? =some t->s.tenants[j]? =some u->0<=HI t e->0<=HI u e->i<j->False:=by
  intro i j t u ht hu h1 h2 hij
  obtain ⟨a,x,x1,x2,x3,_⟩:=LY h1
  obtain ⟨b,y,y1,y2,y3,_⟩:=LY h2
  obtain ⟨k1,_,k3⟩:=hR.ckE hu
  have hy:=Tk k1 y (AB y1)
  have he:0<=e:=FO
  have hc:JW s j u=true:=by
   unfold JW
   refine CZ.2 ⟨y,AB y1,CZ.2 ⟨t, ?_, ?_⟩⟩
   ·exact AB (i:=i) (by rw [Ak,iP hij];exact ht)
   ·have hpo:0<=IM t e:=VH he (AB x1) x3
    rw [y3,decide_eq_true he,decide_eq_true hpo];rfl
  rw [hc] at k3;cases k3
 rcases ER i j with h|h|h
 ·exact (key ht hu h1 h2 h).elim
 ·exact h
 ·exact (key hu ht h2 h1 h).elim
def inE(h:FG):Int:=i64 (h.h0 - 10000)
def WI{t:FF}{h:FG}:(T7 t h).2=true↔0<=HI t (inE h):=by
 unfold T7 LK inE
 split<;>simp<;>omega
def iC{h:FG}: ∀ {l:List FF} {k:Nat} {x:Item},x∈Oy h k l -> ∃ (j:Nat) (t:FF),l[j]? =some t/\x.tenant=((k+j:Nat):Int)/\x.chain=[]/\(T7 t h).2=true/\x.head=(T7 t h).1
 | [],k,x,hx=>by rw [Oy] at hx;cases hx
 | t::l,k,x,hx=>by
  rw [Oy] at hx
  have rec':x∈Oy h (k+1) l -> ∃ (j:Nat) (u:FF),(t::l)[j]? =some u/\x.tenant=((k+j:Nat):Int)/\x.chain=[]/\(T7 u h).2=true/\x.head=(T7 u h).1:=λhx=>by
   obtain ⟨j,u,h1,h2,h3,h4,h5⟩:=iC hx
   exact ⟨j+1,u,h1,by rw [h2];congr 1;omega,h3,h4,h5⟩
  split at hx
  ·rename_i he
   rcases AX.1 hx with rfl|hx
   ·exact ⟨0,t,rfl,rfl,rfl,he,rfl⟩
   ·exact rec' hx
  ·exact rec' hx
def iB(h:FG):Nat->List FF->Int
 | _,[] => -1
 | k,t::r=>if (T7 t h).2=true then (k:Int) else iB h (k+1) r
def iA{h:FG}: ∀ {l:List FF} {k:Nat},(iB h k l = -1/\Oy h k l=[] /\ ∀ t∈l,(T7 t h).2=false) \/ ∃ (j:Nat) (t:FF),l[j]? =some t/\iB h k l=((k+j:Nat):Int)/\(T7 t h).2=true
 | [],k => .inl ⟨rfl,rfl,sm⟩
 | t::l,k=>by
  rw [iB,Oy]
  cases he:(T7 t h).2 with
  | true=>rw [iP rfl];exact .inr ⟨0,t,rfl,rfl,he⟩
  | false =>
   rw [iN dc,iN dc]
   rcases iA (h:=h) (l:=l) (k:=k+1) with ⟨h1,h2,h3⟩|⟨j,u,h1,h2,h3⟩
   ·refine .inl ⟨h1,h2,λu hu=>?_⟩
    rcases AX.1 hu with rfl|hu
    ·exact he
    ·exact h3 u hu
   ·exact .inr ⟨j+1,u,h1,by rw [h2];congr 1;omega,h3⟩
def ACK{s:FE}(hR:R19 s){h:FG}{a:Nat}{t:FF}(ha:s.tenants[a]? =some t)(he:(T7 t h).2=true):itP s a (Oy h 0 s.tenants):=by
 intro x hx
 obtain ⟨j,u,h1,h2,h3,h4,_⟩:=iC hx
 rw [AY] at h2
 have:j=a:=Yp hR h1 ha (WI.1 h4) (WI.1 he)
 subst this
 have hl:=(AC.1 h1).1
 refine ⟨FO,FO, ?_⟩
 rw [h2,h3,Int.toNat_natCast]
 rfl
def Yq(e:Int): ∀ (l:List FF) (i:Nat),(N4 e i l=(-1,-1) /\ ∀ t∈l,¬ 0<=HI t e) \/ ∃ j t,l[j]? =some t/\(N4 e i l).1=((i+j:Nat):Int)/\0<=HI t e
 | [],_ => .inl ⟨rfl,sm⟩
 | t::r,i=>by
  rw [N4]
  by_cases h:0<=HI t e
  ·rw [iP h];exact .inr ⟨0,t,rfl,rfl,h⟩
  ·rw [iN h]
   rcases Yq e r (i+1) with ⟨h2,h3⟩|⟨j,u,h1,h2,h3⟩
   ·refine .inl ⟨h2,λu hu=>?_⟩
    rcases AX.1 hu with rfl|hu
    ·exact h
    ·exact h3 u hu
   ·exact .inr ⟨j+1,u,h1,by rw [h2];congr 1;omega,h3⟩
def iD{s:FE}{t:FF}(hck:Jh s t=0){n:Int}(h:0<=He t n):0<=HI t (He t n)/\He t n<(s.network.edges.length:Int):=by
 unfold He at h ⊢
 split at h
 ·rename_i hp
  rw [iP hp]
  unfold HR at hp
  rw [AQ,decide_eq_true_eq,decide_eq_true_eq] at hp
  have hl:n.toNat<t.ports.length:=FO
  have e1:MZ t n=(t.ports[n.toNat]).edge:=by unfold MZ;rw [AL hl];rfl
  have hm:=List.getElem_mem hl
  rw [e1] at h ⊢
  exact ⟨TT hm FO rfl,(Tk hck _ hm).2⟩
 ·exact absurd h dc
def Yo{s:FE}(hR:R19 s)(hb:FR s.c<=1048576){k:Nat}{t:FF}(ht:s.tenants[k]? =some t){p:FG}(he:(qU t p).2=true):(N4 (IntKind.i64.wrap ((qU t p).1.h0 - 10000)) 0 s.tenants).1=(k:Int):=by
 have hne:s.network.edges.length<=1048576:=Vu (Nx hb)
 have h0:0<=He t p.h0:=by
  unfold qU Ow at he
  split at he
  ·cases he
  ·omega
 obtain ⟨h1,h2⟩:=iD (hR.ckE ht).1 h0
 have h3:(qU t p).1.h0=10000+He t p.h0:=by
  unfold qU Ow
  rw [iN FO]
  show i64 (10000+He t p.h0)=_
  unfold i64
  exact OA FO FO
 rw [h3,OA FO FO,show 10000+He t p.h0 - 10000=He t p.h0 by omega]
 rcases Yq (He t p.h0) s.tenants 0 with ⟨_,h4⟩|⟨j,u,h4,h5,h6⟩
 ·exact absurd h1 (h4 t (AB ht))
 ·rw [h5,AY,Yp hR h4 ht h6 h1]
def xD{s:FE}{t:FF}(h1:Jh s t=0):ZY t/\QB s.fields t.program=0/\t.ports.length<=64:=by
 unfold Jh at h1
 split at h1
 ·cases h1
 ·rename_i hlim
  split at h1
  ·rename_i hne;exact absurd h1 hne
  ·rename_i hpo
   split at h1
   ·rename_i hne;exact absurd h1 hne
   ·rename_i hpr
    have hpo:It s t=0:=by simpa using hpo
    have hpr:Mc s t=0:=by simpa using hpr
    refine ⟨?_, ?_,FO⟩
    ·intro w hw
     have hok:IU (RM t) RL t.wires=true:=by
      unfold It at hpo
      split at hpo
      ·cases hpo
      split at hpo
      ·cases hpo
      split at hpo
      ·cases hpo
      split at hpo
      ·cases hpo
      ·rename_i hne;simpa using hne
     obtain ⟨k,hk⟩:=Af hw
     have:=(mA hok k w hk).1
     unfold RM J5 HR at this
     simp only [AQ,decide_eq_true_eq] at this
     omega
    ·unfold Mc at hpr
     split at hpr
     ·rename_i hne;exact absurd hpr hne
     ·rename_i hne;simpa using hne
def AB2{x:Stp}(h:ZA x=true):(x.kind=0/\x.key.length=0)\/((1<=x.kind/\x.kind<=6)/\x.key.length<=4/\(x.kind=4->0<=x.n/\x.n<=x.m/\x.m<=65535)/\(x.kind=5->Uj x.field=true)/\(x.kind=6->(1<=x.n/\x.n<=65535)/\1<=x.m/\x.m<=1073741824)):=by
 unfold ZA at h
 split at h
 ·rename_i he
  left
  unfold cY at he
  simp only [AQ,beq_iff_eq] at he
  exact ⟨he.1.1,he.1.2.2.2.2.2⟩
 ·split at h
  ·cases h
  ·rename_i hk
   right
   have hkl:x.key.length<=4:=by
    simp only [not_or] at hk
    omega
   split at h
   ·rename_i e;exact ⟨FO,hkl,FO,FO,FO⟩
   split at h
   ·rename_i e;exact ⟨FO,hkl,FO,FO,FO⟩
   split at h
   ·rename_i e;exact ⟨FO,hkl,FO,FO,FO⟩
   split at h
   ·rename_i e
    simp only [AQ,decide_eq_true_eq] at h
    exact ⟨FO,hkl,λ_=>h.2,FO,FO⟩
   split at h
   ·rename_i e
    simp only [AQ] at h
    exact ⟨FO,hkl,FO,λ_=>h.1,FO⟩
   split at h
   ·rename_i e
    simp only [AQ,decide_eq_true_eq] at h
    exact ⟨FO,hkl,FO,FO,λ_=>⟨⟨h.2.1,h.2.2.1⟩,h.2.2.2.1,h.2.2.2.2⟩⟩
   ·cases h
def ei{l:List Fld}{s:Stp}(h:MD l s=0):okStp l s:=by
 have hf:ZA s=true:=by
  unfold MD at h
  split at h
  ·unfold cZ at h
   split at h
   ·assumption
   ·cases h
  ·rename_i hn
   simp only [not_or,ne_eq,Decidable.not_not] at hn
   have:=hn.1
   unfold cZ at this
   split at this
   ·assumption
   ·cases this
 have hall:s.kind≠0->(J0 s).all (λy=>(Fb l y).2)=true:=by
  intro h0
  unfold MD at h
  split at h
  ·rename_i hc
   rcases hc with hc|hc
   ·unfold cZ at hc
    rw [hf] at hc
    exact absurd rfl hc
   ·exact absurd hc h0
  ·split at h
   ·cases h
   ·rename_i hn;simpa using hn
 have hkey:s.kind≠0 -> ∀ nm∈s.key,(Fb l nm).2=true:=λh0 nm hm=>by
  refine An.1 (hall h0) nm ?_
  unfold J0
  split
  ·exact hm
  ·exact List.mem_append_left _ hm
 rcases AB2 hf with ⟨h0,hk⟩|⟨hkd,hk,h4,h5,h6⟩
 ·exact ⟨FO,FO,hkey,FO,FO,FO,FO⟩
 ·refine ⟨FO,FO,hkey,λhc=>?_,λe=>(h4 e).2.2,λe=>(h6 e).2,λe=>?_⟩
  ·rcases hc with e|e
   ·have:=h4 e;omega
   ·have:=(h6 e).1;omega
  ·refine An.1 (hall FO) s.field ?_
   unfold J0
   have hne:s.field≠⟨#[]⟩:=by
    intro he
    have:=h5 e
    rw [he] at this
    exact absurd this dk
   rw [iN hne]
   exact List.mem_append_right _ (Ac.2 rfl)
def QK{l:List Fld}{p:List FH}: ∀ {r:List FH} {i:Nat},K0 l p i r=true -> ∀ (k:Nat) (x:FH),r[k]? =some x -> ∀ y∈p.take (i+k),LS l y.step x.step=false
 | [],i,_,k,x,hx,_,_=>by simp at hx
 | z::r,i,h,k,x,hx,y,hy=>by
  rw [K0,AQ] at h
  match k,hx with
  | 0,hx =>
   have:z=x:=by simpa using hx
   subst this
   have h1:=h.1
   rw [Bool.not_eq_true',List.any_eq_false] at h1
   simpa using h1 y hy
  | k+1,hx =>
   exact QK h.2 k x (by simpa using hx) y (by rw [show i+1+k=i+(k+1) by omega];exact hy)
def ZH{l:List Fld}{s t:Stp}(h:LS l s t=false)(hs:s.kind≠0)(ht:t.kind≠0)(hv:s.var=t.var):s.key.length=t.key.length:=by
 unfold LS at h
 have e1:(s.kind !=0)=true:=by simpa using hs
 have e2:(t.kind !=0)=true:=by simpa using ht
 rw [e1,e2,decide_eq_true hv] at h
 have h3:UD l s t=true:=by simpa using h
 unfold UD at h3
 rw [AQ,AQ] at h3
 have h4:Iz l s.key=Iz l t.key:=by
  have:=h3.2.1
  unfold Xl at this
  exact of_decide_eq_true this
 have:=congrArg List.length h4
 unfold Iz at this
 simpa using this
def ej{l:List Fld}{p:List FH}(h:QB l p=0):okPrg l p/\p.length<=8:=by
 obtain ⟨h1,h2,h3,h4⟩:=qe h
 have hty:K0 l p 0 p=true:=by
  unfold QB at h
  split at h
  ·rename_i hn;exact absurd h hn
  split at h
  ·rename_i hn;exact absurd h hn
  split at h
  ·assumption
  ·cases h
 refine ⟨⟨λs hs=>ei (h3 s hs).2,λs hs=>(S0 (h3 s hs).1).2,λs hs t ht k1 k2 hv=>?_⟩,h1⟩
 obtain ⟨i,hi⟩:=Af hs
 obtain ⟨j,hj⟩:=Af ht
 rcases ER i j with hij|hij|hij
 ·exact ZH (QK hty j t hj s (AB (i:=i) (by rw [Ak,iP FO];exact hi))) k1 k2 hv
 ·subst hij
  rw [hi] at hj
  cases hj
  rfl
 ·exact (ZH (QK hty i s hi t (AB (i:=j) (by rw [Ak,iP FO];exact hj))) k2 k1 hv.symm).symm
def PP{s:FE}(hR:R19 s){k:Nat}{t:FF}(ht:s.tenants[k]? =some t):okPrg s.fields (Gf t).1/\(Gf t).1.length<=8/\(Gf t).1.map (·.step)=t.program.map (·.step)/\t.ports.length<=64:=by
 obtain ⟨c1,c2,_⟩:=hR.ckE ht
 obtain ⟨w1,w2,w3⟩:=xD c1
 rcases ku w1 w2 with ⟨g1,_,_⟩|⟨_,g2,g3⟩
 ·rw [g1] at c2;cases c2
 ·obtain ⟨o1,o2⟩:=ej g2
  exact ⟨o1,o2,g3,w3⟩
set_option maxRecDepth 50000
structure okSts (s:FE) (sts:List (List FI)):Prop where
 len:sts.length=s.tenants.length
 st : ∀ (k:Nat) (t:FF) (st:List FI),s.tenants[k]? =some t->sts[k]? =some st->(∀ e∈st,ep e /\ ∀ x∈t.program,Ys x.step e)/\st.length<=60
def zh{h:FG}(hr:FX h=true):FX { h with h9:=0 }=true:=by
 unfold FX at hr ⊢
 simp only [Head.l,List.all_cons,List.all_nil,Bool.and_true,AQ] at hr ⊢
 exact ⟨hr.1,hr.2.1,hr.2.2.1,hr.2.2.2.1,hr.2.2.2.2.1,hr.2.2.2.2.2.1,hr.2.2.2.2.2.2.1,hr.2.2.2.2.2.2.2.1,hr.2.2.2.2.2.2.2.2.1,dc⟩
def wz{t:FF}{h:FG}(hp:t.ports.length<=64)(hr:FX h=true)(he:(T7 t h).2=true):FX (T7 t h).1=true:=by
 have h1:=WI.1 he
 obtain ⟨j,x,h2,_,_,h3⟩:=LY h1
 have hj:=(AC.1 h2).1
 have h4:HI t (inE h)=((0+j:Nat):Int):=h3
 unfold T7 LK
 have h5:HI t (i64 (h.h0 - 10000))=((0+j:Nat):Int):=h4
 rw [iN FO,h5]
 exact zh (dQ hr FO FO)
def AAn{s:FE}(hR:R19 s)(hf:IY s=true)(hb:FR s.c<=1048576){sts:List (List FI)}(hs:okSts s sts){h:FG}(hr:FX h=true){tick:Int}(ht:0<=tick/\tick<=1073741824):okRun s sts h tick:=by
 have hbt : ∀ t∈s.tenants,FR t.c<=1048576:=λt hm=>by
  have h1:=Nc (HA hb) hm
  simpa only [AV.bulk] using h1
 have hnt:s.tenants.length<=8:=by
  unfold IY at hf
  simp only [AQ,decide_eq_true_eq] at hf
  have:=hf.2.2.1
  omega
 have hprt : ∀ t∈s.tenants,t.ports.length<=64:=λt hm=>by
  obtain ⟨k,hk⟩:=Af hm
  exact (PP hR hk).2.2.2
 refine ⟨hb,hR.fld,FO,ht,hs.len,λk t hk=>⟨(PP hR hk).1,by have:=(PP hR hk).2.1;omega⟩,λt hm=>?_,λk t st h1 h2=>?_,λc hc=>hR.pred hc,λc hc=>?_,λc hc=>?_,λt hm=>by have:=hprt t hm;omega,λt hm he=>wz (hprt t hm) hr he⟩
 ·have hbm:=hbt t hm
  refine AEs t (AK (Oc (Ib hbm)) dc) (AK (Mv (Hb hbm)) dc) λx hx=>ZN ?_ (Oc (Ib hbm))
  have h1:=KW (Hb hbm) hx
  have h2:FR x.c<=1048576:=by simpa only [AV.bulk] using h1
  exact Hu h2
 ·obtain ⟨g1,g2⟩:=hs.st k t st h1 h2
  refine ⟨λe he=>⟨(g1 e he).1,λx hx=>?_⟩,FO⟩
  have hmap:=(PP hR h1).2.2.1
  have:x.step∈t.program.map (·.step):=by rw [<- hmap];exact AP.2 ⟨x,hx,rfl⟩
  obtain ⟨y,hy,hxy⟩:=AP.1 this
  rw [<- hxy]
  exact (g1 e he).2 y hy
 ·have h0:=(L4 (hR.con c hc)).2
  have hl:=WK hR hc
  exact ⟨h0,FO⟩
 ·have h1:=hR.con c hc
  have hl:=WK hR hc
  have h0:=(L4 h1).2
  unfold Sx at h1
  split at h1
  ·cases h1
  split at h1
  ·cases h1
  rename_i hn
  have hn:eN (HL s (GO s c.dst)) c.toPort=true:=by
   cases ho:eN (HL s (GO s c.dst)) c.toPort with
   | true=>rfl
   | false=>exact absurd (.inr (.inr ho)) hn
  unfold eN at hn
  simp only [AQ,decide_eq_true_eq] at hn
  obtain ⟨u,hu⟩ : ∃ u,s.tenants[(GO s c.dst).toNat]? =some u:=⟨_,AL hl⟩
  have ht2:HL s (GO s c.dst)=u:=by unfold HL;rw [hu];rfl
  rw [ht2] at hn
  have:=hprt u (AB hu)
  omega
def xZ{s:FE}{sts:List (List FI)}{h:FG}{tick:Int}(he:Oy h 0 s.tenants=[]):UB s sts h tick=some ([],sts):=by
 unfold UB
 rw [he]
 rfl
def xY{s:FE}(hR:R19 s){sts:List (List FI)}{h:FG}{tick:Int}{a:Nat}{t:FF}(ha:s.tenants[a]? =some t)(he:(T7 t h).2=true){r:List FJ×List (List FI)}(hr:UB s sts h tick=some r):
  dlP s a r.1/\r.2.length=sts.length /\ ∀ k,(∀ c,¬ SW s a c k)->r.2[k]? =sts[k]? :=
 qq hR 600 0 (ACK hR ha he) (λd hd=>by cases hd) hr
def Xq(a:FL):Bool:=FX a.head&&(a.head.h9==0&&(decide (0<=a.tick)&&decide (a.tick<=1073741824)))
def xX(a:FL):FQ AA 15 [.agg a.c] (.bool (Xq a)):=by
 have c1:=xQ a.head
 refine pC AYv rfl ?_
 simp only [f15,go_sem]
 repeat' (first|(refine pK (c1) ?_;simp only [go_sem])|(first|apply cS|apply gS)<;>intro hc<;>simp only [go_sem,hc])
 all_goals first
  | rfl
  | (simp only [Xq];rfl)
  | grind [Xq]
  | (simp only [Xq];grind)
  | (simp [Xq, *];done)
  | (simp_all [Xq];done)
  | skip
def xU(s:FE)(hn:s.tenants.length<=1073741824)(hp : ∀ t∈s.tenants,t.ports.length<=1073741824)(h:FG):FQ AA 7 [.agg s.c,.agg h.c] (.int .i64 (iB h 0 s.tenants)):=by
 refine pC AdK rfl ?_
 simp only [f7,go_sem]
 have gN : ∀ a b (L:FP) z,(a::b::(L++[z]))[List.length (a::b::L)]? =some z:=λa b L z=>by
  have:a::b::(L++[z])=(a::b::L)++[z]:=sm
  rw [this];exact BT
 have sN : ∀ a b (L:FP) z z2,(a::b::(L++[z])).set (List.length (a::b::L)) z2=a::b::(L++[z2]):=λa b L z z2=>by
  have:a::b::(L++[z])=(a::b::L)++[z]:=sm
  rw [this];simp
 refine Fm s.tenants (λ(_:FP) (r:List FF)=>iB h (s.tenants.length - r.length) r) (λ_ _=>True) (λk _=>[(3,.ptr 1 0),(10,.sl none (HQ s.tenants)),(11,.int .i64 s.tenants.length),(12,.int .i64 k)])
  (λ_ L=>some s.c::some h.c::L) [] FO trivial rfl rfl ?_ ?_
 ·intro k L t ts hd hx _ hF h0 h1 hw
  have c1:=qo t (hp t (AB hx)) h
  have eT:LK (HI t (i64 (h.h0 - 10000))) h=T7 t h:=rfl
  rw [eT] at c1
  have hk2:=Fl hd
  have e1:s.tenants.length - (ts.length+1)=k:=FO
  have e2:s.tenants.length - ts.length=k+1:=FO
  simp only [AD,e1,e2] at hF ⊢
  simp only [go_sem,h0,h1,F2 hx,gN,sN]
  refine pK c1 ?_
  cases he:(T7 t h).2 with
  | true =>
   simp only [go_sem,gN,sN,he]
   rw [AO] at hF
   rw [hF,iB,iP he]
  | false =>
   simp only [go_sem,gN,sN,he,hw]
   exact ⟨_,by rw [e1,e2,iB,iN (by rw [he];decide)],rfl,rfl⟩
 ·intro L _ hF
  simp only [go_sem,AW,dF]
  rw [AO] at hF
  rw [hF];rfl
def w8(a:ByteArray):ak a a=0:=by unfold ak;rw [Z7,iN dc,iP rfl]
def ZF(x:Int):Ps x x=0:=by unfold Ps;simp
def Sy : ∀ l:List Int,OJ l l=0
 | []=>rfl
 | x::l=>by rw [OJ,ZF,iN dc];exact Sy l
def w7(e:FI):Sz e e=0:=by unfold Sz;rw [w8,iN dc,Sy]
def ACp(a b:List Int)(ha:a.length<=1073741824):FQ AA 61 [.sl none (GB a),.sl none (GB b)] (.int .i64 (OJ a b)):=by
 have ea:(GB a).length=a.length:=HM a
 have eb:(GB b).length=b.length:=HM b
 refine pC AXM rfl ?_
 simp only [f61,go_sem]
 refine Fm a (λ(_:Unit) r=>OJ r (b.drop (a.length - r.length))) (λk _=>k<=b.length) (λk _=>[(0,.sl none (GB a)),(1,.sl none (GB b)),(5,.int .i64 k)]) (λ_ _=>[]) () FO (Nat.zero_le _) rfl rfl ?_ ?_
 ·intro k _ x xs hd hx hI hF h0 h1 hw
  have hk:=Fl hd
  have e1:a.length - (xs.length+1)=k:=FO
  have e2:a.length - xs.length=k+1:=FO
  simp only [AD,e1,e2,AO,BO] at hF ⊢
  by_cases hkb:k<b.length
  ·obtain ⟨y,hy⟩ : ∃ y,b[k]? =some y:=⟨_,AL hkb⟩
   have hnb:(k:Int)<(b.length:Int):=FO
   rw [Uk hy,OJ] at hF
   simp only [go_sem,h0,h1,GI hx,GI hy,ea,eb,hnb,dT]
   repeat' (first|(first|apply cS|apply gS)<;>intro hc<;>simp only [go_sem,hc,h0,h1,GI hx,GI hy,ea,eb,hnb,hw])
   ·have hc:=of_decide_eq_true hc
    have e3:Ps x y = -1:=by unfold Ps;rw [iP hc]
    rw [e3,iP dc] at hF
    rw [hF]
   ·rename_i hc1
    have hc1:=of_decide_eq_false hc1
    have hc2:=of_decide_eq_true hc
    have e3:Ps x y=1:=by unfold Ps;rw [iN hc1];first|rw [iP hc2]|rw [iN FO]
    rw [e3,iP dc] at hF
    rw [hF]
   ·rename_i hc1
    have hc1:=of_decide_eq_false hc1
    have hc2:=of_decide_eq_false hc
    have:x=y:=FO
    subst this
    rw [e1,e2,Uk hy,OJ,ZF,iN dc]
    exact ⟨(),rfl,FO⟩
  ·have hnb : ¬ (k:Int)<(b.length:Int):=FO
   rw [List.drop_eq_nil_of_le FO,OJ] at hF
   have l1 : ¬ (a.length:Int)<(b.length:Int):=FO
   have l2:(b.length:Int)<(a.length:Int):=FO
   simp only [go_sem,h0,h1,GI hx,ea,eb,hnb,dF,l1,l2,dT]
   rw [hF]
 ·intro _ hI hF
  rw [AO,BO,AH,Nat.sub_zero] at hF
  simp only [go_sem,AW,dF,ea,eb]
  cases hr:b.drop a.length with
  | nil =>
   have hlen:b.length<=a.length:=by simpa using hr
   rw [hr,OJ] at hF
   have l1 : ¬ (a.length:Int)<(b.length:Int):=FO
   have l2 : ¬ (b.length:Int)<(a.length:Int):=FO
   simp only [go_sem,l1,l2,dF,ea,eb]
   rw [hF]
  | cons y ys =>
   have hlen:a.length<b.length:=by have:=Fl hr;omega
   have l1:(a.length:Int)<(b.length:Int):=FO
   rw [hr,OJ] at hF
   simp only [go_sem,l1,dT]
   rw [hF]
def ACm(l:List FI)(hl:l.length<=1073741824)(hk : ∀ e∈l,e.key.length<=1073741824)(hK : ∀ a:List Int,a.length<=1073741824->FQ AA 61 [.sl none (GB a),.sl none (GB a)] (.int .i64 0)):FQ AA 33 [.sl none (FZ l),.sl none (FZ l)] (.bool true):=by
 have el:(FZ l).length=l.length:=H7 l
 have n0:((l.length:Int) !=(l.length:Int))=false:=sm
 refine pC AYQ rfl ?_
 simp only [f33,go_sem,el,n0]
 refine Fm l (λ(_:Unit) _=>()) (λ_ _=>True) (λk _=>[(0,.sl none (FZ l)),(1,.sl none (FZ l)),(5,.int .i64 k)]) (λ_ _=>[]) () FO trivial rfl rfl ?_ ?_
 ·intro k _ x xs hd hx _ _ h0 h1 hw
  have c1:=hK x.key (hk x (AB hx))
  have v0:(x.var.toList==x.var.toList)=true:=sm
  have v1:(x.n !=x.n)=false:=sm
  have v2:(x.at_ !=x.at_)=false:=sm
  simp only [go_sem,h0,h1,F8 hx,el,v0,v1,v2,Av]
  refine pK c1 ?_
  have z0:((0:Int) !=0)=false:=rfl
  simp only [go_sem,z0,hw]
  exact ⟨(),trivial⟩
 ·intro _ _ _
  simp only [go_sem,AW,dF,el]
def xW(l:List FI)(hl:l.length<=1073741824)(hk : ∀ e∈l,e.key.length<=1073741824):FQ AA 33 [.sl none (FZ l),.sl none (FZ l)] (.bool true) :=
 ACm l hl hk λa ha=>by
  have:=ACp a a ha
  rwa [Sy] at this
def xV(l:List (List FI))(hl:l.length<=1073741824)(hk : ∀ x∈l,x.length<=1073741824 /\ ∀ e∈x,e.key.length<=1073741824):FQ AA 8 [.sl none (Gu l),.sl none (Gu l)] (.bool true):=by
 have el:(Gu l).length=l.length:=RY l
 have n0:((l.length:Int) !=(l.length:Int))=false:=sm
 refine pC AdH rfl ?_
 simp only [f8,go_sem,el,n0]
 refine Fm l (λ(_:Unit) _=>()) (λ_ _=>True) (λk _=>[(0,.sl none (Gu l)),(1,.sl none (Gu l)),(5,.int .i64 k)]) (λ_ _=>[]) () FO trivial rfl rfl ?_ ?_
 ·intro k _ x xs hd hx _ _ h0 h1 hw
  have hx2:=hk x (AB hx)
  have c1:=xW x hx2.1 hx2.2
  simp only [go_sem,h0,h1,Mu hx,el]
  refine pK c1 ?_
  simp only [go_sem,hw,Av]
  exact ⟨(),trivial⟩
 ·intro _ _ _
  simp only [go_sem,AW,dF,el]
def AF3(a b:FI)(ha:a.key.length<=1073741824):FQ AA 142 [.agg a.c,.agg b.c] (.int .i64 (Sz a b)):=by
 have c1:=ACp a.key b.key ha
 refine pC APc rfl ?_
 simp only [f142,go_sem]
 repeat' (first|(refine pK (c1) ?_;simp only [go_sem,FN])|(first|apply cS|apply gS)<;>intro hc<;>simp only [go_sem,hc,FN])
 ·have h1:TV a.var b.var=true:=hc
  simp [Sz,ak,h1]
 ·rename_i hc1
  have h1:TV a.var b.var=false:=hc1
  have h2 : ¬ a.var=b.var:=by simpa using hc
  simp [Sz,ak,h1,h2]
 ·rename_i hc1
  have h1:TV a.var b.var=false:=hc1
  have h2:a.var=b.var:=by simpa using hc
  simp [Sz,ak,h1,h2,Z7]
def AEv(a:FI)(ha:a.key.length<=1073741824):FQ AA 36 [.agg a.c,.agg a.c] (.bool true):=by
 have c1:=lc a a ha
 rw [w7] at c1
 have v1:(a.n==a.n)=true:=sm
 have v2:(a.at_==a.at_)=true:=sm
 have v3:((0:Int)==0)=true:=rfl
 refine pC AYF rfl ?_
 simp only [f36,go_sem]
 refine pK c1 ?_
 simp only [go_sem,v1,v2,v3]
def AAX(l:List FI)(hl:l.length<=1073741824)(hk : ∀ e∈l,e.key.length<=1073741824):FQ AA 35 [.sl none (FZ l),.sl none (FZ l),.fn (.func 36) [] []] (.bool true):=by
 have el:(FZ l).length=l.length:=H7 l
 have n0:((l.length:Int) !=(l.length:Int))=false:=sm
 refine pC AYK rfl ?_
 simp only [f35,go_sem,el,n0]
 refine Fm l (λ(_:Unit) _=>()) (λ_ _=>True) (λk _=>[(1,.sl none (FZ l)),(2,.fn (.func 36) [] []),(15,.sl none (FZ l)),(16,.int .i64 l.length),(17,.int .i64 k)]) (λ_ _=>[]) () FO trivial rfl rfl ?_ ?_
 ·intro k _ x xs hd hx _ _ h0 h1 hw
  have c1:=AEv x (hk x (AB hx))
  simp only [go_sem,h0,h1,F8 hx,el,AF,AD,AH,AY,Nat.reduceAdd]
  refine Fr.pure c1 ?_
  simp only [go_sem,hw,Av]
  exact ⟨(),trivial⟩
 ·intro _ _ _
  simp only [go_sem,AW,dF,el]
def AEu(l:List FI)(hl:l.length<=1073741824)(hk : ∀ e∈l,e.key.length<=1073741824):FQ AA 10 [.sl none (FZ l),.sl none (FZ l)] (.bool true):=by
 refine pC AZB rfl ?_
 simp only [f10,go_sem]
 repeat' (first|(refine pK (AAX l hl hk) ?_;simp only [go_sem])|(first|apply cS|apply gS)<;>intro hc<;>simp only [go_sem,hc])
def OE(l:List FM):List AV:=l.map λx => .agg x.c
@[go_sem] def fM(l:List FM):(OE l).length=l.length:=by simp [OE]
def Ve{l:List FM}{i:Nat}{x:FM}(h:l[i]? =some x):(OE l)[i]? =some (.agg x.c):=by simp [OE,h]
@[go_sem] def AUM(a:List FM)(x:FM):OE a++[.agg x.c]=OE (a++[x]):=by simp [OE]
@[go_sem] def sg(l:List FM):A' (OE l)=true:=by
 induction l with
 | nil=>rfl
 | cons x xs ih=>simpa [OE,A',AV.pure] using ⟨UI x,ih⟩
def nv(l:List FM)(hl:l.length<=1073741824)(v:ByteArray):FQ AA 140 [.sl none (OE l),.str v] (.int .i64 (H8 (λx:FM=>decide (x.name=v)) l)):=by
 have el:(OE l).length=l.length:=fM l
 refine pC APi rfl ?_
 simp only [f140,go_sem]
 refine Fa l (λr=>HN (λx:FM=>decide (x.name=v)) (l.length - r.length) r) (λk=>[(0,.sl none (OE l)),(1,.str v),(5,.int .i64 k)]) FO rfl ?_ ?_
 ·intro k x xs hd hx hF h0 h1 hw
  have hk2:=Fl hd
  have e1:l.length - (xs.length+1)=k:=FO
  have e2:l.length - xs.length=k+1:=FO
  simp only [AD,e1,AO] at hF
  simp only [go_sem,h0,h1,Ve hx,el,e1,e2,FN]
  repeat' (first|(first|apply cS|apply gS)<;>intro hc<;>simp only [go_sem,hc,h0,h1,hw,Ve hx,el,e1,e2])
  ·rw [H8,hF,HN,iP hc]
  ·rw [HN,iN (by rw [hc];decide)]
 ·intro hF hlt
  simp only [go_sem,hlt,dF,el]
  rw [AO] at hF
  rw [H8,hF];rfl
def AFz(l:List FI)(hl:l.length<=1073741824)(v:ByteArray):FQ AA 143 [.sl none (FZ l),.str v] (.int .i64 (XX l v).length):=by
 have el:(FZ l).length=l.length:=H7 l
 refine pC APZ rfl ?_
 simp only [f143,go_sem]
 refine Fm l (λ(_:Unit) _=>()) (λ_ _=>True) (λk _=>[(0,.sl none (FZ l)),(1,.str v),(5,.int .i64 (XX (l.take k) v).length),(6,.int .i64 k)]) (λ_ _=>[]) () FO trivial rfl rfl ?_ ?_
 ·intro k _ x xs hd hx _ _ h0 h1 hw
  have hkl:=(AC.1 hx).1
  have hle:(XX (l.take k) v).length<=k:=AK (List.length_filter_le _ _) (by rw [BC];omega)
  have hw2:IntKind.i64.wrap (((XX (l.take k) v).length:Int)+1)=(((XX (l.take k) v).length+1:Nat):Int):=Mk FO
  have htk:l.take (k+1)=l.take k++[x]:=by rw [BE,hx];rfl
  simp only [go_sem,h0,h1,F8 hx,el,FN]
  repeat' (first|(first|apply cS|apply gS)<;>intro hc<;>simp only [go_sem,hc,h0,h1,hw,hw2,F8 hx,el])
  ·have hv:x.var=v:=of_decide_eq_true hc
   have:XX (l.take (k+1)) v=XX (l.take k) v++[x]:=by rw [htk];unfold XX;rw [Cb];simp [hv]
   rw [this]
   exact ⟨(),by first|rw [AF];rfl|rfl,rfl⟩
  ·have hv : ¬ x.var=v:=of_decide_eq_false hc
   have:XX (l.take (k+1)) v=XX (l.take k) v:=by rw [htk];unfold XX;rw [Cb];simp [hv]
   rw [this]
   exact ⟨(),by first|rw [AF];rfl|rfl,rfl⟩
 ·intro _ _ _
  simp only [go_sem,AW,dF,el,BH]
def xT(n:Int)(hn:n<9223372036854775807):FQ AA 211 [.int .i64 n] (.int .i64 (XM n.toNat)):=by
 refine pC AMi rfl ?_
 simp only [f211,go_sem]
 refine bD n.toNat (λk=>[(0,.int .i64 n),(3,.int .i64 (XM k)),(4,.int .i64 k)]) (λ_=>[]) rfl rfl ?_
 intro k hk
 by_cases h:(k:Int)<n
 ·have hw:=Mk (k:=k) FO
  simp only [go_sem,h,dT,hw]
  exact ⟨FO,rfl,rfl⟩
 ·have:k=n.toNat:=FO
  subst this
  simp only [go_sem,h,dF]
def nI(v:FM)(e:FI):Prop:=e.key.length=v.widths.length/\(0<=e.n/\e.n<=65535)/\(0<=e.at_/\e.at_<=1073741824) /\ ∀ x∈e.key,0<=x
def AH4(v:FM)(hw : ∀ w∈v.widths,w<9223372036854775807)(e:FI)(hk:e.key.length<=1073741824)(l:List FI)(hl:l.length<=1073741824):KL AA 141 [.agg v.c,.agg e.c,.sl none (FZ l)] λr => ∃ b,r = .bool b/\(b=true->nI v e):=by
 have el:(FZ l).length=l.length:=H7 l
 have ek:(GB e.key).length=e.key.length:=HM _
 have ew:(GB v.widths).length=v.widths.length:=HM _
 refine qC APf rfl ?_
 by_cases hb:e.key.length=v.widths.length/\(0<=e.n/\e.n<=65535)/\(0<=e.at_/\e.at_<=1073741824)
 ·obtain ⟨b0,⟨b1,b2⟩,b3,b4⟩:=hb
  have n0:((e.key.length:Int) !=(v.widths.length:Int))=false:=by simp [b0]
  have n1 : ¬ e.n<0:=FO
  have n2 : ¬ 65535<e.n:=FO
  have n3 : ¬ e.at_<0:=FO
  have n4 : ¬ 1073741824<e.at_:=FO
  simp only [f141,go_sem,ek,ew,n0,n1,n2,n3,n4,dF]
  refine Fm e.key (λ(_:Unit) _=>()) (λk _ => ∀ x∈e.key.take k,0<=x) (λk _=>[(2,.sl none (FZ l)),(3,.ptr 0 0),(4,.ptr 1 0),(7,.int .i64 k)]) (λ_ _=>[some v.c,some e.c]) () FO sm rfl rfl ?_ ?_
  ·intro k _ x xs hd hx hI _ h0 h1 hw1
   obtain ⟨w,hwx⟩ : ∃ w,v.widths[k]? =some w:=⟨_,AL (by have:=(AC.1 hx).1;omega)⟩
   have hkw:(k:Int)<(v.widths.length:Int):=FO
   have c1:=xT w (hw w (AB hwx))
   have htk:e.key.take (k+1)=e.key.take k++[x]:=by rw [BE,hx];rfl
   simp only [go_sem,h0,h1,ek,ew,GI hx,GI hwx,hkw]
   repeat' (first|(refine pK (c1) ?_;simp only [go_sem,h0,h1,hw1,ek,ew,GI hx,GI hwx,hkw])|(first|apply cS|apply gS)<;>intro hc<;>simp only [go_sem,hc,h0,h1,hw1,ek,ew,GI hx,GI hwx,hkw])
   all_goals first|exact ⟨rfl,false,rfl,sm⟩|skip
   ·rename_i hc1
    refine ⟨(),λy hy=>?_⟩
    rw [htk] at hy
    rcases As.1 hy with hy|hy
    ·exact hI y hy
    ·rcases Ac.1 hy with rfl
     have:=of_decide_eq_false hc1
     omega
  ·intro _ hI _
   have hq:nI v e:=⟨b0,⟨b1,b2⟩,⟨b3,b4⟩,by rw [BH] at hI;exact hI⟩
   simp only [go_sem,AW,dF,ek]
   repeat' (first|(first|apply cS|apply gS)<;>intro hc<;>simp only [go_sem,hc,ek,el])
   all_goals first|exact ⟨rfl,_,rfl,λ_=>hq⟩|skip
   refine Fm l (λ(_:Unit) _=>()) (λ_ _=>True) (λk _=>[(2,.sl none (FZ l)),(3,.ptr 0 0),(4,.ptr 1 0),(8,.int .i64 k)]) (λ_ _=>[some v.c,some e.c]) () FO trivial rfl rfl ?_ ?_
   ·intro k _ x xs hd hx _ _ h0 h1 hw1
    simp only [go_sem,h0,h1,el,F8 hx]
    repeat' (first|(first|apply cS|apply gS)<;>intro hc<;>simp only [go_sem,hc,h0,h1,hw1,el,F8 hx])
    all_goals first|exact ⟨rfl,_,rfl,λ_=>hq⟩|exact ⟨(),trivial⟩|skip
   ·intro _ _ _
    simp only [go_sem,AW,dF,el]
    repeat' (first|(first|apply cS|apply gS)<;>intro hc<;>simp only [go_sem,hc,el])
    all_goals first|exact ⟨rfl,_,rfl,λ_=>hq⟩|skip
 ·simp only [f141,go_sem,ek,ew]
  repeat' (first|(first|apply cS|apply gS)<;>intro hc<;>simp only [go_sem,hc,ek,ew])
  all_goals first|exact ⟨rfl,false,rfl,sm⟩|skip
  rename_i g1 g2 g3 g4
  have g1:(e.key.length:Int)=(v.widths.length:Int):=by simpa using g1
  have g2:=of_decide_eq_false g2
  have g3:=of_decide_eq_false g3
  have g4:=of_decide_eq_false g4
  have g5:=of_decide_eq_false hc
  exact absurd ⟨FO,⟨FO,FO⟩,FO,FO⟩ hb
def Ab3(l:List FI):Prop:=∀ (k:Nat) (y x:FI),l[k]? =some y->l[k+1]? =some x->Sz y x<0
def gJ:Hint:={ h77 with pc:=[20,49,60] }
@[go_sem] def AcW(k:Nat):gJ.lv k=h77.lv k/\gJ.ct k=h77.ct k/\gJ.at k=h77.at k/\gJ.dn k=h77.dn k:=⟨AG rfl rfl,AG rfl rfl,AG rfl rfl,AG rfl rfl⟩
@[go_sem] def AdB:gJ.tk=[]/\gJ.mt=[]/\gJ.pc=[20,49,60]:=⟨rfl,rfl,rfl⟩
def AIk:FK AA 77 f77 gJ:=⟨kr,kr,func77,kr⟩
def rm(vs:List FM)(hv:vs.length<=1073741824)(hw : ∀ v∈vs,∀ w∈v.widths,w<9223372036854775807)(l:List FI)(hl:l.length<=1073741824)(hk : ∀ e∈l,e.key.length<=1073741824):KL AA 77 [.sl none (OE vs),.sl none (FZ l)] λr => ∃ n,r = .int .i64 n/\(n=0->(∀ e∈l,∃ v∈vs,v.name=e.var/\nI v e)/\Ab3 l):=by
 have el:(FZ l).length=l.length:=H7 l
 have ev:(OE vs).length=vs.length:=fM vs
 refine qC AIk rfl ?_
 simp only [f77,go_sem]
 refine Fm l (λ(_:Unit) _=>()) (λk _=>(∀ e∈l.take k,∃ v∈vs,v.name=e.var/\nI v e) /\ ∀ (i:Nat) (y z:FI),i+1<k->l[i]? =some y->l[i+1]? =some z->Sz y z<0) (λk _=>[(0,.sl none (OE vs)),(1,.sl none (FZ l)),(5,.int .i64 k)]) (λ_ _=>[]) () FO ⟨sm,λi y z hi=>FO⟩ rfl rfl ?_ ?_
 ·rintro k _ x xs hd hx ⟨hI,hJ⟩ _ h0 h1 hw1
  have hkx:=hk x (AB hx)
  have c1:=nv vs hv x.var
  have htk:l.take (k+1)=l.take k++[x]:=by rw [BE,hx];rfl
  have hkl:=(AC.1 hx).1
  have hkle:(k:Int)<=(l.length:Int):=FO
  have htl:(l.take k).length<=1073741824:=by rw [BC];omega
  have c3:=AFz (l.take k) htl x.var
  have htl2:(FZ (l.take k)).length=k:=by rw [H7,BC];omega
  simp only [go_sem,h0,h1,el,F8 hx]
  refine pK c1 ?_
  rcases Lz (λv:FM=>decide (v.name=x.var)) vs 0 with ⟨w1,w2⟩|⟨i,v,w1,w2,w3⟩
  ·have e1:H8 (λv:FM=>decide (v.name=x.var)) vs = -1:=w1
   rw [e1]
   have z1:(-1:Int)<0:=dc
   simp only [go_sem,z1,dT]
   exact ⟨rfl,4,rfl,λh=>absurd h dc⟩
  ·have e1:H8 (λv:FM=>decide (v.name=x.var)) vs=(i:Int):=by rw [H8,w1,AY]
   have hvm:=AB w2
   have hvn:v.name=x.var:=by have:=List.find?_some w3;simpa using this
   have hiv:(i:Int)<(vs.length:Int):=by have:=(AC.1 w2).1;omega
   have i0:(0:Int)<=(i:Int):=FO
   have i1 : ¬ (i:Int)<0:=FO
   have q1:=AH4 v (hw v hvm) x hkx (l.take k) htl
   rw [e1]
   have hkne : ¬ ((k:Int)=(l.length:Int)):=FO
   have hnx:nI v x->(∀ y,0<k->l[k - 1]? =some y->Sz y x<0)->(∀ e∈l.take (k+1),∃ v∈vs,v.name=e.var/\nI v e) /\ ∀ (i:Nat) (y z:FI),i+1<k+1->l[i]? =some y->l[i+1]? =some z->Sz y z<0:=λhf hq=>⟨λe he=>by
    rw [htk] at he
    rcases As.1 he with he|he
    ·exact hI e he
    ·rcases Ac.1 he with rfl
     exact ⟨v,hvm,hvn,hf⟩,λi y z hi hy hz=>by
    by_cases hik:i+1<k
    ·exact hJ i y z hik hy hz
    ·have hik:i+1=k:=FO
     rw [hik,hx] at hz
     cases hz
     exact hq y FO (by rw [<- hik];exact hy)⟩
   simp only [go_sem,i0,i1,hiv,dF,Ve w2,h0,h1,el,ev,hkle,hkne,F8 hx]
   refine LD q1 λr hr=>?_
   obtain ⟨b,rfl,hb⟩:=hr
   cases b with
   | false =>
    simp only [go_sem,Ax]
    exact ⟨rfl,1,rfl,λh=>absurd h dc⟩
   | true =>
    have hnx:=hnx (hb rfl)
    rcases Nat.eq_zero_or_pos k with hz|hz
    ·have hnx:=hnx λy hk0=>FO
     have g0 : ¬ (0:Int)<(k:Int):=FO
     simp only [go_sem,Av,g0,dF,h0,h1,el,hkle,hkne,F8 hx]
     repeat' (first|(refine pK (c3) ?_;simp only [go_sem,h0,h1,hw1,el,hkle,hkne,F8 hx])|(first|apply cS|apply gS)<;>intro hc<;>simp only [go_sem,hc,h0,h1,hw1,el,hkle,hkne,F8 hx])
     all_goals first|exact ⟨rfl,2,rfl,λh=>absurd h dc⟩|exact ⟨(),hnx,rfl,rfl⟩|exact ⟨(),hnx⟩
    ·have g0:(0:Int)<(k:Int):=FO
     obtain ⟨y,hy⟩ : ∃ y,l[k - 1]? =some y:=⟨_,AL FO⟩
     have c2:=AF3 y x (hk y (AB hy))
     have hwk:IntKind.i64.wrap ((k:Int) - 1)=((k - 1:Nat):Int):=by rw [OA FO FO];omega
     have g1:(0:Int)<=((k - 1:Nat):Int):=FO
     have g2:((k - 1:Nat):Int)<(l.length:Int):=FO
     simp only [go_sem,Av,g0,g1,g2,hwk,dT,h0,h1,el,hkle,hkne,F8 hx,F8 hy]
     repeat' (first|((first|refine pK (c2) ?_|refine pK (c3) ?_);simp only [go_sem,h0,h1,hw1,g1,g2,hwk,el,hkle,hkne,F8 hx,F8 hy])|(first|apply cS|apply gS)<;>intro hc<;>simp only [go_sem,hc,h0,h1,hw1,g1,g2,hwk,el,hkle,hkne,F8 hx,F8 hy])
     all_goals first|exact ⟨rfl,10,rfl,λh=>absurd h dc⟩|exact ⟨rfl,2,rfl,λh=>absurd h dc⟩|exact ⟨(),hnx (λy2 _ hy2=>by rw [hy] at hy2;cases hy2;simp only [decide_eq_false_iff_not] at *;omega),rfl,rfl⟩|exact ⟨(),hnx (λy2 _ hy2=>by rw [hy] at hy2;cases hy2;simp only [decide_eq_false_iff_not] at *;omega)⟩
 ·rintro _ ⟨hI,hJ⟩ _
  simp only [go_sem,AW,dF,el]
  rw [BH] at hI
  exact ⟨rfl,0,rfl,λ_=>⟨hI,λi y z hy hz=>hJ i y z (AC.1 hz).1 hy hz⟩⟩
def geB(a b:ByteArray):Bool:=!TV a b
def Jb(n:ByteArray):Bool->List ByteArray->List ByteArray
 | d,[]=>if d then [] else [n]
 | d,x::r=>(if geB x n=true/\d=false then [n] else [])++((if x≠n then [x] else [])++Jb n (d||geB x n) r)
def ST(l:List ByteArray)(n:ByteArray):List ByteArray:=Jb n false l
def ATJ(l:List ByteArray)(n:ByteArray)(hl:l.length<=1073741824):FQ AA 144 [.sl none (HD l),.str n] (.sl none (HD (ST l n))):=by
 have el:(HD l).length=l.length:=Lw l
 refine pB APW rfl ?_
 simp only [f144,go_sem]
 refine Fm l (λ(s:List ByteArray×Bool) r=>s.1++Jb n s.2 r) (λk s=>s.1.length<=2*k) (λk s=>[(0,.sl none (HD l)),(1,.str n),(5,.sl (some 1) (HD s.1)),(6,.bool s.2),(7,.int .i64 k)]) (λk o=>[]) ([],false) FO sm rfl rfl ?_ ?_
 ·rintro k ⟨o,d⟩ y ys hd hx hI hF h0 h1 hw
  dsimp only at hI hF ⊢
  have hk2:=Fl hd
  obtain ⟨g1,g2,g3,g4,g5⟩:(o.length+1)*16<=140737488355328/\o.length<=9223372036854775806/\(o.length+1+1)*16<=140737488355328/\o.length+1<=9223372036854775806/\o.length<=9223372036854775805:=by
   have hm:o.length<=2147483648:=AK hI FO
   generalize o.length=m at hm
   omega
  simp only [go_sem,h0,h1,Fv hx,el]
  repeat' (first|(first|apply cS|apply gS)<;>intro hc<;>simp only [go_sem,hc,h0,h1,hw,Fv hx,el,FN,AF,Bt,g1,g2,g3,g4,g5])
  all_goals first
   | exact ⟨(o++[n,y],true),by grind [Jb,geB,TV],by simp;omega,rfl,rfl⟩
   | exact ⟨(o++[n],true),by grind [Jb,geB,TV],by simp;omega,rfl,rfl⟩
   | exact ⟨(o++[y],d),by grind [Jb,geB,TV],by simp;omega,rfl,rfl⟩
   | exact ⟨(o,d),by grind [Jb,geB,TV],by simp;omega,rfl,rfl⟩
   | skip
 ·rintro ⟨o,d⟩ hI hF
  dsimp only at hI hF ⊢
  obtain ⟨g1,g2⟩:(o.length+1)*16<=140737488355328/\o.length<=9223372036854775806:=by
   have hm:o.length<=2147483648:=AK hI FO
   generalize o.length=m at hm
   omega
  simp only [go_sem,AW,dF,el]
  repeat' (first|(first|apply cS|apply gS)<;>intro hc<;>simp only [go_sem,hc,g1,g2])
  all_goals first
   | rfl
   | (simp only [ST,Jb];rfl)
   | grind [ST,Jb]
   | (simp only [ST,Jb];grind)
   | (simp [ST,Jb, *];done)
   | (simp_all [ST,Jb];done)
   | skip
def MT(o:List ByteArray):List FH->List ByteArray
 | []=>o
 | x::r=>MT (if x.step.kind=0 then o else ST o x.step.var) r
def QR(n:ByteArray): ∀ (l:List ByteArray) (d:Bool),(Jb n d l).length<=2*l.length+1
 | [],d=>by cases d<;>simp [Jb]
 | x::l,d=>by
  rw [Jb,AF,AF,AD]
  have:=QR n l (d||geB x n)
  split<;>split<;>simp<;>omega
def fy:Hint:={ h78 with tk:=[89,93] }
@[go_sem] def AcL(k:Nat):fy.lv k=h78.lv k/\fy.ct k=h78.ct k/\fy.at k=h78.at k/\fy.dn k=h78.dn k:=⟨AG rfl rfl,AG rfl rfl,AG rfl rfl,AG rfl rfl⟩
@[go_sem] def Acv:fy.tk=[89,93]/\fy.mt=[]/\fy.pc=[33,70,75,78]:=⟨rfl,rfl,rfl⟩
def AIa:FK AA 78 f78 fy:=⟨kr,kr,func78,kr⟩
def vW(l:List Fld)(nm:ByteArray)(a:FM×Bool)(s:Stp):FM×Bool :=
 if s.kind=0\/s.var≠nm then a
 else if Lt s=true/\a.2=false then ({ a.1 with family:=Lc s.kind,widths:=Iz l s.key,n:=s.n,m:=s.m },true)
 else ({ a.1 with family:=Lc s.kind,widths:=Iz l s.key },a.2)
def yY(l:List Fld)(nm:ByteArray)(a:FM×Bool):List FH->FM×Bool
 | []=>a
 | x::r=>yY l nm (vW l nm a x.step) r
def Uv(l:List Fld)(p:List FH)(nm:ByteArray):FM:=(yY l nm (⟨nm,0,[],0,0⟩,false) p).1
def NN(l:List Fld)(p:List FH):List FM:=(MT [] p).map (Uv l p)
def ACl(l:List Fld)(p:List FH)(hp:p.length<=8)(hk : ∀ x∈p,x.step.key.length<=1048576):FQ AA 78 [.sl none (GN l),.sl none (F9 p)] (.sl none (OE (NN l p))):=by
 have el:(F9 p).length=p.length:=Nd p
 refine pB AIa rfl ?_ (hv:=by simp [AV.pure,sg])
 simp only [f78,go_sem]
 refine Fm p (λ(s:Option Nat×List ByteArray) r=>MT s.2 r) (λk s=>s.2.length<4^k) (λk s=>[(0,.sl none (GN l)),(1,.sl none (F9 p)),(5,.sl s.1 (HD s.2)),(6,.int .i64 k)]) (λ_ _=>[]) (some 1,[]) FO dc rfl rfl ?_ ?_
 ·rintro k ⟨w,o⟩ x xs hd hx hI hF h0 h1 hw
  dsimp only at hI hF ⊢
  have hkl:=(AC.1 hx).1
  have h48:(4:Nat)^k<=4^8:=Ba dc FO
  have hol:o.length<65536:=BR hI h48
  have c1:=ATJ o x.step.var FO
  have hl2:(ST o x.step.var).length<4^(k+1):=by
   have:=QR x.step.var o false
   have h4:(4:Nat)^(k+1)=4*4^k:=by rw [DL];omega
   unfold ST
   omega
  have hl3:o.length<4^(k+1):=by
   have h4:(4:Nat)^(k+1)=4*4^k:=by rw [DL];omega
   omega
  by_cases h00:x.step.kind=0
  ·have z0:(x.step.kind !=0)=false:=by simp [h00]
   simp only [go_sem,h0,h1,Fg hx,el,z0,hw]
   exact ⟨(w,o),by rw [MT,iP h00],hl3,rfl,rfl⟩
  ·have z0:(x.step.kind !=0)=true:=by simp [h00]
   simp only [go_sem,h0,h1,Fg hx,el,z0]
   refine pK c1 ?_
   simp only [go_sem,hw]
   exact ⟨(none,ST o x.step.var),by rw [MT,iN h00],hl2,rfl,rfl⟩
 ·rintro ⟨w,o⟩ hI hF
  dsimp only at hI hF ⊢
  have hol:o.length<65536:=BR hI (Ba dc hp)
  have ho:MT [] p=o:=hF
  have eo:(HD o).length=o.length:=Lw o
  simp only [go_sem,AW,dF,el]
  refine Fm o (λ(s:List FM×FP) r=>s.1++r.map (Uv l p)) (λk s=>s.1.length=k) (λk s=>[(0,.sl none (GN l)),(1,.sl none (F9 p)),(5,.sl w (HD o)),(7,.sl (some 5) (OE s.1)),(8,.int .i64 k)]) (λ_ s=>s.2) ([],[]) FO rfl rfl rfl ?_ ?_
  ·rintro k ⟨out,J⟩ nm nms hd hx hI2 hF2 h0 h1 hw
   dsimp only at hI2 hF2 ⊢
   have hsp:Hs (Variable.z.cf (some 1)) [AV.str nm]=(⟨nm,0,[],0,0⟩:FM).cf (some 1):=rfl
   have gB : ∀ y L,(J++y::L)[J.length]? =some y:=λy L=>sm
   have sB : ∀ y z L,(J++y::L).set J.length z=J++z::L:=λy z L=>by
    rw [List.set_append_right _ _ (AU _)];simp
   have gN : ∀ y L z,(J++y::(L++[z]))[List.length (J++y::L)]? =some z:=λy L z=>by
    have:J++y::(L++[z])=(J++y::L)++[z]:=sm
    rw [this];exact BT
   have sN : ∀ y L z z2,(J++y::(L++[z])).set (List.length (J++y::L)) z2=J++y::(L++[z2]):=λy L z z2=>by
    have:J++y::(L++[z])=(J++y::L)++[z]:=sm
    rw [this];simp
   simp only [go_sem,h0,h1,Fv hx,eo,hsp]
   refine Fm p (λ(a:(FM×Bool)×Option Nat×FP) r=>yY l nm a.1 r) (λ_ _=>True) (λj a=>[(0,.sl none (GN l)),(1,.sl none (F9 p)),(5,.sl w (HD o)),(7,.sl (some 5) (OE out)),(8,.int .i64 k),(9,.ptr J.length 0),(10,.bool a.1.2),(11,.int .i64 j)])
    (λ_ a=>J++some (a.1.1.cf a.2.1)::a.2.2) ((⟨nm,0,[],0,0⟩,false),some 1,[]) FO trivial rfl rfl ?_ ?_
   ·rintro j ⟨⟨v,f⟩,w2,L⟩ x xs hd3 hx3 _ hF3 g0 g1 gw
    dsimp only at hF3 ⊢
    have c1:=ACh x.step.kind
    have c2:=nu l x.step.key (by have:=hk x (AB hx3);omega)
    have c3:=ACa x.step
    by_cases h00:x.step.kind=0
    ·have z0:(x.step.kind==0)=true:=by simp [h00]
     simp only [go_sem,g0,g1,Fg hx3,el,gB,gN,sN,z0,gw]
     exact ⟨((v,f),w2,L++[some (x.step.cf none)]),by rw [yY,vW,iP (.inl h00)],rfl,rfl⟩
    ·have z0:(x.step.kind==0)=false:=by simp [h00]
     by_cases hv:x.step.var=nm
     ·have hvb:(nm.toList==nm.toList)=true:=sm
      simp only [go_sem,g0,g1,Fg hx3,el,gB,gN,sN,sB,z0,Fv hx,h0,h1,eo,hv,hvb,Av]
      have sp1 : ∀ (u:FM) (q:Option Nat) (i:Int),splice (u.cf q) 1 [.int .i64 i]=({ u with family:=i }:FM).cf q:=λ_ _ _=>rfl
      have sp2 : ∀ (u:FM) (q:Option Nat) (i:List Int),splice (u.cf q) 2 [.sl none (GB i)]=({ u with widths:=i }:FM).cf none:=λ_ _ _=>rfl
      have sp3 : ∀ (u:FM) (q:Option Nat) (i:Int),splice (u.cf q) 3 [.int .i64 i]=({ u with n:=i }:FM).cf q:=λ_ _ _=>rfl
      have sp4 : ∀ (u:FM) (q:Option Nat) (i:Int),splice (u.cf q) 4 [.int .i64 i]=({ u with m:=i }:FM).cf q:=λ_ _ _=>rfl
      have gN2 : ∀ y y' L z,(J++y::(L++[z]))[List.length (J++y'::L)]? =some z:=λy y' L z=>by
       have e:List.length (J++y'::L)=List.length (J++y::L):=sm
       rw [e];exact gN y L z
      refine pK c1 ?_
      simp only [go_sem,gB,gN2,sN,sB,sp1,sp2,sp3,sp4]
      refine pK c2 ?_
      simp only [go_sem,gB,gN2,sN,sB,sp1,sp2,sp3,sp4]
      refine pK c3 ?_
      cases hns:Lt x.step with
      | false =>
       simp only [go_sem,gB,gN2,sN,sB,sp1,sp2,sp3,sp4,gw]
       exact ⟨(({ v with family:=Lc x.step.kind,widths:=Iz l x.step.key },f),none,L++[some (x.step.cf none)]),by rw [yY,vW,iN (by simp [h00,hv]),iN (by rw [hns];simp)],rfl,rfl⟩
      | true =>
       cases f with
       | true =>
        simp only [go_sem,gB,gN2,sN,sB,sp1,sp2,sp3,sp4,gw,Av]
        exact ⟨(({ v with family:=Lc x.step.kind,widths:=Iz l x.step.key },true),none,L++[some (x.step.cf none)]),by rw [yY,vW,iN (by simp [h00,hv]),iN sm],rfl,rfl⟩
       | false =>
        simp only [go_sem,gB,gN2,sN,sB,sp1,sp2,sp3,sp4,gw,Ax]
        exact ⟨(({ v with family:=Lc x.step.kind,widths:=Iz l x.step.key,n:=x.step.n,m:=x.step.m },true),none,L++[some (x.step.cf none)]),by rw [yY,vW,iN (by simp [h00,hv]),iP ⟨hns,rfl⟩],rfl,rfl⟩
     ·have hvd:decide (x.step.var=nm)=false:=decide_eq_false hv
      simp only [go_sem,g0,g1,Fg hx3,el,gB,gN,sN,z0,Fv hx,h0,h1,eo,FN,hvd,gw,Ax]
      exact ⟨((v,f),w2,L++[some (x.step.cf none)]),by rw [yY,vW,iP (.inr hv)],rfl,rfl⟩
   ·rintro ⟨⟨v,f⟩,w2,L⟩ _ hF3
    dsimp only at hF3 ⊢
    have hvo:Uv l p nm=v:=by unfold Uv;rw [hF3];rfl
    simp only [go_sem,AW,dF,el,gB,hw]
    have hkl:=(AC.1 hx).1
    exact ⟨FO,FO,(out++[v],_),by rw [hvo];simp,by simp;omega,rfl,rfl⟩
  ·rintro ⟨out,J⟩ hI2 hF2
   dsimp only at hI2 hF2 ⊢
   have he:NN l p=out:=by unfold NN;rw [ho];simpa using hF2
   rw [he]
   simp only [go_sem,AW,dF,eo]
def AER{l:List Fld}(hl:I3 l)(key:List ByteArray): ∀ w∈Iz l key,w<9223372036854775807:=by
 intro w hw
 obtain ⟨y,_,rfl⟩:=AP.1 hw
 cases hf:(Fb l y).2 with
 | true =>
  have:=Il hl hf
  unfold HE at this
  omega
 | false =>
  unfold Fb at hf ⊢
  split at hf
  ·cases hf
  ·rename_i hn
   rw [iN hn]
   split at hf
   ·cases hf
   ·rename_i hz
    exact (by decide:Fld.z.width<9223372036854775807)
def ZZ{l:List Fld}{nm:ByteArray}: ∀ (r:List FH) {a:FM×Bool},a.1.name=nm->(a.1.widths=[] \/ ∃ x:FH,x.step.kind≠0/\x.step.var=nm/\a.1.widths=Iz l x.step.key) ->
  (yY l nm a r).1.name=nm/\((yY l nm a r).1.widths=a.1.widths/\(∀ x∈r,x.step.kind=0\/x.step.var≠nm) \/ ∃ x∈r,x.step.kind≠0/\x.step.var=nm/\(yY l nm a r).1.widths=Iz l x.step.key)
 | [],a,h1,_=>⟨h1,.inl ⟨rfl,sm⟩⟩
 | x::r,a,h1,h2=>by
  rw [yY]
  by_cases hc:x.step.kind=0\/x.step.var≠nm
  ·have e:vW l nm a x.step=a:=by unfold vW;rw [iP hc]
   rw [e]
   obtain ⟨g1,g2⟩:=ZZ r h1 h2
   refine ⟨g1, ?_⟩
   rcases g2 with ⟨g2,g3⟩|⟨y,hy,g2⟩
   ·exact .inl ⟨g2,λz hz=>by rcases AX.1 hz with rfl|hz;exact hc;exact g3 z hz⟩
   ·exact .inr ⟨y,CJ _ hy,g2⟩
  ·have hk:x.step.kind≠0:=λh=>hc (.inl h)
   have hv:x.step.var=nm:=by
    by_cases h:x.step.var=nm
    ·exact h
    ·exact absurd (.inr h) hc
   have e1:(vW l nm a x.step).1.name=nm/\(vW l nm a x.step).1.widths=Iz l x.step.key:=by
    unfold vW
    rw [iN hc]
    split<;>exact ⟨h1,rfl⟩
   obtain ⟨g1,g2⟩:=ZZ r e1.1 (.inr ⟨x,hk,hv,e1.2⟩)
   refine ⟨g1,.inr ?_⟩
   rcases g2 with ⟨g2,g3⟩|⟨y,hy,g2⟩
   ·exact ⟨x,List.mem_cons_self ..,hk,hv,by rw [g2,e1.2]⟩
   ·exact ⟨y,CJ _ hy,g2⟩
def YT(l:List Fld)(p:List FH)(nm:ByteArray):(Uv l p nm).name=nm/\((Uv l p nm).widths=[]/\(∀ x∈p,x.step.kind=0\/x.step.var≠nm) \/ ∃ x∈p,x.step.kind≠0/\x.step.var=nm/\(Uv l p nm).widths=Iz l x.step.key) :=
 ZZ p (a:=(⟨nm,0,[],0,0⟩,false)) rfl (.inl rfl)
def yz{l:List Fld}(hl:I3 l){p:List FH}: ∀ v∈NN l p,∀ w∈v.widths,w<9223372036854775807:=by
 intro v hv w hw
 obtain ⟨nm,_,rfl⟩:=AP.1 hv
 rcases (YT l p nm).2 with ⟨h,_⟩|⟨x,_,_,_,h⟩
 ·rw [h] at hw;cases hw
 ·rw [h] at hw;exact AER hl _ w hw
def VX : ∀ (p:List FH) (o:List ByteArray),(MT o p).length<4^p.length*(o.length+1)
 | [],o=>by simp [MT]
 | x::p,o=>by
  rw [MT]
  have h1:=VX p (if x.step.kind=0 then o else ST o x.step.var)
  have h2:(if x.step.kind=0 then o else ST o x.step.var).length+1<=4*(o.length+1):=by
   split
   ·omega
   ·have:=QR x.step.var o false
    unfold ST
    omega
  have h3:4^(x::p).length=4^p.length*4:=by rw [AD,DL]
  rw [h3,Nat.mul_assoc]
  exact BR h1 (Nat.mul_le_mul_left _ h2)
def f0:Hint:={ h41 with pc:=[11,21] }
@[go_sem] def AcN(k:Nat):f0.lv k=h41.lv k/\f0.ct k=h41.ct k/\f0.at k=h41.at k/\f0.dn k=h41.dn k:=⟨AG rfl rfl,AG rfl rfl,AG rfl rfl,AG rfl rfl⟩
@[go_sem] def Ac1:f0.tk=[19,20,22]/\f0.mt=[]/\f0.pc=[11,21]:=⟨rfl,rfl,rfl⟩
def AIb:FK AA 41 f41 f0:=⟨kr,kr,func41,kr⟩
def stQ(l:List Fld)(p:List FH)(st:List FI):Prop:=QB l p=0/\st.length<=250/\(∀ e∈st,∃ v∈NN l p,v.name=e.var/\nI v e)/\Ab3 st
def rl(l:List Fld)(hl:yb l)(hl2:I3 l)(p:List FH)(hb:FR (F9 p)<=1048576)(st:List FI)(hst:st.length<=1073741824)(hk : ∀ e∈st,e.key.length<=1073741824):KL AA 41 [.sl none (GN l),.sl none (F9 p),.sl none (FZ st)] λr => ∃ b,r = .bool b/\(b=true->stQ l p st):=by
 have c1:=AHG l p hl (AK hb dc)
 have el:(FZ st).length=st.length:=H7 st
 refine qC AIb rfl ?_
 simp only [f41,go_sem]
 refine pK c1 ?_
 by_cases h0:QB l p=0
 ·have z0:(QB l p !=0)=false:=by simp [h0]
  have hp8:=(qe h0).1
  have hkey : ∀ x∈p,x.step.key.length<=1048576:=λx hx=>by
   have h1:=qe h0
   have:=(ei (h1.2.2.1 x hx).2).klen
   exact this
  have c2:=ACl l p hp8 hkey
  have hvl:(NN l p).length<=1073741824:=by
   have h1:=VX p []
   have h2:4^p.length<=4^8:=Ba dc hp8
   have h3:(NN l p).length=(MT [] p).length:=by unfold NN;rw [List.length_map]
   have h4:(4:Nat)^8=65536:=dc
   rw [AH,AY,Nat.mul_one] at h1
   omega
  have q3:=rm (NN l p) hvl (yz hl2) st hst hk
  simp only [go_sem,z0,el]
  refine cS ?_ ?_<;>intro hc
  ·simp only [go_sem]
   exact ⟨rfl,false,rfl,λh=>by cases h⟩
  ·have hc:=of_decide_eq_false hc
   simp only [go_sem]
   refine pK c2 ?_
   simp only [go_sem]
   refine LD q3 λr hr=>?_
   obtain ⟨n,rfl,hn⟩:=hr
   simp only [go_sem]
   exact ⟨rfl,_,rfl,λh=>⟨h0,FO,hn (by simpa using h)⟩⟩
 ·have z0:(QB l p !=0)=true:=by simp [h0]
  simp only [go_sem,z0]
  exact ⟨rfl,false,rfl,λh=>by cases h⟩
def Ti:Hint:={ Nj with pc:=[] }
@[go_sem] def AWD(k:Nat):Ti.lv k=Nj.lv k/\Ti.ct k=Nj.ct k/\Ti.at k=Nj.at k/\Ti.dn k=Nj.dn k:=⟨AG rfl rfl,AG rfl rfl,AG rfl rfl,AG rfl rfl⟩
@[go_sem] def AcM:Ti.tk=[]/\Ti.mt=[]/\Ti.pc=[]:=⟨rfl,rfl,rfl⟩
def AFL:FK AA 14 f14 Ti:=⟨kr,kr,func14,kr⟩
def AHv(s:FE)(sts:List (List FI)):Prop:=sts.length=s.tenants.length /\ ∀ (k:Nat) (t:FF) (st:List FI),s.tenants[k]? =some t->sts[k]? =some st->stQ s.fields t.program st/\st.length<=60
def zw(s:FE)(hl:yb s.fields)(hl2:I3 s.fields)(hb:FR s.c<=1048576)(sts:List (List FI))(hsl:sts.length<=1073741824)(hst : ∀ st∈sts,st.length<=1073741824 /\ ∀ e∈st,e.key.length<=1073741824):KL AA 14 [.agg s.c,.sl none (Gu sts)] λr => ∃ b,r = .bool b/\(b=true->AHv s sts):=by
 have el:(Gu sts).length=sts.length:=RY sts
 refine qC AFL rfl ?_
 by_cases hn:sts.length=s.tenants.length
 ·have z0:((sts.length:Int) !=(s.tenants.length:Int))=false:=by simp [hn]
  simp only [f14,go_sem,el,z0]
  refine Fm sts (λ(_:Unit) _=>()) (λk _ => ∀ (i:Nat) (t:FF) (st:List FI),i<k->s.tenants[i]? =some t->sts[i]? =some st->stQ s.fields t.program st/\st.length<=60) (λk _=>[(1,.sl none (Gu sts)),(2,.ptr 0 0),(5,.int .i64 k)]) (λ_ _=>[some s.c]) () FO (λi t st hi=>absurd hi (Nat.not_lt_zero i)) rfl rfl ?_ ?_
  ·intro k _ st xs hd hx hI _ h0 h1 hw
   have hkl:=(AC.1 hx).1
   obtain ⟨t,ht⟩ : ∃ t,s.tenants[k]? =some t:=⟨_,AL FO⟩
   have hk2:(k:Int)<(s.tenants.length:Int):=FO
   have hbt:FR t.c<=1048576:=by
    have h1:=Nc (HA hb) (AB ht)
    simpa only [AV.bulk] using h1
   have hm:=hst st (AB hx)
   have q1:=rl s.fields hl hl2 t.program (Hb hbt) st hm.1 hm.2
   simp only [go_sem,h0,h1,el,Mu hx,F2 ht,hk2]
   refine LD q1 λr hr=>?_
   obtain ⟨b,rfl,hq⟩:=hr
   cases b with
   | false =>
    simp only [go_sem,Ax]
    exact ⟨rfl,false,rfl,λh=>by cases h⟩
   | true =>
    have hq:=hq rfl
    have es:(FZ st).length=st.length:=H7 st
    simp only [go_sem,Av,h0,h1,el,es,Mu hx]
    refine cS ?_ ?_<;>intro hc
    ·simp only [go_sem]
     exact ⟨rfl,false,rfl,λh=>by cases h⟩
    ·have hc:=of_decide_eq_false hc
     simp only [go_sem,hw]
     refine ⟨(),λi t2 st2 hi h2 h3=>?_⟩
     rcases Nat.lt_or_ge i k with hik|hik
     ·exact hI i t2 st2 hik h2 h3
     ·have:i=k:=FO
      subst this
      rw [ht] at h2
      rw [hx] at h3
      cases h2;cases h3
      exact ⟨hq,FO⟩
  ·intro _ hI _
   simp only [go_sem,AW,dF,el]
   exact ⟨rfl,true,rfl,λ_=>⟨hn,λk t st h1 h2=>hI k t st (AC.1 h2).1 h1 h2⟩⟩
 ·have z0:((sts.length:Int) !=(s.tenants.length:Int))=true:=by
   rw [bne_iff_ne];omega
  simp only [f14,go_sem,el,z0]
  exact ⟨rfl,false,rfl,λh=>by cases h⟩
def AAm{s:FE}(hR:R19 s){sts:List (List FI)}(h:AHv s sts)(hk : ∀ st∈sts,∀ e∈st,e.key.length<=1048576):okSts s sts:=by
 refine ⟨h.1,λk t st h1 h2=>?_⟩
 obtain ⟨⟨q1,_,q3,_⟩,q4⟩:=h.2 k t st h1 h2
 have hp:=(ej q1).1
 refine ⟨λe he=>?_,q4⟩
 obtain ⟨v,hv,hn,f1,f2,f3,f4⟩:=q3 e he
 refine ⟨⟨f2,f3,hk st (AB h2) e he,f4⟩,λx hx h0 hvar=>?_⟩
 obtain ⟨nm,_,rfl⟩:=AP.1 hv
 obtain ⟨g1,g2⟩:=YT s.fields t.program nm
 have hnm:nm=e.var:=by rw [<- g1];exact hn
 rcases g2 with ⟨_,g2⟩|⟨y,hy,g3,g4,g5⟩
 ·rcases g2 x hx with g|g
  ·exact absurd g h0
  ·exact absurd (by rw [<- hvar,hnm]) g
 ·have hw:(Iz s.fields y.step.key).length=y.step.key.length:=by simp [Iz]
  rw [f1,g5,hw]
  exact hp.key y hy x hx g3 h0 (by rw [g4,hnm,hvar])
def aQ(l:List FL):List AV:=l.map λx => .agg x.c
@[go_sem] def ABM(l:List FL):(aQ l).length=l.length:=by simp [aQ]
def ABN{l:List FL}{i:Nat}{x:FL}(h:l[i]? =some x):(aQ l)[i]? =some (.agg x.c):=by simp [aQ,h]
@[go_sem] def AUU(l:List FL):A' (aQ l)=true:=by
 induction l with
 | nil=>rfl
 | cons x xs ih=>simpa [aQ,A',AV.pure] using ⟨XC x,ih⟩
def hRt:Hint:={ h4 with pc:=[10,25] }
@[go_sem] def Acw(k:Nat):hRt.lv k=h4.lv k/\hRt.ct k=h4.ct k/\hRt.at k=h4.at k/\hRt.dn k=h4.dn k:=⟨AG rfl rfl,AG rfl rfl,AG rfl rfl,AG rfl rfl⟩
@[go_sem] def AgH:hRt.tk=[14,18]/\hRt.mt=[]/\hRt.pc=[10,25]:=⟨rfl,rfl,rfl⟩
def AWE:FK AA 4 f4 hRt:=⟨kr,kr,func4,kr⟩
def AH0(s:FE)(sts:List (List FI))(l:List FL):Prop:=Jy s=true/\AHv s sts /\ ∀ a∈l,Xq a=true
def AEa(s:FE)(hb:FR s.c<=1048576)(sts:List (List FI))(hsl:sts.length<=1073741824)(hst : ∀ st∈sts,st.length<=1073741824 /\ ∀ e∈st,e.key.length<=1073741824)(l:List FL)(hl:l.length<=1073741824):KL AA 4 [.agg s.c,.sl none (Gu sts),.sl none (aQ l)] λr => ∃ b,r = .bool b/\(b=true->AH0 s sts l):=by
 have el:(aQ l).length=l.length:=ABM l
 have c1:=xR s hb
 refine qC AWE rfl ?_
 simp only [f4,go_sem]
 refine pK c1 ?_
 cases h1:Jy s with
 | false =>
  simp only [go_sem,h1,Ax]
  exact ⟨rfl,false,rfl,λh=>by cases h⟩
 | true =>
  have hR:=Yd h1
  have q1:=zw s (λf hf=>Int.le_trans (ZI hR.fld0 f hf) dc) hR.fld hb sts hsl hst
  simp only [go_sem,h1,Av]
  refine LD q1 λr hr=>?_
  obtain ⟨b,rfl,hq⟩:=hr
  cases b with
  | false =>
   simp only [go_sem,Ax]
   exact ⟨rfl,false,rfl,λh=>by cases h⟩
  | true =>
   have hq:=hq rfl
   simp only [go_sem,Av,el]
   refine Fm l (λ(_:FP) _=>()) (λk _ => ∀ a∈l.take k,Xq a=true) (λk _=>[(18,.sl none (aQ l)),(19,.int .i64 l.length),(20,.int .i64 k)]) (λ_ L=>some s.c::L) [] FO sm rfl rfl ?_ ?_
   ·intro k L x xs hd hx hI _ h0 h1 hw
    have gN : ∀ a (L:FP) z,(a::(L++[z]))[List.length (a::L)]? =some z:=λa L z=>by
     have:a::(L++[z])=(a::L)++[z]:=sm
     rw [this];exact BT
    have sN : ∀ a (L:FP) z z2,(a::(L++[z])).set (List.length (a::L)) z2=a::(L++[z2]):=λa L z z2=>by
     have:a::(L++[z])=(a::L)++[z]:=sm
     rw [this];simp
    have c2:=xX x
    have htk:l.take (k+1)=l.take k++[x]:=by rw [BE,hx];rfl
    simp only [go_sem,h0,h1,ABN hx,gN,sN]
    refine pK c2 ?_
    cases ha:Xq x with
    | false =>
     simp only [go_sem,Ax]
     exact ⟨rfl,false,rfl,λh=>by cases h⟩
    | true =>
     simp only [go_sem,Av,hw]
     refine ⟨_,λy hy=>?_,rfl,rfl⟩
     rw [htk] at hy
     rcases As.1 hy with hy|hy
     ·exact hI y hy
     ·rcases Ac.1 hy with rfl;exact ha
   ·intro L hI _
    simp only [go_sem,AW,dF]
    rw [BH] at hI
    exact ⟨rfl,true,rfl,λ_=>⟨h1,hq,hI⟩⟩
def qN{l:List Fld}{tick:Int}{x:Policy}: ∀ (pk:List FG) {gv r:List FG},gv.length<=256->wn l tick x gv pk=some r->r.length<=256
 | [],gv,r,hn,e=>by
  rw [wn] at e
  cases e
  exact hn
 | g::pk,gv,r,hn,e=>by
  rw [wn] at e
  cases ev:vO l tick x g with
  | none=>rw [ev] at e;cases e
  | some y =>
   rw [ev] at e
   by_cases Pq:256<(gv++y).length
   ·simp only [iP Pq] at e
    cases e
   ·simp only [iN Pq] at e
    exact qN pk FO e
def qa(l:List Fld)(s:Stp)(tick:Int): ∀ (gv:List FG) (a:List FG×List FI),(yd l s tick a gv).1.length<=a.1.length+gv.length
 | [],a=>AU _
 | g::gv,a=>by
  rw [yd,AD]
  refine AK (qa l s tick gv _) ?_
  dsimp only
  split
  ·rw [AF,Bt];omega
  ·omega
def dO{l:List Fld}{tick:Int}: ∀ (r:List FH) {a b:List FG×List FI},a.1.length<=256->RI l tick a r=some b->b.1.length<=256
 | [],a,b,h,e=>by
  rw [RI] at e
  cases e
  exact h
 | s::r,a,b,h,e=>by
  rw [RI] at e
  cases eg:wn l tick s.policy [] a.1 with
  | none=>rw [eg] at e;cases e
  | some gv =>
   rw [eg] at e
   dsimp only at e
   have h1:=qN a.1 sm eg
   have h2:=qa l s.step tick gv ([],a.2)
   rw [AH] at h2
   exact dO r FO e
def AEf(s:FE)(x:Item)(t:FF)(tick:Int)(a:List Item×List FJ)(p:FG):(pr s x t tick a p).2.length<=a.2.length+1:=by
 unfold pr
 split
 ·exact DS _
 ·split
  ·rw [AF];exact AU _
  ·split<;>exact DS _
def pp(s:FE)(x:Item)(t:FF)(tick:Int): ∀ (r:List FG) (a:List Item×List FJ),(Zp s x t tick a r).2.length<=a.2.length+r.length
 | [],a=>AU _
 | p::r,a=>by
  rw [Zp,AD]
  have h1:=pp s x t tick r (pr s x t tick a p)
  have h2:=AEf s x t tick a p
  omega
def qp{s:FE}{tick:Int}: ∀ (f n:Nat) {q:List Item} {now:List (List FI)} {out:List FJ} {r:List FJ×List (List FI)},kb s tick f n q now out=some r->r.1.length<=out.length+f*256
 | 0,n,q,now,out,r,e=>by rw [kb] at e;cases e
 | f+1,n,q,now,out,r,e=>by
  rw [kb] at e
  cases hx:q[n]? with
  | none =>
   rw [hx] at e
   cases e
   exact Nat.le_add_right _ _
  | some x =>
   rw [hx] at e
   dsimp only at e
   cases ht:s.tenants[x.tenant.toNat]? with
   | none=>rw [ht] at e;cases e
   | some t =>
    rw [ht] at e
    cases hs:now[x.tenant.toNat]? with
    | none=>rw [hs] at e;cases e
    | some st =>
     rw [hs] at e
     dsimp only at e
     cases er:VA s.fields (Gf t).1 st x.head tick with
     | none=>rw [er] at e;cases e
     | some b =>
      rw [er] at e
      dsimp only at e
      have hb:=dO (Gf t).1 sm er
      have hp:=pp s x t tick b.1 (q,out)
      split at e
      ·cases e
      ·have:=qp f (n+1) e
       dsimp only at hp
       omega
def ATh{b:Bool}{p:Prop}(hb:b=true↔p)(h:p):b=true:=hb.2 h
def AHM{b:Bool}{p:Prop}(hb:b=true↔p)(h : ¬ p):b=false:=by
 cases b with
 | false=>rfl
 | true=>exact absurd (hb.1 rfl) h
def AE3{α:Type}{A B:List α}{k:Nat}{x y:α}(hx:A[k]? =some x)(hy:B[k]? =some y)(h : ¬ x=y): ¬ A=B:=by
 rintro rfl
 rw [hx] at hy;cases hy;exact h rfl
def zK{α:Type}{A B:List α}{k:Nat}{x:α}(h:A.take k=B.take k)(hx:A[k]? =some x)(hy:B[k]? =some x):A.take (k+1)=B.take (k+1):=by
 rw [BE,BE,h,hx,hy]
def rT{α:Type}{A B:List α}(h:A.take A.length=B.take A.length)(hl:A.length=B.length):A=B:=by
 rw [BH,hl,BH] at h;exact h
def iZ(a c:List Int)(b:Bool)(hb:b=true↔a=c)(ha:a.length<=1073741824):FQ AA 11 [.sl none (GB a),.sl none (GB c)] (.bool b):=by
 have ea:(GB a).length=a.length:=HM a
 have ec:(GB c).length=c.length:=HM c
 refine pC AY8 rfl ?_
 simp only [f11,go_sem,ea,ec]
 repeat' (first|(first|apply cS|apply gS)<;>intro hc<;>simp only [go_sem,hc])
 all_goals first
  | (rw [AHM hb (by rintro rfl;simp_all)];done)
  | skip
 have l0:a.length=c.length:=by simp_all;omega
 refine Fm a (λ(_:Unit) (_:List Int)=>()) (λk _=>a.take k=c.take k) (λk _=>[(0,.sl none (GB a)),(1,.sl none (GB c)),(5,.int .i64 k)]) (λ_ _=>[]) () FO rfl rfl rfl ?_ ?_
 ·intro k _ x xs hd hx hI _ h0 h1 hw
  obtain ⟨y,hy⟩ : ∃ y,c[k]? =some y:=⟨_,AL (by have:=(AC.1 hx).1;omega)⟩
  simp only [go_sem,h0,h1,ea,GI hx,GI hy]
  repeat' (first|(first|apply cS|apply gS)<;>intro hc<;>simp only [go_sem,hc,hw])
  ·have hxy : ¬ x=y:=by simpa using hc
   rw [AHM hb (λe=>AE3 hx hy hxy (by rw [e]))]
  ·have hxy:x=y:=by simpa using hc
   subst hxy
   exact ⟨(),zK hI hx hy⟩
 ·intro _ hI _
  have hA:=rT hI FO
  simp only [go_sem,ea,AW,dF]
  rw [ATh hb hA]
def qm(a c:List Int)(ha:a.length<=1073741824):FQ AA 11 [.sl none (GB a),.sl none (GB c)] (.bool (decide (a=c))):=iZ a c _ decide_eq_true_iff ha
def vch(s:FE)(l:List (List Int)):Prop:=∀ c∈l,c.length<=1048577 /\ ∀ x∈c,0<=x/\x<(s.contracts.length:Int)
def qf(s:FE)(b:Nat): ∀ (f a:Nat) (ch:List Int),(ch.length+f<=1048577 /\ ∀ x∈ch,0<=x/\x<(s.contracts.length:Int))->vch s (ZJ s b f a ch)
 | 0,_,_,_=>λc hc=>by cases hc
 | f+1,a,ch,h=>by
  by_cases hab:a=b
  ·subst hab
   rw [ap]
   intro c hc
   rcases Ac.1 hc with rfl
   exact ⟨FO,h.2⟩
  ·rw [ACS hab]
   intro c hc
   obtain ⟨p,hp,hc⟩:=List.mem_flatMap.1 hc
   split at hc
   ·have hlt:=(List.mem_zipIdx hp).2.1
    refine qf s b f _ _ ⟨by simp;omega,λx hx=>?_⟩ c hc
    rcases As.1 hx with hx|hx
    ·exact h.2 x hx
    ·rcases Ac.1 hx with rfl
     omega
   ·cases hc
def aO{l:List (List Int)}{k:Nat}{c:List Int}(h:l[k]? =some c):(XG l)[k]? =some (.sl none (GB c)):=by simp [XG,h]
def gC:Hint:={ h3 with pc:=[27,35,42,49,58,70,87,111,120,132] }
@[go_sem] def AcO(k:Nat):gC.lv k=h3.lv k/\gC.ct k=h3.ct k/\gC.at k=h3.at k/\gC.dn k=h3.dn k:=⟨AG rfl rfl,AG rfl rfl,AG rfl rfl,AG rfl rfl⟩
@[go_sem] def Ac2:gC.tk=[51,56,57,108]/\gC.mt=[]/\gC.pc=[27,35,42,49,58,70,87,111,120,132]:=⟨rfl,rfl,rfl⟩
def AIc:FK AA 3 f3 gC:=⟨kr,kr,func3,kr⟩
def AFv(hsan:FQ AA 5 [] (.bool true))(s:FE)(hb:FR s.c<=1048576)(sts:List (List FI))(hsl:sts.length<=1073741824)(hst : ∀ st∈sts,st.length<=1073741824 /\ ∀ e∈st,e.key.length<=1048576)(a:FL):FQ AA 3 [.agg s.c,.sl none (Gu sts),.agg a.c] (.bool true):=by
 have q1:=AEa s hb sts hsl (λst h=>⟨(hst st h).1,λe he=>by have:=(hst st h).2 e he;omega⟩) [a] sm
 refine pC AIc rfl ?_
 simp only [f3,go_sem]
 refine LD (KL.lend q1) λr hr=>?_
 obtain ⟨b,rfl,hq⟩:=hr
 cases b with
 | false =>
  simp only [go_sem,Ax]
  refine pK hsan ?_
  simp only [go_sem]
 | true =>
  obtain ⟨h1,h2,h3⟩:=hq rfl
  have hR:=Yd h1
  have hf:IY s=true:=by unfold Jy at h1;rw [AQ] at h1;exact h1.1
  have ha:=h3 a (Ac.2 rfl)
  unfold Xq at ha
  simp only [AQ,decide_eq_true_eq] at ha
  have hSt:=AAm hR h2 λst h=>(hst st h).2
  have hRun:=AAn hR hf hb hSt ha.1 ⟨ha.2.2.1,ha.2.2.2⟩
  have c2:=AIC s sts a.head a.tick ha.1 hRun
  have hnt:s.tenants.length<=256:=hRun.ten
  have c3:=xU s FO hRun.prt a.head
  have c4:=xV sts hsl λst h=>⟨(hst st h).1,λe he=>by have:=(hst st h).2 e he;omega⟩
  simp only [go_sem,Av]
  refine pK c2 ?_
  have b2:((2:Int) !=0)=true:=rfl
  have b0:((0:Int) !=0)=false:=rfl
  have zl:(((0:Nat):Int)==0)=true:=rfl
  cases er:UB s sts a.head a.tick with
  | none =>
   simp only [go_sem,dV]
   refine pK c3 ?_
   simp only [go_sem,b2]
   refine pK hsan ?_
   simp only [go_sem,zl]
   refine pK c4 ?_
   simp only [go_sem]
  | some o =>
   simp only [go_sem,dV]
   refine pK c3 ?_
   rcases iA (h:=a.head) (l:=s.tenants) (k:=0) with ⟨w1,w2,_⟩|⟨fr,t,w1,w2,w3⟩
   ·have eo:o=([],sts):=by rw [xZ w2] at er;cases er;rfl
    rw [w1,eo]
    have z1:(-1:Int)<0:=dc
    simp only [go_sem,b0,z1,dT]
    refine pK hsan ?_
    have ed:(GR []).length=0:=rfl
    simp only [go_sem,ed,zl]
    refine pK c4 ?_
    simp only [go_sem]
   ·rw [AY] at w2
    obtain ⟨g1,g2,g3⟩:=xY hR w1 w3 er
    rw [w2]
    have z1 : ¬ ((fr:Nat):Int)<0:=FO
    have hol:o.1.length<=153600:=by
     have:=qp 600 0 (show kb s a.tick 600 0 (Oy a.head 0 s.tenants) sts []=some o from er)
     simpa using this
    have hfr:fr<s.tenants.length:=(AC.1 w1).1
    simp only [go_sem,b0,z1,dF]
    refine Fm s.tenants (λ(_:FP) _=>()) (λ_ _=>True) (λk _=>[(1,.sl none (Gu sts)),(3,.ptr 0 0),(7,.sl none (GR o.1)),(8,.sl none (Gu o.2)),(10,.int .i64 fr),(62,.int .i64 s.tenants.length),(63,.int .i64 k)]) (λ_ L=>some s.c::some a.c::L) [] FO trivial rfl rfl ?_ ?_
    ·intro k L t2 ts hd hx _ _ h0 h4 hw
     have hkl:=(AC.1 hx).1
     have c5:=AAa s hb hR fr k hfr
     generalize hch:ZJ s k (s.tenants.length+1) fr []=ch at c5
     simp only [go_sem,h4]
     by_cases Xi:200<ch.length
     ·rw [na,iP Xi] at c5
      refine pK c5 ?_
      simp only [go_sem,b2,hw]
      exact ⟨_,rfl,rfl⟩
     ·rw [na,iN Xi] at c5
      refine pK c5 ?_
      have ec:(XG ch).length=ch.length:=aM ch
      have hcb : ∀ c∈ch,c.length<=1073741824:=λc hc=>by
       rw [<- hch] at hc
       have:=(qf s k (s.tenants.length+1) fr [] ⟨by simp;omega,sm⟩ c hc).1
       omega
      have hin : ∀ c,SW s fr c k->c∈ch:=λc hc=>by rw [<- hch];exact iS hR hfr hc
      obtain ⟨st,hs1⟩ : ∃ st,sts[k]? =some st:=⟨_,AL (by have:=h2.1;omega)⟩
      by_cases hnil:ch=[]
      ·have hs2:o.2[k]? =some st:=by rw [g3 k λc hc=>by have:=hin c hc;rw [hnil] at this;cases this];exact hs1
       have c6:=AEu st (hst st (AB hs1)).1 λe he=>by have:=(hst st (AB hs1)).2 e he;omega
       have zc:((ch.length:Int)==0)=true:=by rw [hnil];rfl
       have hk1:(k:Int)<(o.2.length:Int):=by rw [g2,h2.1];omega
       have hk2:(k:Int)<(sts.length:Int):=by rw [h2.1];omega
       simp only [go_sem,b0,ec,zc,h0,Mu hs1,Mu hs2]
       refine pK c6 ?_
       simp only [go_sem,Av]
       refine Fm o.1 (λ(_:FP) _=>()) (λ_ _=>True) (λj _=>[(1,.sl none (Gu sts)),(3,.ptr 0 0),(7,.sl none (GR o.1)),(8,.sl none (Gu o.2)),(10,.int .i64 fr),(11,.int .i64 k),(12,.sl none (XG ch)),(62,.int .i64 s.tenants.length),(63,.int .i64 k),(90,.sl none (GR o.1)),(91,.int .i64 o.1.length),(92,.int .i64 j)]) (λ_ M=>some s.c::some a.c::M) L FO trivial rfl rfl ?_ ?_
       ·intro j M d ds hd2 hxd _ _ q0 q1 qw
        obtain ⟨k',t3,p,v1,v2,v3,v4,v5⟩:=g1 d (AB hxd)
        have gN : ∀ a b (L:FP) z,(a::b::(L++[z]))[List.length (a::b::L)]? =some z:=λa b L z=>by
         have:a::b::(L++[z])=(a::b::L)++[z]:=sm
         rw [this];exact BT
        have sN : ∀ a b (L:FP) z z2,(a::b::(L++[z])).set (List.length (a::b::L)) z2=a::b::(L++[z2]):=λa b L z z2=>by
         have:a::b::(L++[z])=(a::b::L)++[z]:=sm
         rw [this];simp
        by_cases hkk:k'=k
        ·subst hkk
         have zk:(d.tenant !=(k':Int))=false:=by simp [v1]
         have hdc:=hin d.chain v5
         simp only [go_sem,q0,q1,Kv hxd,zk,ec]
         refine Fm ch (λ(f:Bool) (r:List (List Int))=>f||decide (d.chain∈r)) (λ_ _=>True) (λi f=>[(1,.sl none (Gu sts)),(3,.ptr 0 0),(7,.sl none (GR o.1)),(8,.sl none (Gu o.2)),(10,.int .i64 fr),(11,.int .i64 k'),(12,.sl none (XG ch)),(15,.ptr (List.length (some s.c::some a.c::M)) 0),(16,.bool f),(62,.int .i64 s.tenants.length),(63,.int .i64 k'),(90,.sl none (GR o.1)),(91,.int .i64 o.1.length),(92,.int .i64 j),(100,.sl none (XG ch)),(101,.int .i64 ch.length),(102,.int .i64 i)]) (λ_ _=>some s.c::some a.c::(M++[some d.c])) false FO trivial rfl rfl ?_ ?_
         ·intro i f c cs hd4 hx4 _ _ p0 p1 pw
          have hcl:c.length<=1073741824:=hcb c (AB hx4)
          have c8:=qm c d.chain hcl
          cases f with
          | true =>
           simp only [go_sem,p0,p1,aO hx4,pw]
           exact ⟨true,sm,rfl,rfl⟩
          | false =>
           simp only [go_sem,p0,p1,aO hx4]
           refine pK c8 ?_
           simp only [go_sem,pw]
           refine ⟨decide (c=d.chain), ?_,rfl,rfl⟩
           by_cases hcd:c=d.chain
           ·rw [hcd];simp
           ·have hcd2 : ¬ d.chain=c:=λe=>hcd e.symm
            simp [hcd,hcd2]
         ·intro f _ hF
          rw [BM,decide_eq_true hdc] at hF
          have hf1:f=true:=by simpa using hF.symm
          subst hf1
          have how:(N4 (IntKind.i64.wrap (d.head.h0 - 10000)) 0 s.tenants).1=(k':Int):=by rw [v4];exact Yo hR hb v2 v3
          have zo:(((k':Nat):Int) !=((k':Nat):Int))=false:=sm
          have c7:=qA s hb (IntKind.i64.wrap (d.head.h0 - 10000))
          rw [how] at c7
          simp only [go_sem,AW,dF]
          refine pK c7 ?_
          simp only [go_sem,zo,qw,Av]
          exact ⟨_,rfl,rfl⟩
        ·have zk:(d.tenant !=(k:Int))=true:=by
          rw [bne_iff_ne,v1];omega
         simp only [go_sem,q0,q1,Kv hxd,zk,qw]
         exact ⟨_,rfl,rfl⟩
       ·intro M _ _
        simp only [go_sem,AW,dF,hw]
        exact ⟨_,rfl,rfl⟩
      ·have zc:((ch.length:Int)==0)=false:=by
        rw [beq_eq_false_iff_ne]
        intro h
        exact hnil (List.length_eq_zero_iff.1 FO)
       simp only [go_sem,b0,ec,zc]
       refine Fm o.1 (λ(_:FP) _=>()) (λ_ _=>True) (λj _=>[(1,.sl none (Gu sts)),(3,.ptr 0 0),(7,.sl none (GR o.1)),(8,.sl none (Gu o.2)),(10,.int .i64 fr),(11,.int .i64 k),(12,.sl none (XG ch)),(62,.int .i64 s.tenants.length),(63,.int .i64 k),(90,.sl none (GR o.1)),(91,.int .i64 o.1.length),(92,.int .i64 j)]) (λ_ M=>some s.c::some a.c::M) L FO trivial rfl rfl ?_ ?_
       ·intro j M d ds hd2 hxd _ _ q0 q1 qw
        obtain ⟨k',t3,p,v1,v2,v3,v4,v5⟩:=g1 d (AB hxd)
        have gN : ∀ a b (L:FP) z,(a::b::(L++[z]))[List.length (a::b::L)]? =some z:=λa b L z=>by
         have:a::b::(L++[z])=(a::b::L)++[z]:=sm
         rw [this];exact BT
        have sN : ∀ a b (L:FP) z z2,(a::b::(L++[z])).set (List.length (a::b::L)) z2=a::b::(L++[z2]):=λa b L z z2=>by
         have:a::b::(L++[z])=(a::b::L)++[z]:=sm
         rw [this];simp
        by_cases hkk:k'=k
        ·subst hkk
         have zk:(d.tenant !=(k':Int))=false:=by simp [v1]
         have hdc:=hin d.chain v5
         simp only [go_sem,q0,q1,Kv hxd,zk,ec]
         refine Fm ch (λ(f:Bool) (r:List (List Int))=>f||decide (d.chain∈r)) (λ_ _=>True) (λi f=>[(1,.sl none (Gu sts)),(3,.ptr 0 0),(7,.sl none (GR o.1)),(8,.sl none (Gu o.2)),(10,.int .i64 fr),(11,.int .i64 k'),(12,.sl none (XG ch)),(15,.ptr (List.length (some s.c::some a.c::M)) 0),(16,.bool f),(62,.int .i64 s.tenants.length),(63,.int .i64 k'),(90,.sl none (GR o.1)),(91,.int .i64 o.1.length),(92,.int .i64 j),(100,.sl none (XG ch)),(101,.int .i64 ch.length),(102,.int .i64 i)]) (λ_ _=>some s.c::some a.c::(M++[some d.c])) false FO trivial rfl rfl ?_ ?_
         ·intro i f c cs hd4 hx4 _ _ p0 p1 pw
          have hcl:c.length<=1073741824:=hcb c (AB hx4)
          have c8:=qm c d.chain hcl
          cases f with
          | true =>
           simp only [go_sem,p0,p1,aO hx4,pw]
           exact ⟨true,sm,rfl,rfl⟩
          | false =>
           simp only [go_sem,p0,p1,aO hx4]
           refine pK c8 ?_
           simp only [go_sem,pw]
           refine ⟨decide (c=d.chain), ?_,rfl,rfl⟩
           by_cases hcd:c=d.chain
           ·rw [hcd];simp
           ·have hcd2 : ¬ d.chain=c:=λe=>hcd e.symm
            simp [hcd,hcd2]
         ·intro f _ hF
          rw [BM,decide_eq_true hdc] at hF
          have hf1:f=true:=by simpa using hF.symm
          subst hf1
          have how:(N4 (IntKind.i64.wrap (d.head.h0 - 10000)) 0 s.tenants).1=(k':Int):=by rw [v4];exact Yo hR hb v2 v3
          have zo:(((k':Nat):Int) !=((k':Nat):Int))=false:=sm
          have c7:=qA s hb (IntKind.i64.wrap (d.head.h0 - 10000))
          rw [how] at c7
          simp only [go_sem,AW,dF]
          refine pK c7 ?_
          simp only [go_sem,zo,qw,Av]
          exact ⟨_,rfl,rfl⟩
        ·have zk:(d.tenant !=(k:Int))=true:=by
          rw [bne_iff_ne,v1];omega
         simp only [go_sem,q0,q1,Kv hxd,zk,qw]
         exact ⟨_,rfl,rfl⟩
       ·intro M _ _
        simp only [go_sem,AW,dF,hw]
        exact ⟨_,rfl,rfl⟩
    ·intro L _ _
     simp only [go_sem,AW,dF]
     refine pK hsan ?_
     simp only [go_sem]
def AFA{a:AV}(h:Rd AA 32 a): ∃ l,a = .sl none (Gu l)/\True:=by
 obtain ⟨l,h1,_,_⟩:=IR (f:=λ(x:List FI)=>AV.sl none (FZ x)) (ok:=λx=>Y0 x) (P:=AA) (t:=32) (e:=49) kr (λx hx=>Td hx) h
 exact ⟨l,h1,trivial⟩
def AFB{l:List (List FI)}{B:Nat}(h:FR (Gu l)<=B):l.length<=B /\ ∀ st∈l,st.length<=B /\ ∀ e∈st,e.key.length<=B:=by
 refine ⟨AK (HO (f:=λ(x:List FI)=>AV.sl none (FZ x)) (λx=>by simp [AV.bulk]) l) h,λst hst=>?_⟩
 have h1:FR (FZ st)<=B:=Gq (o:=none) (AP.2 ⟨st,hst,rfl⟩) h
 refine ⟨tE h1,λe he=>?_⟩
 have h2:=tF h1 he
 have h3:FR e.c<=B:=by simpa only [AV.bulk] using h2
 exact AFF (cH h3)
def ACc(hsan:FQ AA 5 [] (.bool true))(s:FE)(sts:List (List FI))(a:FL)(hb:FR s.c<=1048576)(h:FR (Gu sts)<=1048576):FQ AA 3 [.agg s.c,.sl none (Gu sts),.agg a.c] (.bool true):=by
 obtain ⟨h1,h2⟩:=AFB h
 exact AFv hsan s hb sts FO (λst hst=>⟨by have:=(h2 st hst).1;omega,(h2 st hst).2⟩) a
end Go.AI
