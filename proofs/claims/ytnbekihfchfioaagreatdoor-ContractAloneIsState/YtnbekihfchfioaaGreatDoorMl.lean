/- One owner for an edge;the tenant at whose edge a head enters;the owner of what is delivered. -/
import Derived.Test.YtnbekihfchfioaaGreatDoorMk
set_option linter.unusedSimpArgs false
set_option linter.unusedVariables false
set_option linter.defProp false
set_option maxHeartbeats 4000000
open Go.Proofs.Tryz
open Go.AI renaming Setup->FC,Tenant->FD,Head->FE,Stage->FF,Entry->FG,Arrival->FH,Variable->FI,Delivery->FJ
open Bool renaming and_eq_true->AR,not_false->Av,not_true->Ar
open Eq renaming trans->AH
open Int renaming lt_irrefl->AY
open List renaming all_eq_true->Ao,any_eq_true->CZ,append_assoc->AF,append_nil->Ah,drop_zero->BN,filter_append->Cb,getElem?_concat_length->Bj,getElem?_eq_getElem->AL,getElem?_eq_some_iff->AD,getElem?_of_mem->Af,getElem?_take->Aj,length_append->AE,length_cons->AC,length_nil->AG,length_singleton->Bs,length_take->BI,mem_append->Ay,mem_cons->AZ,mem_cons_of_mem->B9,mem_cons_self->Cc,mem_map->AO,mem_of_getElem?->AB,mem_singleton->Al,take_add_one->BF,take_length->BO
open Nat renaming le_refl->AU,le_trans->AK,lt_of_lt_of_le->BR,lt_trichotomy->EQ,pow_le_pow_right->Bb,pow_succ->DK,sub_self->AQ,zero_add->AX
open Go.Proofs.Tryz renaming prog->AA
namespace Go.AI
open Go.Proofs
def gK{s:FC}{t:FD}(h1:Jr s t=0): ∀ x∈t.ports,-1<=x.edge/\x.edge<(s.network.edges.length:Int):=by
 have h2:Io s t=0:=by
  unfold Jr at h1
  split at h1
  ·cases h1
  ·split at h1
   ·rename_i hne;exact absurd h1 hne
   ·rename_i hne;simpa using hne
 have h3:IOq (Q0 s.network.edges.length) Qz t.ports=true:=by
  unfold Io at h2
  split at h2
  ·cases h2
  split at h2
  ·cases h2
  split at h2
  ·cases h2
  ·rename_i hne;simpa using hne
 have h4 : ∀ (r:List Port) (i:Nat),Id (Q0 s.network.edges.length) Qz t.ports i r=true -> ∀ x∈r,-1<=x.edge/\x.edge<(s.network.edges.length:Int):=by
  intro r
  induction r with
  | nil=>intro i _ x hx;cases hx
  | cons y r ih =>
   intro i hi x hx
   simp only [Id,AR] at hi
   rcases AZ.1 hx with rfl|hx
   ·have:=hi.1.1;simp only [Q0,AR,decide_eq_true_eq] at this;exact this
   ·exact ih _ hi.2 x hx
 exact h4 t.ports 0 h3
def R19.ckE{s:FC}(h:R19 s){k:Nat}{t:FD}(ht:s.tenants[k]? =some t):Jr s t=0/\(GP t).2=0/\JU s k t=false:=by
 have h1:=h.ten k t ht
 unfold Q5 at h1
 split at h1
 ·rename_i hne;exact absurd h1 hne
 rename_i h2
 split at h1
 ·rename_i hne;exact absurd h1 hne
 rename_i h3
 split at h1
 ·cases h1
 split at h1
 ·cases h1
 rename_i h5
 exact ⟨by simpa using h2,by simpa using h3,by simpa using h5⟩
def Uu{e:Int}(he:0<=e): ∀ {l:List Port} {i:Nat} {x:Port},x∈l->x.edge=e->0<=IH e i l
 | y::l,i,x,hx,hxe=>by
  rw [IH]
  split
  ·omega
  ·rename_i hn
   rcases AZ.1 hx with rfl|hx
   ·exact absurd ⟨he,hxe⟩ hn
   ·exact Uu he hx hxe
def LN{e:Int}: ∀ {l:List Port} {i:Nat},0<=JJ e i l -> ∃ (j:Nat) (x:Port),l[j]? =some x/\x.edge ≠ -1/\x.edge=e/\JJ e i l=((i+j:Nat):Int)
 | [],i,h=>by rw [JJ] at h;exact absurd h dc
 | y::l,i,h=>by
  rw [JJ] at h ⊢
  by_cases hy:y.edge ≠ -1/\y.edge=e
  ·rw [iP hy];exact ⟨0,y,rfl,hy.1,hy.2,rfl⟩
  ·rw [iN hy] at h ⊢
   obtain ⟨j,x,h1,h2,h3,h4⟩:=LN h
   exact ⟨j+1,x,h1,h2,h3,by rw [h4];congr 1;omega⟩
def qw{s:FC}(hR:R19 s){i j:Nat}{t u:FD}(ht:s.tenants[i]? =some t)(hu:s.tenants[j]? =some u){e:Int}(h1:0<=Hq t e)(h2:0<=Hq u e):i=j:=by
 have key : ∀ {i j:Nat} {t u:FD},s.tenants[i]? =some t->s.tenants[j]? =some u->0<=Hq t e->0<=Hq u e->i<j->False:=by
  intro i j t u ht hu h1 h2 hij
  obtain ⟨a,x,x1,x2,x3,_⟩:=LN h1
  obtain ⟨b,y,y1,y2,y3,_⟩:=LN h2
  obtain ⟨k1,_,k3⟩:=hR.ckE hu
  have hy:=gK k1 y (AB y1)
  have he:0<=e:=FM
  have hc:JU s j u=true:=by
   unfold JU
   refine CZ.2 ⟨y,AB y1,CZ.2 ⟨t, ?_, ?_⟩⟩
   ·exact AB (i:=i) (by rw [Aj,iP hij];exact ht)
   ·have hpo:0<=IG t e:=Uu he (AB x1) x3
    rw [y3,decide_eq_true he,decide_eq_true hpo];rfl
  rw [hc] at k3;cases k3
 rcases EQ i j with h|h|h
 ·exact (key ht hu h1 h2 h).elim
 ·exact h
 ·exact (key hu ht h2 h1 h).elim
def inE(h:FE):Int:=i64 (h.h0 - 10000)
def Vu{t:FD}{h:FE}:(PX t h).2=true↔0<=Hq t (inE h):=by
 unfold PX Ka inE
 split<;>simp<;>omega
def ft(h:FE):Nat->List FD->Int
 | _,[] => -1
 | k,t::r=>if (PX t h).2=true then (k:Int) else ft h (k+1) r
def fq{h:FE}: ∀ {l:List FD} {k:Nat},(ft h k l = -1/\Ol h k l=[] /\ ∀ t∈l,(PX t h).2=false) \/ ∃ (j:Nat) (t:FD),l[j]? =some t/\ft h k l=((k+j:Nat):Int)/\(PX t h).2=true
 | [],k => .inl ⟨rfl,rfl,sm⟩
 | t::l,k=>by
  rw [ft,Ol]
  cases he:(PX t h).2 with
  | true=>rw [iP rfl];exact .inr ⟨0,t,rfl,rfl,he⟩
  | false =>
   rw [iN dc,iN dc]
   rcases fq (h:=h) (l:=l) (k:=k+1) with ⟨h1,h2,h3⟩|⟨j,u,h1,h2,h3⟩
   ·refine .inl ⟨h1,h2,λu hu=>?_⟩
    rcases AZ.1 hu with rfl|hu
    ·exact he
    ·exact h3 u hu
   ·exact .inr ⟨j+1,u,h1,by rw [h2];congr 1;omega,h3⟩
def vt{s:FC}{t:FD}(h1:Jr s t=0):Y5 t/\P3 s.fields t.program=0/\t.ports.length<=64:=by
 unfold Jr at h1
 split at h1
 ·cases h1
 ·rename_i hlim
  split at h1
  ·rename_i hne;exact absurd h1 hne
  ·rename_i hpo
   split at h1
   ·rename_i hne;exact absurd h1 hne
   ·rename_i hpr
    have hpo:Io s t=0:=by simpa using hpo
    have hpr:MT s t=0:=by simpa using hpr
    refine ⟨?_, ?_,FM⟩
    ·intro w hw
     have hok:IOq (Q9 t) Q8 t.wires=true:=by
      unfold Io at hpo
      split at hpo
      ·cases hpo
      split at hpo
      ·cases hpo
      split at hpo
      ·cases hpo
      split at hpo
      ·cases hpo
      ·rename_i hne;simpa using hne
     obtain ⟨k,hk⟩:=Af hw
     have:=(lL hok k w hk).1
     unfold Q9 J2 HU at this
     simp only [AR,decide_eq_true_eq] at this
     omega
    ·unfold MT at hpr
     split at hpr
     ·rename_i hne;exact absurd hpr hne
     ·rename_i hne;simpa using hne
def AAs{x:Stp}(h:Yh x=true):(x.kind=0/\x.key.length=0)\/((1<=x.kind/\x.kind<=6)/\x.key.length<=4/\(x.kind=4->0<=x.n/\x.n<=x.m/\x.m<=65535)/\(x.kind=5->UR x.field=true)/\(x.kind=6->(1<=x.n/\x.n<=65535)/\1<=x.m/\x.m<=1073741824)):=by
 unfold Yh at h
 split at h
 ·rename_i he
  left
  unfold bt at he
  simp only [AR,beq_iff_eq] at he
  exact ⟨he.1.1,he.1.2.2.2.2.2⟩
 ·split at h
  ·cases h
  ·rename_i hk
   right
   have hkl:x.key.length<=4:=by
    simp only [not_or] at hk
    omega
   split at h
   ·rename_i e;exact ⟨FM,hkl,FM,FM,FM⟩
   split at h
   ·rename_i e;exact ⟨FM,hkl,FM,FM,FM⟩
   split at h
   ·rename_i e;exact ⟨FM,hkl,FM,FM,FM⟩
   split at h
   ·rename_i e
    simp only [AR,decide_eq_true_eq] at h
    exact ⟨FM,hkl,λ_=>h.2,FM,FM⟩
   split at h
   ·rename_i e
    simp only [AR] at h
    exact ⟨FM,hkl,FM,λ_=>h.1,FM⟩
   split at h
   ·rename_i e
    simp only [AR,decide_eq_true_eq] at h
    exact ⟨FM,hkl,FM,FM,λ_=>⟨⟨h.2.1,h.2.2.1⟩,h.2.2.2.1,h.2.2.2.2⟩⟩
   ·cases h
def dW{l:List Fld}{s:Stp}(h:L4 l s=0):okStp l s:=by
 have hf:Yh s=true:=by
  unfold L4 at h
  split at h
  ·unfold bu at h
   split at h
   ·assumption
   ·cases h
  ·rename_i hn
   simp only [not_or,ne_eq,Decidable.not_not] at hn
   have:=hn.1
   unfold bu at this
   split at this
   ·assumption
   ·cases this
 have hall:s.kind≠0->(Jw s).all (λy=>(FY l y).2)=true:=by
  intro h0
  unfold L4 at h
  split at h
  ·rename_i hc
   rcases hc with hc|hc
   ·unfold bu at hc
    rw [hf] at hc
    exact absurd rfl hc
   ·exact absurd hc h0
  ·split at h
   ·cases h
   ·rename_i hn;simpa using hn
 have hkey:s.kind≠0 -> ∀ nm∈s.key,(FY l nm).2=true:=λh0 nm hm=>by
  refine Ao.1 (hall h0) nm ?_
  unfold Jw
  split
  ·exact hm
  ·exact List.mem_append_left _ hm
 rcases AAs hf with ⟨h0,hk⟩|⟨hkd,hk,h4,h5,h6⟩
 ·exact ⟨FM,FM,hkey,FM,FM,FM,FM⟩
 ·refine ⟨FM,FM,hkey,λhc=>?_,λe=>(h4 e).2.2,λe=>(h6 e).2,λe=>?_⟩
  ·rcases hc with e|e
   ·have:=h4 e;omega
   ·have:=(h6 e).1;omega
  ·refine Ao.1 (hall FM) s.field ?_
   unfold Jw
   have hne:s.field≠⟨#[]⟩:=by
    intro he
    have:=h5 e
    rw [he] at this
    exact absurd this dk
   rw [iN hne]
   exact List.mem_append_right _ (Al.2 rfl)
def QC{l:List Fld}{p:List FF}: ∀ {r:List FF} {i:Nat},Kr l p i r=true -> ∀ (k:Nat) (x:FF),r[k]? =some x -> ∀ y∈p.take (i+k),LG l y.step x.step=false
 | [],i,_,k,x,hx,_,_=>by simp at hx
 | z::r,i,h,k,x,hx,y,hy=>by
  rw [Kr,AR] at h
  match k,hx with
  | 0,hx =>
   have:z=x:=by simpa using hx
   subst this
   have h1:=h.1
   rw [Bool.not_eq_true',List.any_eq_false] at h1
   simpa using h1 y hy
  | k+1,hx =>
   exact QC h.2 k x (by simpa using hx) y (by rw [show i+1+k=i+(k+1) by omega];exact hy)
def Yp{l:List Fld}{s t:Stp}(h:LG l s t=false)(hs:s.kind≠0)(ht:t.kind≠0)(hv:s.var=t.var):s.key.length=t.key.length:=by
 unfold LG at h
 have e1:(s.kind !=0)=true:=by simpa using hs
 have e2:(t.kind !=0)=true:=by simpa using ht
 rw [e1,e2,decide_eq_true hv] at h
 have h3:Tv l s t=true:=by simpa using h
 unfold Tv at h3
 rw [AR,AR] at h3
 have h4:It l s.key=It l t.key:=by
  have:=h3.2.1
  unfold XM at this
  exact of_decide_eq_true this
 have:=congrArg List.length h4
 unfold It at this
 simpa using this
def dX{l:List Fld}{p:List FF}(h:P3 l p=0):okPrg l p/\p.length<=8:=by
 obtain ⟨h1,h2,h3,h4⟩:=pf h
 have hty:Kr l p 0 p=true:=by
  unfold P3 at h
  split at h
  ·rename_i hn;exact absurd h hn
  split at h
  ·rename_i hn;exact absurd h hn
  split at h
  ·assumption
  ·cases h
 refine ⟨⟨λs hs=>dW (h3 s hs).2,λs hs=>(Si (h3 s hs).1).2,λs hs t ht k1 k2 hv=>?_⟩,h1⟩
 obtain ⟨i,hi⟩:=Af hs
 obtain ⟨j,hj⟩:=Af ht
 rcases EQ i j with hij|hij|hij
 ·exact Yp (QC hty j t hj s (AB (i:=i) (by rw [Aj,iP FM];exact hi))) k1 k2 hv
 ·subst hij
  rw [hi] at hj
  cases hj
  rfl
 ·exact (Yp (QC hty i s hi t (AB (i:=j) (by rw [Aj,iP FM];exact hj))) k2 k1 hv.symm).symm
def Mb{s:FC}(hR:R19 s){k:Nat}{t:FD}(ht:s.tenants[k]? =some t):okPrg s.fields (GP t).1/\(GP t).1.length<=8/\(GP t).1.map (·.step)=t.program.map (·.step)/\t.ports.length<=64:=by
 obtain ⟨c1,c2,_⟩:=hR.ckE ht
 obtain ⟨w1,w2,w3⟩:=vt c1
 rcases jz w1 w2 with ⟨g1,_,_⟩|⟨_,g2,g3⟩
 ·rw [g1] at c2;cases c2
 ·obtain ⟨o1,o2⟩:=dX g2
  exact ⟨o1,o2,g3,w3⟩
set_option maxRecDepth 50000
structure okSts (s:FC) (sts:List (List FG)):Prop where
 len:sts.length=s.tenants.length
 st : ∀ (k:Nat) (t:FD) (st:List FG),s.tenants[k]? =some t->sts[k]? =some st->(∀ e∈st,dY e /\ ∀ x∈t.program,YO x.step e)/\st.length<=60
def yO{h:FE}(hr:FV h=true):FV { h with h9:=0 }=true:=by
 unfold FV at hr ⊢
 simp only [Head.l,List.all_cons,List.all_nil,Bool.and_true,AR] at hr ⊢
 exact ⟨hr.1,hr.2.1,hr.2.2.1,hr.2.2.2.1,hr.2.2.2.2.1,hr.2.2.2.2.2.1,hr.2.2.2.2.2.2.1,hr.2.2.2.2.2.2.2.1,hr.2.2.2.2.2.2.2.2.1,dc⟩
def vi{t:FD}{h:FE}(hp:t.ports.length<=64)(hr:FV h=true)(he:(PX t h).2=true):FV (PX t h).1=true:=by
 have h1:=Vu.1 he
 obtain ⟨j,x,h2,_,_,h3⟩:=LN h1
 have hj:=(AD.1 h2).1
 have h4:Hq t (inE h)=((0+j:Nat):Int):=h3
 unfold PX Ka
 have h5:Hq t (i64 (h.h0 - 10000))=((0+j:Nat):Int):=h4
 rw [iN FM,h5]
 exact yO (cR hr FM FM)
def zU{s:FC}(hR:R19 s)(hf:IT s=true)(hb:FP s.c<=1048576){sts:List (List FG)}(hs:okSts s sts){h:FE}(hr:FV h=true){tick:Int}(ht:0<=tick/\tick<=1073741824):okRun s sts h tick:=by
 have hbt : ∀ t∈s.tenants,FP t.c<=1048576:=λt hm=>by
  have h1:=QS (I2 hb) hm
  simpa only [AV.bulk] using h1
 have hnt:s.tenants.length<=8:=by
  unfold IT at hf
  simp only [AR,decide_eq_true_eq] at hf
  have:=hf.2.2.1
  omega
 have hprt : ∀ t∈s.tenants,t.ports.length<=64:=λt hm=>by
  obtain ⟨k,hk⟩:=Af hm
  exact (Mb hR hk).2.2.2
 refine ⟨hb,hR.fld,FM,ht,hs.len,λk t hk=>⟨(Mb hR hk).1,by have:=(Mb hR hk).2.1;omega⟩,λt hm=>?_,λk t st h1 h2=>?_,λc hc=>hR.pred hc,λc hc=>?_,λc hc=>?_,λt hm=>by have:=hprt t hm;omega,λt hm he=>vi (hprt t hm) hr he⟩
 ·have hbm:=hbt t hm
  refine ADh t (AK (OS (IW hbm)) dc) (AK (Mm (HV hbm)) dc) λx hx=>Yu ?_ (OS (IW hbm))
  have h1:=KR (HV hbm) hx
  have h2:FP x.c<=1048576:=by simpa only [AV.bulk] using h1
  exact Ho h2
 ·obtain ⟨g1,g2⟩:=hs.st k t st h1 h2
  refine ⟨λe he=>⟨(g1 e he).1,λx hx=>?_⟩,FM⟩
  have hmap:=(Mb hR h1).2.2.1
  have:x.step∈t.program.map (·.step):=by rw [<- hmap];exact AO.2 ⟨x,hx,rfl⟩
  obtain ⟨y,hy,hxy⟩:=AO.1 this
  rw [<- hxy]
  exact (g1 e he).2 y hy
 ·have h0:=(RZ (hR.con c hc)).2
  have hl:=ABB hR hc
  exact ⟨h0,FM⟩
 ·have h1:=hR.con c hc
  have hl:=ABB hR hc
  have h0:=(RZ h1).2
  unfold Sf at h1
  split at h1
  ·cases h1
  split at h1
  ·cases h1
  rename_i hn
  have hn:dL (Lh s (Hn s c.dst)) c.toPort=true:=by
   cases ho:dL (Lh s (Hn s c.dst)) c.toPort with
   | true=>rfl
   | false=>exact absurd (.inr (.inr ho)) hn
  unfold dL at hn
  simp only [AR,decide_eq_true_eq] at hn
  obtain ⟨u,hu⟩ : ∃ u,s.tenants[(Hn s c.dst).toNat]? =some u:=⟨_,AL hl⟩
  have ht2:Lh s (Hn s c.dst)=u:=by unfold Lh;rw [hu];rfl
  rw [ht2] at hn
  have:=hprt u (AB hu)
  omega
def wN{s:FC}{sts:List (List FG)}{h:FE}{tick:Int}(he:Ol h 0 s.tenants=[]):Tt s sts h tick=some ([],sts):=by
 unfold Tt
 rw [he]
 rfl
def XR(a:FH):Bool:=FV a.head&&(a.head.h9==0&&(decide (0<=a.tick)&&decide (a.tick<=1073741824)))
def wM(a:FH):FO AA 17 [.agg a.c] (.bool (XR a)):=by
 have c1:=wE a.head
 refine pC AXf rfl ?_
 simp only [f17,go_sem]
 repeat' (first|(refine pK (c1) ?_;simp only [go_sem])|(first|apply cS|apply gS)<;>intro hc<;>simp only [go_sem,hc])
 all_goals first
  | rfl
  | (simp only [XR];rfl)
  | grind [XR]
  | (simp only [XR];grind)
  | (simp [XR, *];done)
  | (simp_all [XR];done)
  | skip
def wI(s:FC)(hn:s.tenants.length<=1073741824)(hp : ∀ t∈s.tenants,t.ports.length<=1073741824)(h:FE):FO AA 7 [.agg s.c,.agg h.c] (.int .i64 (ft h 0 s.tenants)):=by
 refine pC AcB rfl ?_
 simp only [f7,go_sem]
 have gN : ∀ a b (L:FN) z,(a::b::(L++[z]))[List.length (a::b::L)]? =some z:=λa b L z=>by
  have:a::b::(L++[z])=(a::b::L)++[z]:=sm
  rw [this];exact Bj
 have sN : ∀ a b (L:FN) z z2,(a::b::(L++[z])).set (List.length (a::b::L)) z2=a::b::(L++[z2]):=λa b L z z2=>by
  have:a::b::(L++[z])=(a::b::L)++[z]:=sm
  rw [this];simp
 refine Fo s.tenants (λ(_:FN) (r:List FD)=>ft h (s.tenants.length - r.length) r) (λ_ _=>True) (λk _=>[(3,.ptr 1 0),(10,.sl none (HT s.tenants)),(11,.int .i64 s.tenants.length),(12,.int .i64 k)])
  (λ_ L=>some s.c::some h.c::L) [] FM trivial rfl rfl ?_ ?_
 ·intro k L t ts hd hx _ hF h0 h1 hw
  have c1:=aH t (hp t (AB hx)) h
  have eT:Ka (Hq t (i64 (h.h0 - 10000))) h=PX t h:=rfl
  rw [eT] at c1
  have hk2:=Fl hd
  have e1:s.tenants.length - (ts.length+1)=k:=FM
  have e2:s.tenants.length - ts.length=k+1:=FM
  simp only [AC,e1,e2] at hF ⊢
  simp only [go_sem,h0,h1,Fq hx,gN,sN]
  refine pK c1 ?_
  cases he:(PX t h).2 with
  | true =>
   simp only [go_sem,gN,sN,he]
   rw [AQ] at hF
   rw [hF,ft,iP he]
  | false =>
   simp only [go_sem,gN,sN,he,hw]
   exact ⟨_,by rw [e1,e2,ft,iN (by rw [he];decide)],rfl,rfl⟩
 ·intro L _ hF
  simp only [go_sem,AY,dF]
  rw [AQ] at hF
  rw [hF];rfl
def vm(a:ByteArray):Z8 a a=0:=by unfold Z8;rw [Ze,iN dc,iP rfl]
def Yn(x:Int):Pi x x=0:=by unfold Pi;simp
def Sg : ∀ l:List Int,N7 l l=0
 | []=>rfl
 | x::l=>by rw [N7,Yn,iN dc];exact Sg l
def vl(e:FG):Sh e e=0:=by unfold Sh;rw [vm,iN dc,Sg]
def ABc(a b:List Int)(ha:a.length<=1073741824):FO AA 61 [.sl none (GH a),.sl none (GH b)] (.int .i64 (N7 a b)):=by
 have ea:(GH a).length=a.length:=HO a
 have eb:(GH b).length=b.length:=HO b
 refine pC AWK rfl ?_
 simp only [f61,go_sem]
 refine Fo a (λ(_:Unit) r=>N7 r (b.drop (a.length - r.length))) (λk _=>k<=b.length) (λk _=>[(0,.sl none (GH a)),(1,.sl none (GH b)),(5,.int .i64 k)]) (λ_ _=>[]) () FM (Nat.zero_le _) rfl rfl ?_ ?_
 ·intro k _ x xs hd hx hI hF h0 h1 hw
  have hk:=Fl hd
  have e1:a.length - (xs.length+1)=k:=FM
  have e2:a.length - xs.length=k+1:=FM
  simp only [AC,e1,e2,AQ,BN] at hF ⊢
  by_cases hkb:k<b.length
  ·obtain ⟨y,hy⟩ : ∃ y,b[k]? =some y:=⟨_,AL hkb⟩
   have hnb:(k:Int)<(b.length:Int):=FM
   rw [US hy,N7] at hF
   simp only [go_sem,h0,h1,GF hx,GF hy,ea,eb,hnb,dT]
   repeat' (first|(first|apply cS|apply gS)<;>intro hc<;>simp only [go_sem,hc,h0,h1,GF hx,GF hy,ea,eb,hnb,hw])
   ·have hc:=of_decide_eq_true hc
    have e3:Pi x y = -1:=by unfold Pi;rw [iP hc]
    rw [e3,iP dc] at hF
    rw [hF]
   ·rename_i hc1
    have hc1:=of_decide_eq_false hc1
    have hc2:=of_decide_eq_true hc
    have e3:Pi x y=1:=by unfold Pi;rw [iN hc1];first|rw [iP hc2]|rw [iN FM]
    rw [e3,iP dc] at hF
    rw [hF]
   ·rename_i hc1
    have hc1:=of_decide_eq_false hc1
    have hc2:=of_decide_eq_false hc
    have:x=y:=FM
    subst this
    rw [e1,e2,US hy,N7,Yn,iN dc]
    exact ⟨(),rfl,FM⟩
  ·have hnb : ¬ (k:Int)<(b.length:Int):=FM
   rw [List.drop_eq_nil_of_le FM,N7] at hF
   have l1 : ¬ (a.length:Int)<(b.length:Int):=FM
   have l2:(b.length:Int)<(a.length:Int):=FM
   simp only [go_sem,h0,h1,GF hx,ea,eb,hnb,dF,l1,l2,dT]
   rw [hF]
 ·intro _ hI hF
  rw [AQ,BN,AG,Nat.sub_zero] at hF
  simp only [go_sem,AY,dF,ea,eb]
  cases hr:b.drop a.length with
  | nil =>
   have hlen:b.length<=a.length:=by simpa using hr
   rw [hr,N7] at hF
   have l1 : ¬ (a.length:Int)<(b.length:Int):=FM
   have l2 : ¬ (b.length:Int)<(a.length:Int):=FM
   simp only [go_sem,l1,l2,dF,ea,eb]
   rw [hF]
  | cons y ys =>
   have hlen:a.length<b.length:=by have:=Fl hr;omega
   have l1:(a.length:Int)<(b.length:Int):=FM
   rw [hr,N7] at hF
   simp only [go_sem,l1,dT]
   rw [hF]
def ABa(l:List FG)(hl:l.length<=1073741824)(hk : ∀ e∈l,e.key.length<=1073741824)(hK : ∀ a:List Int,a.length<=1073741824->FO AA 61 [.sl none (GH a),.sl none (GH a)] (.int .i64 0)):FO AA 33 [.sl none (FX l),.sl none (FX l)] (.bool true):=by
 have el:(FX l).length=l.length:=Hw l
 have n0:((l.length:Int) !=(l.length:Int))=false:=sm
 refine pC AXM rfl ?_
 simp only [f33,go_sem,el,n0]
 refine Fo l (λ(_:Unit) _=>()) (λ_ _=>True) (λk _=>[(0,.sl none (FX l)),(1,.sl none (FX l)),(5,.int .i64 k)]) (λ_ _=>[]) () FM trivial rfl rfl ?_ ?_
 ·intro k _ x xs hd hx _ _ h0 h1 hw
  have c1:=hK x.key (hk x (AB hx))
  have v0:(x.var.toList==x.var.toList)=true:=sm
  have v1:(x.n !=x.n)=false:=sm
  have v2:(x.at_ !=x.at_)=false:=sm
  simp only [go_sem,h0,h1,F6 hx,el,v0,v1,v2,Ar]
  refine pK c1 ?_
  have z0:((0:Int) !=0)=false:=rfl
  simp only [go_sem,z0,hw]
  exact ⟨(),trivial⟩
 ·intro _ _ _
  simp only [go_sem,AY,dF,el]
def wL(l:List FG)(hl:l.length<=1073741824)(hk : ∀ e∈l,e.key.length<=1073741824):FO AA 33 [.sl none (FX l),.sl none (FX l)] (.bool true) :=
 ABa l hl hk λa ha=>by
  have:=ABc a a ha
  rwa [Sg] at this
def wJ(l:List (List FG))(hl:l.length<=1073741824)(hk : ∀ x∈l,x.length<=1073741824 /\ ∀ e∈x,e.key.length<=1073741824):FO AA 8 [.sl none (G8 l),.sl none (G8 l)] (.bool true):=by
 have el:(G8 l).length=l.length:=Ml l
 have n0:((l.length:Int) !=(l.length:Int))=false:=sm
 refine pC Ab8 rfl ?_
 simp only [f8,go_sem,el,n0]
 refine Fo l (λ(_:Unit) _=>()) (λ_ _=>True) (λk _=>[(0,.sl none (G8 l)),(1,.sl none (G8 l)),(5,.int .i64 k)]) (λ_ _=>[]) () FM trivial rfl rfl ?_ ?_
 ·intro k _ x xs hd hx _ _ h0 h1 hw
  have hx2:=hk x (AB hx)
  have c1:=wL x hx2.1 hx2.2
  simp only [go_sem,h0,h1,IQ hx,el]
  refine pK c1 ?_
  simp only [go_sem,hw,Ar]
  exact ⟨(),trivial⟩
 ·intro _ _ _
  simp only [go_sem,AY,dF,el]
def AEn(a b:FG)(ha:a.key.length<=1073741824):FO AA 174 [.agg a.c,.agg b.c] (.int .i64 (Sh a b)):=by
 have c1:=ABc a.key b.key ha
 refine pC AMo rfl ?_
 simp only [f174,go_sem]
 repeat' (first|(refine pK (c1) ?_;simp only [go_sem,FL])|(first|apply cS|apply gS)<;>intro hc<;>simp only [go_sem,hc,FL])
 ·have h1:TD a.var b.var=true:=hc
  simp [Sh,Z8,h1]
 ·rename_i hc1
  have h1:TD a.var b.var=false:=hc1
  have h2 : ¬ a.var=b.var:=by simpa using hc
  simp [Sh,Z8,h1,h2]
 ·rename_i hc1
  have h1:TD a.var b.var=false:=hc1
  have h2:a.var=b.var:=by simpa using hc
  simp [Sh,Z8,h1,h2,Ze]
def ADj(a:FG)(ha:a.key.length<=1073741824):FO AA 41 [.agg a.c,.agg a.c] (.bool true):=by
 have c1:=ki a a ha
 rw [vl] at c1
 have v1:(a.n==a.n)=true:=sm
 have v2:(a.at_==a.at_)=true:=sm
 have v3:((0:Int)==0)=true:=rfl
 refine pC AWr rfl ?_
 simp only [f41,go_sem]
 refine pK c1 ?_
 simp only [go_sem,v1,v2,v3]
def zE(l:List FG)(hl:l.length<=1073741824)(hk : ∀ e∈l,e.key.length<=1073741824):FO AA 40 [.sl none (FX l),.sl none (FX l),.fn (.func 41) [] []] (.bool true):=by
 have el:(FX l).length=l.length:=Hw l
 have n0:((l.length:Int) !=(l.length:Int))=false:=sm
 refine pC AWw rfl ?_
 simp only [f40,go_sem,el,n0]
 refine Fo l (λ(_:Unit) _=>()) (λ_ _=>True) (λk _=>[(1,.sl none (FX l)),(2,.fn (.func 41) [] []),(15,.sl none (FX l)),(16,.int .i64 l.length),(17,.int .i64 k)]) (λ_ _=>[]) () FM trivial rfl rfl ?_ ?_
 ·intro k _ x xs hd hx _ _ h0 h1 hw
  have c1:=ADj x (hk x (AB hx))
  simp only [go_sem,h0,h1,F6 hx,el,AE,AC,AG,AX,Nat.reduceAdd]
  refine Fs.pure c1 ?_
  simp only [go_sem,hw,Ar]
  exact ⟨(),trivial⟩
 ·intro _ _ _
  simp only [go_sem,AY,dF,el]
def o6(l:List FG)(hl:l.length<=1073741824)(hk : ∀ e∈l,e.key.length<=1073741824):FO AA 14 [.sl none (FX l),.sl none (FX l)] (.bool true):=by
 refine pC AXm rfl ?_
 simp only [f14,go_sem]
 repeat' (first|(refine pK (zE l hl hk) ?_;simp only [go_sem])|(first|apply cS|apply gS)<;>intro hc<;>simp only [go_sem,hc])
def N3(l:List FI):List AV:=l.map λx => .agg x.c
@[go_sem] def dz(l:List FI):(N3 l).length=l.length:=by simp [N3]
def VH{l:List FI}{i:Nat}{x:FI}(h:l[i]? =some x):(N3 l)[i]? =some (.agg x.c):=by simp [N3,h]
@[go_sem] def ASc(a:List FI)(x:FI):N3 a++[.agg x.c]=N3 (a++[x]):=by simp [N3]
@[go_sem] def rT(l:List FI):FQ (N3 l)=true:=by
 induction l with
 | nil=>rfl
 | cons x xs ih=>simpa [N3,FQ,AV.pure] using ⟨T0 x,ih⟩
def m7(l:List FI)(hl:l.length<=1073741824)(v:ByteArray):FO AA 172 [.sl none (N3 l),.str v] (.int .i64 (H9 (λx:FI=>decide (x.name=v)) l)):=by
 have el:(N3 l).length=l.length:=dz l
 refine pC AMu rfl ?_
 simp only [f172,go_sem]
 refine FZ l (λr=>HF (λx:FI=>decide (x.name=v)) (l.length - r.length) r) (λk=>[(0,.sl none (N3 l)),(1,.str v),(5,.int .i64 k)]) FM rfl ?_ ?_
 ·intro k x xs hd hx hF h0 h1 hw
  have hk2:=Fl hd
  have e1:l.length - (xs.length+1)=k:=FM
  have e2:l.length - xs.length=k+1:=FM
  simp only [AC,e1,AQ] at hF
  simp only [go_sem,h0,h1,VH hx,el,e1,e2,FL]
  repeat' (first|(first|apply cS|apply gS)<;>intro hc<;>simp only [go_sem,hc,h0,h1,hw,VH hx,el,e1,e2])
  ·rw [H9,hF,HF,iP hc]
  ·rw [HF,iN (by rw [hc];decide)]
 ·intro hF hlt
  simp only [go_sem,hlt,dF,el]
  rw [AQ] at hF
  rw [H9,hF];rfl
def AEj(l:List FG)(hl:l.length<=1073741824)(v:ByteArray):FO AA 175 [.sl none (FX l),.str v] (.int .i64 (W8 l v).length):=by
 have el:(FX l).length=l.length:=Hw l
 refine pC AMl rfl ?_
 simp only [f175,go_sem]
 refine Fo l (λ(_:Unit) _=>()) (λ_ _=>True) (λk _=>[(0,.sl none (FX l)),(1,.str v),(5,.int .i64 (W8 (l.take k) v).length),(6,.int .i64 k)]) (λ_ _=>[]) () FM trivial rfl rfl ?_ ?_
 ·intro k _ x xs hd hx _ _ h0 h1 hw
  have hkl:=(AD.1 hx).1
  have hle:(W8 (l.take k) v).length<=k:=AK (List.length_filter_le _ _) (by rw [BI];omega)
  have hw2:IntKind.i64.wrap (((W8 (l.take k) v).length:Int)+1)=(((W8 (l.take k) v).length+1:Nat):Int):=Mc FM
  have htk:l.take (k+1)=l.take k++[x]:=by rw [BF,hx];rfl
  simp only [go_sem,h0,h1,F6 hx,el,FL]
  repeat' (first|(first|apply cS|apply gS)<;>intro hc<;>simp only [go_sem,hc,h0,h1,hw,hw2,F6 hx,el])
  ·have hv:x.var=v:=of_decide_eq_true hc
   have:W8 (l.take (k+1)) v=W8 (l.take k) v++[x]:=by rw [htk];unfold W8;rw [Cb];simp [hv]
   rw [this]
   exact ⟨(),by first|rw [AE];rfl|rfl,rfl⟩
  ·have hv : ¬ x.var=v:=of_decide_eq_false hc
   have:W8 (l.take (k+1)) v=W8 (l.take k) v:=by rw [htk];unfold W8;rw [Cb];simp [hv]
   rw [this]
   exact ⟨(),by first|rw [AE];rfl|rfl,rfl⟩
 ·intro _ _ _
  simp only [go_sem,AY,dF,el,BO]
def wH(n:Int)(hn:n<9223372036854775807):FO AA 232 [.int .i64 n] (.int .i64 (Wx n.toNat)):=by
 refine pC AKO rfl ?_
 simp only [f232,go_sem]
 refine aQ n.toNat (λk=>[(0,.int .i64 n),(3,.int .i64 (Wx k)),(4,.int .i64 k)]) (λ_=>[]) rfl rfl ?_
 intro k hk
 by_cases h:(k:Int)<n
 ·have hw:=Mc (k:=k) FM
  simp only [go_sem,h,dT,hw]
  exact ⟨FM,rfl,rfl⟩
 ·have:k=n.toNat:=FM
  subst this
  simp only [go_sem,h,dF]
def mN(v:FI)(e:FG):Prop:=e.key.length=v.widths.length/\(0<=e.n/\e.n<=65535)/\(0<=e.at_/\e.at_<=1073741824) /\ ∀ x∈e.key,0<=x
def AGn(v:FI)(hw : ∀ w∈v.widths,w<9223372036854775807)(e:FG)(hk:e.key.length<=1073741824)(l:List FG)(hl:l.length<=1073741824):KG AA 173 [.agg v.c,.agg e.c,.sl none (FX l)] λr => ∃ b,r = .bool b/\(b=true->mN v e):=by
 have el:(FX l).length=l.length:=Hw l
 have ek:(GH e.key).length=e.key.length:=HO _
 have ew:(GH v.widths).length=v.widths.length:=HO _
 refine qC AMr rfl ?_
 by_cases hb:e.key.length=v.widths.length/\(0<=e.n/\e.n<=65535)/\(0<=e.at_/\e.at_<=1073741824)
 ·obtain ⟨b0,⟨b1,b2⟩,b3,b4⟩:=hb
  have n0:((e.key.length:Int) !=(v.widths.length:Int))=false:=by simp [b0]
  have n1 : ¬ e.n<0:=FM
  have n2 : ¬ 65535<e.n:=FM
  have n3 : ¬ e.at_<0:=FM
  have n4 : ¬ 1073741824<e.at_:=FM
  simp only [f173,go_sem,ek,ew,n0,n1,n2,n3,n4,dF]
  refine Fo e.key (λ(_:Unit) _=>()) (λk _ => ∀ x∈e.key.take k,0<=x) (λk _=>[(2,.sl none (FX l)),(3,.ptr 0 0),(4,.ptr 1 0),(7,.int .i64 k)]) (λ_ _=>[some v.c,some e.c]) () FM sm rfl rfl ?_ ?_
  ·intro k _ x xs hd hx hI _ h0 h1 hw1
   obtain ⟨w,hwx⟩ : ∃ w,v.widths[k]? =some w:=⟨_,AL (by have:=(AD.1 hx).1;omega)⟩
   have hkw:(k:Int)<(v.widths.length:Int):=FM
   have c1:=wH w (hw w (AB hwx))
   have htk:e.key.take (k+1)=e.key.take k++[x]:=by rw [BF,hx];rfl
   simp only [go_sem,h0,h1,ek,ew,GF hx,GF hwx,hkw]
   repeat' (first|(refine pK (c1) ?_;simp only [go_sem,h0,h1,hw1,ek,ew,GF hx,GF hwx,hkw])|(first|apply cS|apply gS)<;>intro hc<;>simp only [go_sem,hc,h0,h1,hw1,ek,ew,GF hx,GF hwx,hkw])
   all_goals first|exact ⟨rfl,false,rfl,sm⟩|skip
   ·rename_i hc1
    refine ⟨(),λy hy=>?_⟩
    rw [htk] at hy
    rcases Ay.1 hy with hy|hy
    ·exact hI y hy
    ·rcases Al.1 hy with rfl
     have:=of_decide_eq_false hc1
     omega
  ·intro _ hI _
   have hq:mN v e:=⟨b0,⟨b1,b2⟩,⟨b3,b4⟩,by rw [BO] at hI;exact hI⟩
   simp only [go_sem,AY,dF,ek]
   repeat' (first|(first|apply cS|apply gS)<;>intro hc<;>simp only [go_sem,hc,ek,el])
   all_goals first|exact ⟨rfl,_,rfl,λ_=>hq⟩|skip
   refine Fo l (λ(_:Unit) _=>()) (λ_ _=>True) (λk _=>[(2,.sl none (FX l)),(3,.ptr 0 0),(4,.ptr 1 0),(8,.int .i64 k)]) (λ_ _=>[some v.c,some e.c]) () FM trivial rfl rfl ?_ ?_
   ·intro k _ x xs hd hx _ _ h0 h1 hw1
    simp only [go_sem,h0,h1,el,F6 hx]
    repeat' (first|(first|apply cS|apply gS)<;>intro hc<;>simp only [go_sem,hc,h0,h1,hw1,el,F6 hx])
    all_goals first|exact ⟨rfl,_,rfl,λ_=>hq⟩|exact ⟨(),trivial⟩|skip
   ·intro _ _ _
    simp only [go_sem,AY,dF,el]
    repeat' (first|(first|apply cS|apply gS)<;>intro hc<;>simp only [go_sem,hc,el])
    all_goals first|exact ⟨rfl,_,rfl,λ_=>hq⟩|skip
 ·simp only [f173,go_sem,ek,ew]
  repeat' (first|(first|apply cS|apply gS)<;>intro hc<;>simp only [go_sem,hc,ek,ew])
  all_goals first|exact ⟨rfl,false,rfl,sm⟩|skip
  rename_i g1 g2 g3 g4
  have g1:(e.key.length:Int)=(v.widths.length:Int):=by simpa using g1
  have g2:=of_decide_eq_false g2
  have g3:=of_decide_eq_false g3
  have g4:=of_decide_eq_false g4
  have g5:=of_decide_eq_false hc
  exact absurd ⟨FM,⟨FM,FM⟩,FM,FM⟩ hb
def Aaw(l:List FG):Prop:=∀ (k:Nat) (y x:FG),l[k]? =some y->l[k+1]? =some x->Sh y x<0
def fE:Hint:={ h94 with pc:=[20,49,60] }
@[go_sem] def AbP(k:Nat):fE.lv k=h94.lv k/\fE.ct k=h94.ct k/\fE.at k=h94.at k/\fE.dn k=h94.dn k:=⟨AH rfl rfl,AH rfl rfl,AH rfl rfl,AH rfl rfl⟩
@[go_sem] def Ab2:fE.tk=[]/\fE.mt=[]/\fE.pc=[20,49,60]:=⟨rfl,rfl,rfl⟩
def AHV:FK AA 94 f94 fE:=⟨kr,kr,func94,kr⟩
def qg(vs:List FI)(hv:vs.length<=1073741824)(hw : ∀ v∈vs,∀ w∈v.widths,w<9223372036854775807)(l:List FG)(hl:l.length<=1073741824)(hk : ∀ e∈l,e.key.length<=1073741824):KG AA 94 [.sl none (N3 vs),.sl none (FX l)] λr => ∃ n,r = .int .i64 n/\(n=0->(∀ e∈l,∃ v∈vs,v.name=e.var/\mN v e)/\Aaw l):=by
 have el:(FX l).length=l.length:=Hw l
 have ev:(N3 vs).length=vs.length:=dz vs
 refine qC AHV rfl ?_
 simp only [f94,go_sem]
 refine Fo l (λ(_:Unit) _=>()) (λk _=>(∀ e∈l.take k,∃ v∈vs,v.name=e.var/\mN v e) /\ ∀ (i:Nat) (y z:FG),i+1<k->l[i]? =some y->l[i+1]? =some z->Sh y z<0) (λk _=>[(0,.sl none (N3 vs)),(1,.sl none (FX l)),(5,.int .i64 k)]) (λ_ _=>[]) () FM ⟨sm,λi y z hi=>FM⟩ rfl rfl ?_ ?_
 ·rintro k _ x xs hd hx ⟨hI,hJ⟩ _ h0 h1 hw1
  have hkx:=hk x (AB hx)
  have c1:=m7 vs hv x.var
  have htk:l.take (k+1)=l.take k++[x]:=by rw [BF,hx];rfl
  have hkl:=(AD.1 hx).1
  have hkle:(k:Int)<=(l.length:Int):=FM
  have htl:(l.take k).length<=1073741824:=by rw [BI];omega
  have c3:=AEj (l.take k) htl x.var
  have htl2:(FX (l.take k)).length=k:=by rw [Hw,BI];omega
  simp only [go_sem,h0,h1,el,F6 hx]
  refine pK c1 ?_
  rcases NW (λv:FI=>decide (v.name=x.var)) vs 0 with ⟨w1,w2⟩|⟨i,v,w1,w2,w3⟩
  ·have e1:H9 (λv:FI=>decide (v.name=x.var)) vs = -1:=w1
   rw [e1]
   have z1:(-1:Int)<0:=dc
   simp only [go_sem,z1,dT]
   exact ⟨rfl,4,rfl,λh=>absurd h dc⟩
  ·have e1:H9 (λv:FI=>decide (v.name=x.var)) vs=(i:Int):=by rw [H9,w1,AX]
   have hvm:=AB w2
   have hvn:v.name=x.var:=by have:=List.find?_some w3;simpa using this
   have hiv:(i:Int)<(vs.length:Int):=by have:=(AD.1 w2).1;omega
   have i0:(0:Int)<=(i:Int):=FM
   have i1 : ¬ (i:Int)<0:=FM
   have q1:=AGn v (hw v hvm) x hkx (l.take k) htl
   rw [e1]
   have hkne : ¬ ((k:Int)=(l.length:Int)):=FM
   have hnx:mN v x->(∀ y,0<k->l[k - 1]? =some y->Sh y x<0)->(∀ e∈l.take (k+1),∃ v∈vs,v.name=e.var/\mN v e) /\ ∀ (i:Nat) (y z:FG),i+1<k+1->l[i]? =some y->l[i+1]? =some z->Sh y z<0:=λhf hq=>⟨λe he=>by
    rw [htk] at he
    rcases Ay.1 he with he|he
    ·exact hI e he
    ·rcases Al.1 he with rfl
     exact ⟨v,hvm,hvn,hf⟩,λi y z hi hy hz=>by
    by_cases hik:i+1<k
    ·exact hJ i y z hik hy hz
    ·have hik:i+1=k:=FM
     rw [hik,hx] at hz
     cases hz
     exact hq y FM (by rw [<- hik];exact hy)⟩
   simp only [go_sem,i0,i1,hiv,dF,VH w2,h0,h1,el,ev,hkle,hkne,F6 hx]
   refine K3 q1 λr hr=>?_
   obtain ⟨b,rfl,hb⟩:=hr
   cases b with
   | false =>
    simp only [go_sem,Av]
    exact ⟨rfl,1,rfl,λh=>absurd h dc⟩
   | true =>
    have hnx:=hnx (hb rfl)
    rcases Nat.eq_zero_or_pos k with hz|hz
    ·have hnx:=hnx λy hk0=>FM
     have g0 : ¬ (0:Int)<(k:Int):=FM
     simp only [go_sem,Ar,g0,dF,h0,h1,el,hkle,hkne,F6 hx]
     repeat' (first|(refine pK (c3) ?_;simp only [go_sem,h0,h1,hw1,el,hkle,hkne,F6 hx])|(first|apply cS|apply gS)<;>intro hc<;>simp only [go_sem,hc,h0,h1,hw1,el,hkle,hkne,F6 hx])
     all_goals first|exact ⟨rfl,2,rfl,λh=>absurd h dc⟩|exact ⟨(),hnx,rfl,rfl⟩|exact ⟨(),hnx⟩
    ·have g0:(0:Int)<(k:Int):=FM
     obtain ⟨y,hy⟩ : ∃ y,l[k - 1]? =some y:=⟨_,AL FM⟩
     have c2:=AEn y x (hk y (AB hy))
     have hwk:IntKind.i64.wrap ((k:Int) - 1)=((k - 1:Nat):Int):=by rw [OD FM FM];omega
     have g1:(0:Int)<=((k - 1:Nat):Int):=FM
     have g2:((k - 1:Nat):Int)<(l.length:Int):=FM
     simp only [go_sem,Ar,g0,g1,g2,hwk,dT,h0,h1,el,hkle,hkne,F6 hx,F6 hy]
     repeat' (first|((first|refine pK (c2) ?_|refine pK (c3) ?_);simp only [go_sem,h0,h1,hw1,g1,g2,hwk,el,hkle,hkne,F6 hx,F6 hy])|(first|apply cS|apply gS)<;>intro hc<;>simp only [go_sem,hc,h0,h1,hw1,g1,g2,hwk,el,hkle,hkne,F6 hx,F6 hy])
     all_goals first|exact ⟨rfl,10,rfl,λh=>absurd h dc⟩|exact ⟨rfl,2,rfl,λh=>absurd h dc⟩|exact ⟨(),hnx (λy2 _ hy2=>by rw [hy] at hy2;cases hy2;simp only [decide_eq_false_iff_not] at *;omega),rfl,rfl⟩|exact ⟨(),hnx (λy2 _ hy2=>by rw [hy] at hy2;cases hy2;simp only [decide_eq_false_iff_not] at *;omega)⟩
 ·rintro _ ⟨hI,hJ⟩ _
  simp only [go_sem,AY,dF,el]
  rw [BO] at hI
  exact ⟨rfl,0,rfl,λ_=>⟨hI,λi y z hy hz=>hJ i y z (AD.1 hz).1 hy hz⟩⟩
def geB(a b:ByteArray):Bool:=!TD a b
def JZ(n:ByteArray):Bool->List ByteArray->List ByteArray
 | d,[]=>if d then [] else [n]
 | d,x::r=>(if geB x n=true/\d=false then [n] else [])++((if x≠n then [x] else [])++JZ n (d||geB x n) r)
def SE(l:List ByteArray)(n:ByteArray):List ByteArray:=JZ n false l
def ARa(l:List ByteArray)(n:ByteArray)(hl:l.length<=1073741824):FO AA 176 [.sl none (G9 l),.str n] (.sl none (G9 (SE l n))):=by
 have el:(G9 l).length=l.length:=Ln l
 refine pB AMi rfl ?_
 simp only [f176,go_sem]
 refine Fo l (λ(s:List ByteArray×Bool) r=>s.1++JZ n s.2 r) (λk s=>s.1.length<=2*k) (λk s=>[(0,.sl none (G9 l)),(1,.str n),(5,.sl (some 1) (G9 s.1)),(6,.bool s.2),(7,.int .i64 k)]) (λk o=>[]) ([],false) FM sm rfl rfl ?_ ?_
 ·rintro k ⟨o,d⟩ y ys hd hx hI hF h0 h1 hw
  dsimp only at hI hF ⊢
  have hk2:=Fl hd
  obtain ⟨g1,g2,g3,g4,g5⟩:(o.length+1)*16<=140737488355328/\o.length<=9223372036854775806/\(o.length+1+1)*16<=140737488355328/\o.length+1<=9223372036854775806/\o.length<=9223372036854775805:=by
   have hm:o.length<=2147483648:=AK hI FM
   generalize o.length=m at hm
   omega
  simp only [go_sem,h0,h1,Fu hx,el]
  repeat' (first|(first|apply cS|apply gS)<;>intro hc<;>simp only [go_sem,hc,h0,h1,hw,Fu hx,el,FL,AE,Bs,g1,g2,g3,g4,g5])
  all_goals first
   | exact ⟨(o++[n,y],true),by grind [JZ,geB,TD],by simp;omega,rfl,rfl⟩
   | exact ⟨(o++[n],true),by grind [JZ,geB,TD],by simp;omega,rfl,rfl⟩
   | exact ⟨(o++[y],d),by grind [JZ,geB,TD],by simp;omega,rfl,rfl⟩
   | exact ⟨(o,d),by grind [JZ,geB,TD],by simp;omega,rfl,rfl⟩
   | skip
 ·rintro ⟨o,d⟩ hI hF
  dsimp only at hI hF ⊢
  obtain ⟨g1,g2⟩:(o.length+1)*16<=140737488355328/\o.length<=9223372036854775806:=by
   have hm:o.length<=2147483648:=AK hI FM
   generalize o.length=m at hm
   omega
  simp only [go_sem,AY,dF,el]
  repeat' (first|(first|apply cS|apply gS)<;>intro hc<;>simp only [go_sem,hc,g1,g2])
  all_goals first
   | rfl
   | (simp only [SE,JZ];rfl)
   | grind [SE,JZ]
   | (simp only [SE,JZ];grind)
   | (simp [SE,JZ, *];done)
   | (simp_all [SE,JZ];done)
   | skip
def MK(o:List ByteArray):List FF->List ByteArray
 | []=>o
 | x::r=>MK (if x.step.kind=0 then o else SE o x.step.var) r
def QI(n:ByteArray): ∀ (l:List ByteArray) (d:Bool),(JZ n d l).length<=2*l.length+1
 | [],d=>by cases d<;>simp [JZ]
 | x::l,d=>by
  rw [JZ,AE,AE,AC]
  have:=QI n l (d||geB x n)
  split<;>split<;>simp<;>omega
def eu:Hint:={ h95 with tk:=[89,93] }
@[go_sem] def AbE(k:Nat):eu.lv k=h95.lv k/\eu.ct k=h95.ct k/\eu.at k=h95.at k/\eu.dn k=h95.dn k:=⟨AH rfl rfl,AH rfl rfl,AH rfl rfl,AH rfl rfl⟩
@[go_sem] def Abm:eu.tk=[89,93]/\eu.mt=[]/\eu.pc=[33,70,75,78]:=⟨rfl,rfl,rfl⟩
def AHL:FK AA 95 f95 eu:=⟨kr,kr,func95,kr⟩
def vW(l:List Fld)(nm:ByteArray)(a:FI×Bool)(s:Stp):FI×Bool :=
 if s.kind=0\/s.var≠nm then a
 else if Lk s=true/\a.2=false then ({ a.1 with family:=LQ s.kind,widths:=It l s.key,n:=s.n,m:=s.m },true)
 else ({ a.1 with family:=LQ s.kind,widths:=It l s.key },a.2)
def xL(l:List Fld)(nm:ByteArray)(a:FI×Bool):List FF->FI×Bool
 | []=>a
 | x::r=>xL l nm (vW l nm a x.step) r
def Ub(l:List Fld)(p:List FF)(nm:ByteArray):FI:=(xL l nm (⟨nm,0,[],0,0⟩,false) p).1
def NE(l:List Fld)(p:List FF):List FI:=(MK [] p).map (Ub l p)
def ABZ(l:List Fld)(p:List FF)(hp:p.length<=8)(hk : ∀ x∈p,x.step.key.length<=1048576):FO AA 95 [.sl none (GL l),.sl none (F7 p)] (.sl none (N3 (NE l p))):=by
 have el:(F7 p).length=p.length:=NS p
 refine pB AHL rfl ?_ (hv:=by simp [AV.pure,rT])
 simp only [f95,go_sem]
 refine Fo p (λ(s:Option Nat×List ByteArray) r=>MK s.2 r) (λk s=>s.2.length<4^k) (λk s=>[(0,.sl none (GL l)),(1,.sl none (F7 p)),(5,.sl s.1 (G9 s.2)),(6,.int .i64 k)]) (λ_ _=>[]) (some 1,[]) FM dc rfl rfl ?_ ?_
 ·rintro k ⟨w,o⟩ x xs hd hx hI hF h0 h1 hw
  dsimp only at hI hF ⊢
  have hkl:=(AD.1 hx).1
  have h48:(4:Nat)^k<=4^8:=Bb dc FM
  have hol:o.length<65536:=BR hI h48
  have c1:=ARa o x.step.var FM
  have hl2:(SE o x.step.var).length<4^(k+1):=by
   have:=QI x.step.var o false
   have h4:(4:Nat)^(k+1)=4*4^k:=by rw [DK];omega
   unfold SE
   omega
  have hl3:o.length<4^(k+1):=by
   have h4:(4:Nat)^(k+1)=4*4^k:=by rw [DK];omega
   omega
  by_cases h00:x.step.kind=0
  ·have z0:(x.step.kind !=0)=false:=by simp [h00]
   simp only [go_sem,h0,h1,Fe hx,el,z0,hw]
   exact ⟨(w,o),by rw [MK,iP h00],hl3,rfl,rfl⟩
  ·have z0:(x.step.kind !=0)=true:=by simp [h00]
   simp only [go_sem,h0,h1,Fe hx,el,z0]
   refine pK c1 ?_
   simp only [go_sem,hw]
   exact ⟨(none,SE o x.step.var),by rw [MK,iN h00],hl2,rfl,rfl⟩
 ·rintro ⟨w,o⟩ hI hF
  dsimp only at hI hF ⊢
  have hol:o.length<65536:=BR hI (Bb dc hp)
  have ho:MK [] p=o:=hF
  have eo:(G9 o).length=o.length:=Ln o
  simp only [go_sem,AY,dF,el]
  refine Fo o (λ(s:List FI×FN) r=>s.1++r.map (Ub l p)) (λk s=>s.1.length=k) (λk s=>[(0,.sl none (GL l)),(1,.sl none (F7 p)),(5,.sl w (G9 o)),(7,.sl (some 5) (N3 s.1)),(8,.int .i64 k)]) (λ_ s=>s.2) ([],[]) FM rfl rfl rfl ?_ ?_
  ·rintro k ⟨out,J⟩ nm nms hd hx hI2 hF2 h0 h1 hw
   dsimp only at hI2 hF2 ⊢
   have hsp:Hl (Variable.z.cf (some 1)) [AV.str nm]=(⟨nm,0,[],0,0⟩:FI).cf (some 1):=rfl
   have gB : ∀ y L,(J++y::L)[J.length]? =some y:=λy L=>sm
   have sB : ∀ y z L,(J++y::L).set J.length z=J++z::L:=λy z L=>by
    rw [List.set_append_right _ _ (AU _)];simp
   have gN : ∀ y L z,(J++y::(L++[z]))[List.length (J++y::L)]? =some z:=λy L z=>by
    have:J++y::(L++[z])=(J++y::L)++[z]:=sm
    rw [this];exact Bj
   have sN : ∀ y L z z2,(J++y::(L++[z])).set (List.length (J++y::L)) z2=J++y::(L++[z2]):=λy L z z2=>by
    have:J++y::(L++[z])=(J++y::L)++[z]:=sm
    rw [this];simp
   simp only [go_sem,h0,h1,Fu hx,eo,hsp]
   refine Fo p (λ(a:(FI×Bool)×Option Nat×FN) r=>xL l nm a.1 r) (λ_ _=>True) (λj a=>[(0,.sl none (GL l)),(1,.sl none (F7 p)),(5,.sl w (G9 o)),(7,.sl (some 5) (N3 out)),(8,.int .i64 k),(9,.ptr J.length 0),(10,.bool a.1.2),(11,.int .i64 j)])
    (λ_ a=>J++some (a.1.1.cf a.2.1)::a.2.2) ((⟨nm,0,[],0,0⟩,false),some 1,[]) FM trivial rfl rfl ?_ ?_
   ·rintro j ⟨⟨v,f⟩,w2,L⟩ x xs hd3 hx3 _ hF3 g0 g1 gw
    dsimp only at hF3 ⊢
    have c1:=ABV x.step.kind
    have c2:=m6 l x.step.key (by have:=hk x (AB hx3);omega)
    have c3:=ABP x.step
    by_cases h00:x.step.kind=0
    ·have z0:(x.step.kind==0)=true:=by simp [h00]
     simp only [go_sem,g0,g1,Fe hx3,el,gB,gN,sN,z0,gw]
     exact ⟨((v,f),w2,L++[some (x.step.cf none)]),by rw [xL,vW,iP (.inl h00)],rfl,rfl⟩
    ·have z0:(x.step.kind==0)=false:=by simp [h00]
     by_cases hv:x.step.var=nm
     ·have hvb:(nm.toList==nm.toList)=true:=sm
      simp only [go_sem,g0,g1,Fe hx3,el,gB,gN,sN,sB,z0,Fu hx,h0,h1,eo,hv,hvb,Ar]
      have sp1 : ∀ (u:FI) (q:Option Nat) (i:Int),splice (u.cf q) 1 [.int .i64 i]=({ u with family:=i }:FI).cf q:=λ_ _ _=>rfl
      have sp2 : ∀ (u:FI) (q:Option Nat) (i:List Int),splice (u.cf q) 2 [.sl none (GH i)]=({ u with widths:=i }:FI).cf none:=λ_ _ _=>rfl
      have sp3 : ∀ (u:FI) (q:Option Nat) (i:Int),splice (u.cf q) 3 [.int .i64 i]=({ u with n:=i }:FI).cf q:=λ_ _ _=>rfl
      have sp4 : ∀ (u:FI) (q:Option Nat) (i:Int),splice (u.cf q) 4 [.int .i64 i]=({ u with m:=i }:FI).cf q:=λ_ _ _=>rfl
      have gN2 : ∀ y y' L z,(J++y::(L++[z]))[List.length (J++y'::L)]? =some z:=λy y' L z=>by
       have e:List.length (J++y'::L)=List.length (J++y::L):=sm
       rw [e];exact gN y L z
      refine pK c1 ?_
      simp only [go_sem,gB,gN2,sN,sB,sp1,sp2,sp3,sp4]
      refine pK c2 ?_
      simp only [go_sem,gB,gN2,sN,sB,sp1,sp2,sp3,sp4]
      refine pK c3 ?_
      cases hns:Lk x.step with
      | false =>
       simp only [go_sem,gB,gN2,sN,sB,sp1,sp2,sp3,sp4,gw]
       exact ⟨(({ v with family:=LQ x.step.kind,widths:=It l x.step.key },f),none,L++[some (x.step.cf none)]),by rw [xL,vW,iN (by simp [h00,hv]),iN (by rw [hns];simp)],rfl,rfl⟩
      | true =>
       cases f with
       | true =>
        simp only [go_sem,gB,gN2,sN,sB,sp1,sp2,sp3,sp4,gw,Ar]
        exact ⟨(({ v with family:=LQ x.step.kind,widths:=It l x.step.key },true),none,L++[some (x.step.cf none)]),by rw [xL,vW,iN (by simp [h00,hv]),iN sm],rfl,rfl⟩
       | false =>
        simp only [go_sem,gB,gN2,sN,sB,sp1,sp2,sp3,sp4,gw,Av]
        exact ⟨(({ v with family:=LQ x.step.kind,widths:=It l x.step.key,n:=x.step.n,m:=x.step.m },true),none,L++[some (x.step.cf none)]),by rw [xL,vW,iN (by simp [h00,hv]),iP ⟨hns,rfl⟩],rfl,rfl⟩
     ·have hvd:decide (x.step.var=nm)=false:=decide_eq_false hv
      simp only [go_sem,g0,g1,Fe hx3,el,gB,gN,sN,z0,Fu hx,h0,h1,eo,FL,hvd,gw,Av]
      exact ⟨((v,f),w2,L++[some (x.step.cf none)]),by rw [xL,vW,iP (.inr hv)],rfl,rfl⟩
   ·rintro ⟨⟨v,f⟩,w2,L⟩ _ hF3
    dsimp only at hF3 ⊢
    have hvo:Ub l p nm=v:=by unfold Ub;rw [hF3];rfl
    simp only [go_sem,AY,dF,el,gB,hw]
    have hkl:=(AD.1 hx).1
    exact ⟨FM,FM,(out++[v],_),by rw [hvo];simp,by simp;omega,rfl,rfl⟩
  ·rintro ⟨out,J⟩ hI2 hF2
   dsimp only at hI2 hF2 ⊢
   have he:NE l p=out:=by unfold NE;rw [ho];simpa using hF2
   rw [he]
   simp only [go_sem,AY,dF,eo]
def ADH{l:List Fld}(hl:Iy l)(key:List ByteArray): ∀ w∈It l key,w<9223372036854775807:=by
 intro w hw
 obtain ⟨y,_,rfl⟩:=AO.1 hw
 cases hf:(FY l y).2 with
 | true =>
  have:=Ig hl hf
  unfold HA at this
  omega
 | false =>
  unfold FY at hf ⊢
  split at hf
  ·cases hf
  ·rename_i hn
   rw [iN hn]
   split at hf
   ·cases hf
   ·rename_i hz
    exact (by decide:Fld.z.width<9223372036854775807)
def Y6{l:List Fld}{nm:ByteArray}: ∀ (r:List FF) {a:FI×Bool},a.1.name=nm->(a.1.widths=[] \/ ∃ x:FF,x.step.kind≠0/\x.step.var=nm/\a.1.widths=It l x.step.key) ->
  (xL l nm a r).1.name=nm/\((xL l nm a r).1.widths=a.1.widths/\(∀ x∈r,x.step.kind=0\/x.step.var≠nm) \/ ∃ x∈r,x.step.kind≠0/\x.step.var=nm/\(xL l nm a r).1.widths=It l x.step.key)
 | [],a,h1,_=>⟨h1,.inl ⟨rfl,sm⟩⟩
 | x::r,a,h1,h2=>by
  rw [xL]
  by_cases hc:x.step.kind=0\/x.step.var≠nm
  ·have e:vW l nm a x.step=a:=by unfold vW;rw [iP hc]
   rw [e]
   obtain ⟨g1,g2⟩:=Y6 r h1 h2
   refine ⟨g1, ?_⟩
   rcases g2 with ⟨g2,g3⟩|⟨y,hy,g2⟩
   ·exact .inl ⟨g2,λz hz=>by rcases AZ.1 hz with rfl|hz;exact hc;exact g3 z hz⟩
   ·exact .inr ⟨y,B9 _ hy,g2⟩
  ·have hk:x.step.kind≠0:=λh=>hc (.inl h)
   have hv:x.step.var=nm:=by
    by_cases h:x.step.var=nm
    ·exact h
    ·exact absurd (.inr h) hc
   have e1:(vW l nm a x.step).1.name=nm/\(vW l nm a x.step).1.widths=It l x.step.key:=by
    unfold vW
    rw [iN hc]
    split<;>exact ⟨h1,rfl⟩
   obtain ⟨g1,g2⟩:=Y6 r e1.1 (.inr ⟨x,hk,hv,e1.2⟩)
   refine ⟨g1,.inr ?_⟩
   rcases g2 with ⟨g2,g3⟩|⟨y,hy,g2⟩
   ·exact ⟨x,Cc ..,hk,hv,by rw [g2,e1.2]⟩
   ·exact ⟨y,B9 _ hy,g2⟩
def Xz(l:List Fld)(p:List FF)(nm:ByteArray):(Ub l p nm).name=nm/\((Ub l p nm).widths=[]/\(∀ x∈p,x.step.kind=0\/x.step.var≠nm) \/ ∃ x∈p,x.step.kind≠0/\x.step.var=nm/\(Ub l p nm).widths=It l x.step.key) :=
 Y6 p (a:=(⟨nm,0,[],0,0⟩,false)) rfl (.inl rfl)
def xg{l:List Fld}(hl:Iy l){p:List FF}: ∀ v∈NE l p,∀ w∈v.widths,w<9223372036854775807:=by
 intro v hv w hw
 obtain ⟨nm,_,rfl⟩:=AO.1 hv
 rcases (Xz l p nm).2 with ⟨h,_⟩|⟨x,_,_,_,h⟩
 ·rw [h] at hw;cases hw
 ·rw [h] at hw;exact ADH hl _ w hw
def VA : ∀ (p:List FF) (o:List ByteArray),(MK o p).length<4^p.length*(o.length+1)
 | [],o=>by simp [MK]
 | x::p,o=>by
  rw [MK]
  have h1:=VA p (if x.step.kind=0 then o else SE o x.step.var)
  have h2:(if x.step.kind=0 then o else SE o x.step.var).length+1<=4*(o.length+1):=by
   split
   ·omega
   ·have:=QI x.step.var o false
    unfold SE
    omega
  have h3:4^(x::p).length=4^p.length*4:=by rw [AC,DK]
  rw [h3,Nat.mul_assoc]
  exact BR h1 (Nat.mul_le_mul_left _ h2)
def ey:Hint:={ h45 with pc:=[11,21] }
@[go_sem] def AbG(k:Nat):ey.lv k=h45.lv k/\ey.ct k=h45.ct k/\ey.at k=h45.at k/\ey.dn k=h45.dn k:=⟨AH rfl rfl,AH rfl rfl,AH rfl rfl,AH rfl rfl⟩
@[go_sem] def Abs:ey.tk=[19,20,22]/\ey.mt=[]/\ey.pc=[11,21]:=⟨rfl,rfl,rfl⟩
def AHM:FK AA 45 f45 ey:=⟨kr,kr,func45,kr⟩
def stQ(l:List Fld)(p:List FF)(st:List FG):Prop:=P3 l p=0/\st.length<=250/\(∀ e∈st,∃ v∈NE l p,v.name=e.var/\mN v e)/\Aaw st
def qf(l:List Fld)(hl:xO l)(hl2:Iy l)(p:List FF)(hb:FP (F7 p)<=1048576)(st:List FG)(hst:st.length<=1073741824)(hk : ∀ e∈st,e.key.length<=1073741824):KG AA 45 [.sl none (GL l),.sl none (F7 p),.sl none (FX st)] λr => ∃ b,r = .bool b/\(b=true->stQ l p st):=by
 have c1:=AF2 l p hl (AK hb dc)
 have el:(FX st).length=st.length:=Hw st
 refine qC AHM rfl ?_
 simp only [f45,go_sem]
 refine pK c1 ?_
 by_cases h0:P3 l p=0
 ·have z0:(P3 l p !=0)=false:=by simp [h0]
  have hp8:=(pf h0).1
  have hkey : ∀ x∈p,x.step.key.length<=1048576:=λx hx=>by
   have h1:=pf h0
   have:=(dW (h1.2.2.1 x hx).2).klen
   exact this
  have c2:=ABZ l p hp8 hkey
  have hvl:(NE l p).length<=1073741824:=by
   have h1:=VA p []
   have h2:4^p.length<=4^8:=Bb dc hp8
   have h3:(NE l p).length=(MK [] p).length:=by unfold NE;rw [List.length_map]
   have h4:(4:Nat)^8=65536:=dc
   rw [AG,AX,Nat.mul_one] at h1
   omega
  have q3:=qg (NE l p) hvl (xg hl2) st hst hk
  simp only [go_sem,z0,el]
  refine cS ?_ ?_<;>intro hc
  ·simp only [go_sem]
   exact ⟨rfl,false,rfl,λh=>by cases h⟩
  ·have hc:=of_decide_eq_false hc
   simp only [go_sem]
   refine pK c2 ?_
   simp only [go_sem]
   refine K3 q3 λr hr=>?_
   obtain ⟨n,rfl,hn⟩:=hr
   simp only [go_sem]
   exact ⟨rfl,_,rfl,λh=>⟨h0,FM,hn (by simpa using h)⟩⟩
 ·have z0:(P3 l p !=0)=true:=by simp [h0]
  simp only [go_sem,z0]
  exact ⟨rfl,false,rfl,λh=>by cases h⟩
def TP:Hint:={ h16 with pc:=[] }
@[go_sem] def AUb(k:Nat):TP.lv k=h16.lv k/\TP.ct k=h16.ct k/\TP.at k=h16.at k/\TP.dn k=h16.dn k:=⟨AH rfl rfl,AH rfl rfl,AH rfl rfl,AH rfl rfl⟩
@[go_sem] def AbF:TP.tk=[]/\TP.mt=[]/\TP.pc=[]:=⟨rfl,rfl,rfl⟩
def AD7:FK AA 16 f16 TP:=⟨kr,kr,func16,kr⟩
def AGf(s:FC)(sts:List (List FG)):Prop:=sts.length=s.tenants.length /\ ∀ (k:Nat) (t:FD) (st:List FG),s.tenants[k]? =some t->sts[k]? =some st->stQ s.fields t.program st/\st.length<=60
def yX(s:FC)(hl:xO s.fields)(hl2:Iy s.fields)(hb:FP s.c<=1048576)(sts:List (List FG))(hsl:sts.length<=1073741824)(hst : ∀ st∈sts,st.length<=1073741824 /\ ∀ e∈st,e.key.length<=1073741824):KG AA 16 [.agg s.c,.sl none (G8 sts)] λr => ∃ b,r = .bool b/\(b=true->AGf s sts):=by
 have el:(G8 sts).length=sts.length:=Ml sts
 refine qC AD7 rfl ?_
 by_cases hn:sts.length=s.tenants.length
 ·have z0:((sts.length:Int) !=(s.tenants.length:Int))=false:=by simp [hn]
  simp only [f16,go_sem,el,z0]
  refine Fo sts (λ(_:Unit) _=>()) (λk _ => ∀ (i:Nat) (t:FD) (st:List FG),i<k->s.tenants[i]? =some t->sts[i]? =some st->stQ s.fields t.program st/\st.length<=60) (λk _=>[(1,.sl none (G8 sts)),(2,.ptr 0 0),(5,.int .i64 k)]) (λ_ _=>[some s.c]) () FM (λi t st hi=>absurd hi (Nat.not_lt_zero i)) rfl rfl ?_ ?_
  ·intro k _ st xs hd hx hI _ h0 h1 hw
   have hkl:=(AD.1 hx).1
   obtain ⟨t,ht⟩ : ∃ t,s.tenants[k]? =some t:=⟨_,AL FM⟩
   have hk2:(k:Int)<(s.tenants.length:Int):=FM
   have hbt:FP t.c<=1048576:=by
    have h1:=QS (I2 hb) (AB ht)
    simpa only [AV.bulk] using h1
   have hm:=hst st (AB hx)
   have q1:=qf s.fields hl hl2 t.program (HV hbt) st hm.1 hm.2
   simp only [go_sem,h0,h1,el,IQ hx,Fq ht,hk2]
   refine K3 q1 λr hr=>?_
   obtain ⟨b,rfl,hq⟩:=hr
   cases b with
   | false =>
    simp only [go_sem,Av]
    exact ⟨rfl,false,rfl,λh=>by cases h⟩
   | true =>
    have hq:=hq rfl
    have es:(FX st).length=st.length:=Hw st
    simp only [go_sem,Ar,h0,h1,el,es,IQ hx]
    refine cS ?_ ?_<;>intro hc
    ·simp only [go_sem]
     exact ⟨rfl,false,rfl,λh=>by cases h⟩
    ·have hc:=of_decide_eq_false hc
     simp only [go_sem,hw]
     refine ⟨(),λi t2 st2 hi h2 h3=>?_⟩
     rcases Nat.lt_or_ge i k with hik|hik
     ·exact hI i t2 st2 hik h2 h3
     ·have:i=k:=FM
      subst this
      rw [ht] at h2
      rw [hx] at h3
      cases h2;cases h3
      exact ⟨hq,FM⟩
  ·intro _ hI _
   simp only [go_sem,AY,dF,el]
   exact ⟨rfl,true,rfl,λ_=>⟨hn,λk t st h1 h2=>hI k t st (AD.1 h2).1 h1 h2⟩⟩
 ·have z0:((sts.length:Int) !=(s.tenants.length:Int))=true:=by
   rw [bne_iff_ne];omega
  simp only [f16,go_sem,el,z0]
  exact ⟨rfl,false,rfl,λh=>by cases h⟩
def zT{s:FC}(hR:R19 s){sts:List (List FG)}(h:AGf s sts)(hk : ∀ st∈sts,∀ e∈st,e.key.length<=1048576):okSts s sts:=by
 refine ⟨h.1,λk t st h1 h2=>?_⟩
 obtain ⟨⟨q1,_,q3,_⟩,q4⟩:=h.2 k t st h1 h2
 have hp:=(dX q1).1
 refine ⟨λe he=>?_,q4⟩
 obtain ⟨v,hv,hn,f1,f2,f3,f4⟩:=q3 e he
 refine ⟨⟨f2,f3,hk st (AB h2) e he,f4⟩,λx hx h0 hvar=>?_⟩
 obtain ⟨nm,_,rfl⟩:=AO.1 hv
 obtain ⟨g1,g2⟩:=Xz s.fields t.program nm
 have hnm:nm=e.var:=by rw [<- g1];exact hn
 rcases g2 with ⟨_,g2⟩|⟨y,hy,g3,g4,g5⟩
 ·rcases g2 x hx with g|g
  ·exact absurd g h0
  ·exact absurd (by rw [<- hvar,hnm]) g
 ·have hw:(It s.fields y.step.key).length=y.step.key.length:=by simp [It]
  rw [f1,g5,hw]
  exact hp.key y hy x hx g3 h0 (by rw [g4,hnm,hvar])
def Zt(l:List FH):List AV:=l.map λx => .agg x.c
@[go_sem] def AAD(l:List FH):(Zt l).length=l.length:=by simp [Zt]
def AAE{l:List FH}{i:Nat}{x:FH}(h:l[i]? =some x):(Zt l)[i]? =some (.agg x.c):=by simp [Zt,h]
@[go_sem] def ASk(l:List FH):FQ (Zt l)=true:=by
 induction l with
 | nil=>rfl
 | cons x xs ih=>simpa [Zt,FQ,AV.pure] using ⟨Wn x,ih⟩
def hRt:Hint:={ h4 with pc:=[10,25] }
@[go_sem] def Abn(k:Nat):hRt.lv k=h4.lv k/\hRt.ct k=h4.ct k/\hRt.at k=h4.at k/\hRt.dn k=h4.dn k:=⟨AH rfl rfl,AH rfl rfl,AH rfl rfl,AH rfl rfl⟩
@[go_sem] def Aew:hRt.tk=[14,18]/\hRt.mt=[]/\hRt.pc=[10,25]:=⟨rfl,rfl,rfl⟩
def AUc:FK AA 4 f4 hRt:=⟨kr,kr,func4,kr⟩
def AGj(s:FC)(sts:List (List FG))(l:List FH):Prop:=Ju s=true/\AGf s sts /\ ∀ a∈l,XR a=true
def ADR(s:FC)(hb:FP s.c<=1048576)(sts:List (List FG))(hsl:sts.length<=1073741824)(hst : ∀ st∈sts,st.length<=1073741824 /\ ∀ e∈st,e.key.length<=1073741824)(l:List FH)(hl:l.length<=1073741824):KG AA 4 [.agg s.c,.sl none (G8 sts),.sl none (Zt l)] λr => ∃ b,r = .bool b/\(b=true->AGj s sts l):=by
 have el:(Zt l).length=l.length:=AAD l
 have c1:=wF s hb
 refine qC AUc rfl ?_
 simp only [f4,go_sem]
 refine pK c1 ?_
 cases h1:Ju s with
 | false =>
  simp only [go_sem,h1,Av]
  exact ⟨rfl,false,rfl,λh=>by cases h⟩
 | true =>
  have hR:=YD h1
  have q1:=yX s (λf hf=>Int.le_trans (Yq hR.fld0 f hf) dc) hR.fld hb sts hsl hst
  simp only [go_sem,h1,Ar]
  refine K3 q1 λr hr=>?_
  obtain ⟨b,rfl,hq⟩:=hr
  cases b with
  | false =>
   simp only [go_sem,Av]
   exact ⟨rfl,false,rfl,λh=>by cases h⟩
  | true =>
   have hq:=hq rfl
   simp only [go_sem,Ar,el]
   refine Fo l (λ(_:FN) _=>()) (λk _ => ∀ a∈l.take k,XR a=true) (λk _=>[(18,.sl none (Zt l)),(19,.int .i64 l.length),(20,.int .i64 k)]) (λ_ L=>some s.c::L) [] FM sm rfl rfl ?_ ?_
   ·intro k L x xs hd hx hI _ h0 h1 hw
    have gN : ∀ a (L:FN) z,(a::(L++[z]))[List.length (a::L)]? =some z:=λa L z=>by
     have:a::(L++[z])=(a::L)++[z]:=sm
     rw [this];exact Bj
    have sN : ∀ a (L:FN) z z2,(a::(L++[z])).set (List.length (a::L)) z2=a::(L++[z2]):=λa L z z2=>by
     have:a::(L++[z])=(a::L)++[z]:=sm
     rw [this];simp
    have c2:=wM x
    have htk:l.take (k+1)=l.take k++[x]:=by rw [BF,hx];rfl
    simp only [go_sem,h0,h1,AAE hx,gN,sN]
    refine pK c2 ?_
    cases ha:XR x with
    | false =>
     simp only [go_sem,Av]
     exact ⟨rfl,false,rfl,λh=>by cases h⟩
    | true =>
     simp only [go_sem,Ar,hw]
     refine ⟨_,λy hy=>?_,rfl,rfl⟩
     rw [htk] at hy
     rcases Ay.1 hy with hy|hy
     ·exact hI y hy
     ·rcases Al.1 hy with rfl;exact ha
   ·intro L hI _
    simp only [go_sem,AY,dF]
    rw [BO] at hI
    exact ⟨rfl,true,rfl,λ_=>⟨h1,hq,hI⟩⟩
def fw{h:FE}: ∀ {l:List FD} {k:Nat},(∀ t∈l,(PX t h).2=false)->Ol h k l=[]
 | [],_,_=>rfl
 | t::l,k,hf=>by
  rw [Ol,iN (by rw [hf t (Cc ..)];decide)]
  exact fw λu hu=>hf u (B9 _ hu)
def pU{h:FE}: ∀ {l:List FD} {k j:Nat} {t:FD},l[j]? =some t->(PX t h).2=true->(∀ i u,l[i]? =some u->(PX u h).2=true->i=j)->Ol h k l=[⟨((k+j:Nat):Int),(PX t h).1,[]⟩]
 | [],_,j,_,hj,_,_=>by simp at hj
 | u::l,k,0,t,hj,he,hu=>by
  have:u=t:=by simpa using hj
  subst this
  rw [Ol,iP he,fw λv hv=>?_]
  ·rfl
  ·obtain ⟨i,hi⟩:=Af hv
   cases e:(PX v h).2 with
   | false=>rfl
   | true=>exact absurd (hu (i+1) v (by simpa using hi) e) FM
 | u::l,k,j+1,t,hj,he,hu=>by
  have e0:(PX u h).2=false:=by
   cases e:(PX u h).2 with
   | false=>rfl
   | true=>exact absurd (hu 0 u rfl e) FM
  rw [Ol,iN (by rw [e0];decide),pU (k:=k+1) (j:=j) (by simpa using hj) he λi v hi e=>by have:=hu (i+1) v (by simpa using hi) e;omega]
  rw [show k+1+j=k+(j+1) by omega]
def fu{s:FC}(hR:R19 s){h:FE}{a:Nat}{t:FD}(ha:s.tenants[a]? =some t)(he:(PX t h).2=true):Ol h 0 s.tenants=[⟨(a:Int),(PX t h).1,[]⟩]:=by
 have:=pU (k:=0) ha he λi u hi e=>qw hR hi ha (Vu.1 e) (Vu.1 he)
 rwa [AX] at this
def K0(x:Int)(t:FD):List FE->List FJ
 | []=>[]
 | p::r=>if (vf t p).2=true then ⟨x,(vf t p).1,[]⟩::K0 x t r else K0 x t r
def xw{s:FC}(hc:s.contracts=[])(t:FD)(p:FE)(tick:Int):Wu s t p tick = -1:=by unfold Wu;rw [hc];rfl
def SK{s:FC}(hc:s.contracts=[]){x:Item}(hx:x.chain=[])(t:FD)(tick:Int): ∀ (r:List FE) (q:List Item) (out:List FJ),ck s x t tick (q,out) r=(q,out++K0 x.tenant t r)
 | [],q,out=>by rw [ck,K0,Ah]
 | p::r,q,out=>by
  rw [ck,K0]
  cases he:(vf t p).2 with
  | false =>
   have:xM s x t tick (q,out) p=(q,out):=by unfold xM;rw [iP he]
   rw [this,iN dc];exact SK hc hx t tick r q out
  | true =>
   have:xM s x t tick (q,out) p=(q,out++[⟨x.tenant,(vf t p).1,[]⟩]):=by
    unfold xM;rw [iN (by rw [he];decide),xw hc,iP dc,hx]
   rw [this,iP rfl,SK hc hx t tick r,AF];rfl
def nD{s:FC}(hc:s.contracts=[])(hR:R19 s){sts:List (List FG)}{h:FE}{tick:Int}{a:Nat}{t:FD}{st:List FG}(ha:s.tenants[a]? =some t)(he:(PX t h).2=true)(hs:sts[a]? =some st):
  Tt s sts h tick=(Tf s.fields (GP t).1 st (PX t h).1 tick).map λb=>(K0 (a:Int) t b.1,sts.set a b.2):=by
 unfold Tt
 rw [fu hR ha he,cGo]
 dsimp only [List.getElem?_cons_zero]
 rw [Int.toNat_natCast,ha,hs]
 dsimp only
 cases er:Tf s.fields (GP t).1 st (PX t h).1 tick with
 | none=>rfl
 | some b =>
  dsimp only [Option.map]
  rw [SK hc rfl,iN sm,cGo]
  rfl
def pE(s:FC)(sts:List (List FG))(N:Nat):Prop:=sts.length=s.tenants.length /\ ∀ (k:Nat) (t:FD) (st:List FG),s.tenants[k]? =some t->sts[k]? =some st->RD (GP t).1 st/\st.length<=N
def pE.mono{s:FC}{sts:List (List FG)}{N M:Nat}(h:pE s sts N)(hm:N<=M):pE s sts M:=⟨h.1,λk t st h1 h2=>⟨(h.2 k t st h1 h2).1,AK (h.2 k t st h1 h2).2 hm⟩⟩
def okSts.n{s:FC}(hR:R19 s){sts:List (List FG)}(hs:okSts s sts):pE s sts 60 :=
 ⟨hs.len,λk t st h1 h2=>by
  obtain ⟨g1,g2⟩:=hs.st k t st h1 h2
  refine ⟨λe he=>⟨(g1 e he).1,λx hx=>?_⟩,g2⟩
  have hmap:=(Mb hR h1).2.2.1
  have:x.step∈t.program.map (·.step):=by rw [<- hmap];exact AO.2 ⟨x,hx,rfl⟩
  obtain ⟨y,hy,hxy⟩:=AO.1 this
  rw [<- hxy]
  exact (g1 e he).2 y hy⟩
def wK(l:List FJ)(hl:l.length<=1073741824)(hk : ∀ d∈l,d.chain.length<=1073741824):FO AA 13 [.sl none (GS l),.sl none (GS l)] (.bool true):=by
 have el:(GS l).length=l.length:=XF l
 have n0:((l.length:Int) !=(l.length:Int))=false:=sm
 refine pC AXp rfl ?_
 simp only [f13,go_sem,el,n0]
 refine Fo l (λ(_:Unit) _=>()) (λ_ _=>True) (λk _=>[(0,.sl none (GS l)),(1,.sl none (GS l)),(5,.int .i64 k)]) (λ_ _=>[]) () FM trivial rfl rfl ?_ ?_
 ·intro k _ x xs hd hx _ _ h0 h1 hw
  have c1:=nC x.chain x.chain true sm (hk x (AB hx))
  have v1:(x.tenant !=x.tenant)=false:=sm
  have v2:(x.head !=x.head)=false:=sm
  simp only [go_sem,h0,h1,Px hx,el]
  refine pK c1 ?_
  simp only [go_sem,h0,h1,Px hx,el,v1,v2,hw,Ar]
  exact ⟨(),trivial⟩
 ·intro _ _ _
  simp only [go_sem,AY,dF,el]
def ADw{a:AV}(h:Rd AA 32 a): ∃ l,a = .sl none (G8 l)/\True:=by
 obtain ⟨l,h1,_,_⟩:=IM (f:=λ(x:List FG)=>AV.sl none (FX x)) (ok:=λx=>YW x) (P:=AA) (t:=32) (e:=58) kr (λx hx=>TL hx) h
 exact ⟨l,h1,trivial⟩
def ADx{l:List (List FG)}{B:Nat}(h:FP (G8 l)<=B):l.length<=B /\ ∀ st∈l,st.length<=B /\ ∀ e∈st,e.key.length<=B:=by
 refine ⟨AK (HG (f:=λ(x:List FG)=>AV.sl none (FX x)) (λx=>by simp [AV.bulk]) l) h,λst hst=>?_⟩
 have h1:FP (FX st)<=B:=Gs (o:=none) (AO.2 ⟨st,hst,rfl⟩) h
 refine ⟨rr h1,λe he=>?_⟩
 have h2:=ru h1 he
 have h3:FP e.c<=B:=by simpa only [AV.bulk] using h2
 exact AD1 (ba h3)
def Yk(x:Int)(t:FD): ∀ l:List FE,(K0 x t l).length<=l.length
 | []=>AU _
 | p::r=>by
  rw [K0]
  have:=Yk x t r
  split<;>simp<;>omega
def Oj(x:Int)(t:FD): ∀ (l:List FE),∀ d∈K0 x t l,d.chain=[]
 | [],d,h=>by cases h
 | p::r,d,h=>by
  rw [K0] at h
  split at h
  ·rcases AZ.1 h with rfl|h
   ·rfl
   ·exact Oj x t r d h
  ·exact Oj x t r d h
def ez:Hint:={ h3 with pc:=[31,39,46,49,62,72,81,95,110,123,138,151,174,190,195] }
@[go_sem] def AbH(k:Nat):ez.lv k=h3.lv k/\ez.ct k=h3.ct k/\ez.at k=h3.at k/\ez.dn k=h3.dn k:=⟨AH rfl rfl,AH rfl rfl,AH rfl rfl,AH rfl rfl⟩
@[go_sem] def Abt:ez.tk=[55,60,61,87,116,121,122,125,142,149,150]/\ez.mt=[]/\ez.pc=[31,39,46,49,62,72,81,95,110,123,138,151,174,190,195]:=⟨rfl,rfl,rfl⟩
def AHN:FK AA 3 f3 ez:=⟨kr,kr,func3,kr⟩
def AEf(hsan:FO AA 5 [] (.bool true))(s0:FC)(sts:List (List FG))(a:FH)(hb0:FP s0.c<=1048576)(hsb:FP (G8 sts)<=1048576):FO AA 3 [.agg s0.c,.sl none (G8 sts),.agg a.c] (.bool true):=by
 obtain ⟨hsl,hst⟩:=ADx hsb
 have hP : ∀ p,splice s0.c 5 [.sl p []]=({ s0 with contracts:=[] }:FC).cf none none none none none p:=λp=>rfl
 have hb:FP ({ s0 with contracts:=[] }:FC).c<=1048576:=by
  refine AK ?_ hb0
  simp only [Setup.c,Setup.cf,FP,AV.bulk]
  have e0:FP (GW [])=0:=rfl
  omega
 have hc:({ s0 with contracts:=[] }:FC).contracts=[]:=rfl
 generalize ({ s0 with contracts:=[] }:FC)=s at hP hb hc
 have q1:=ADR s hb sts FM (λst hm=>⟨by have:=(hst st hm).1;omega,λe he=>by have:=(hst st hm).2 e he;omega⟩) [a] sm
 refine pC AHN rfl ?_
 simp only [f3,go_sem,hP]
 refine K3 (KG.lend q1) λr hr=>?_
 obtain ⟨b,rfl,hq⟩:=hr
 cases b with
 | false =>
  simp only [go_sem,Av]
  refine pK hsan ?_
  simp only [go_sem]
 | true =>
  obtain ⟨h1,h2,h3⟩:=hq rfl
  have hR:=YD h1
  have hf:IT s=true:=by unfold Ju at h1;rw [AR] at h1;exact h1.1
  have ha:=h3 a (Al.2 rfl)
  unfold XR at ha
  simp only [AR,decide_eq_true_eq] at ha
  have hSt:=zT hR h2 λst h=>(hst st h).2
  have hRun:=zU hR hf hb hSt ha.1 ⟨ha.2.2.1,ha.2.2.2⟩
  have c2:=AGu s sts a.head a.tick ha.1 hRun
  have hnt:s.tenants.length<=256:=hRun.ten
  have c3:=wI s FM hRun.prt a.head
  have hst' : ∀ st∈sts,st.length<=1073741824 /\ ∀ e∈st,e.key.length<=1073741824:=λst h=>⟨by have:=(hst st h).1;omega,λe he=>by have:=(hst st h).2 e he;omega⟩
  have c4:=wJ sts FM hst'
  simp only [go_sem,Ar]
  refine pK c2 ?_
  have b2:((2:Int) !=0)=true:=rfl
  have b0:((0:Int) !=0)=false:=rfl
  have z00:((0:Int)==0)=true:=rfl
  have z20:((2:Int)==0)=false:=rfl
  have z22:((2:Int)==2)=true:=rfl
  have zl:(((0:Nat):Int)==0)=true:=rfl
  rcases fq (h:=a.head) (l:=s.tenants) (k:=0) with ⟨w1,w2,_⟩|⟨fr,t,w1,w2,w3⟩
  ·rw [wN w2]
   simp only [go_sem,YF]
   refine pK c3 ?_
   rw [w1]
   have z1:(-1:Int)<0:=dc
   have ed:(GS []).length=0:=rfl
   simp only [go_sem,z1,dT]
   refine pK hsan ?_
   simp only [go_sem,z00,ed,zl]
   refine pK c4 ?_
   simp only [go_sem]
  ·rw [AX] at w2
   have hfr:fr<s.tenants.length:=(AD.1 w1).1
   obtain ⟨st,hs⟩ : ∃ st,sts[fr]? =some st:=⟨_,AL (by have:=h2.1;omega)⟩
   have htm:=AB w1
   have hal:=nD hc hR (h:=a.head) (tick:=a.tick) w1 w3 hs
   have c5:=aH t (hRun.prt t htm) a.head
   have eT:Ka (Hq t (i64 (a.head.h0 - 10000))) a.head=PX t a.head:=rfl
   rw [eT,w3] at c5
   have c6:=hRun.whole t htm
   rw [(hR.ckE w1).2.1] at c6
   have hown:=hRun.ent t htm w3
   obtain ⟨p1,p2⟩:=hRun.prg fr t w1
   obtain ⟨s1,s2⟩:=hRun.st fr t st w1 hs
   have hfl:s.fields.length<=1073741824:=by have:=Zn (LB hb);omega
   have hlenb:st.length+(GP t).1.length*256<=1073741823:=FM
   have c7:=AFc s.fields hRun.fld hfl (GP t).1 p1 st hlenb s1 (PX t a.head).1 hown a.tick hRun.tick
   have m0 : ¬ ((fr:Nat):Int)<0:=FM
   have m1:(0:Int)<=((fr:Nat):Int):=FM
   have m2:((fr:Nat):Int)<(s.tenants.length:Int):=FM
   have m3:((fr:Nat):Int)<(sts.length:Int):=by have:=h2.1;omega
   cases er:Tf s.fields (GP t).1 st (PX t a.head).1 a.tick with
   | none =>
    rw [er] at hal c7
    rw [hal]
    have ed:(GS []).length=0:=rfl
    simp only [go_sem,YF,Option.map]
    refine pK c3 ?_
    rw [w2]
    simp only [go_sem,m0,m1,m2,dF,Fq w1]
    refine pK c5 ?_
    simp only [go_sem,m1,m2,Fq w1]
    refine pK c6 ?_
    simp only [go_sem,m1,m3,IQ hs]
    refine pK c7 ?_
    simp only [go_sem,kT,b0,b2,z20,z22,beq_self_eq_true,Ar]
    refine pK hsan ?_
    simp only [go_sem,z22,ed,zl]
    refine pK c4 ?_
    simp only [go_sem]
   | some b =>
    rw [er] at hal c7
    rw [hal]
    obtain ⟨r1,r2,r3,r4⟩:=cP hRun.fld hfl p1 hRun.tick s1 hlenb hown er
    simp only [go_sem,YF,Option.map]
    refine pK c3 ?_
    rw [w2]
    simp only [go_sem,m0,m1,m2,dF,Fq w1]
    refine pK c5 ?_
    simp only [go_sem,m1,m2,Fq w1]
    refine pK c6 ?_
    simp only [go_sem,m1,m3,IQ hs]
    refine pK c7 ?_
    simp only [go_sem,kT,b0,z00,beq_self_eq_true,Ar]
    refine Fo b.1 (λ(w:List FJ×FN) (r:List FE)=>w.1++K0 (fr:Int) t r) (λj w=>w.1.length<=j/\w.2[0]? =some (some (s.cf none none none none none (some 12)))) (λj w=>[(1,.sl none (G8 sts)),(3,.ptr 0 0),(7,.sl none (GS (K0 (fr:Int) t b.1))),(8,.sl none (G8 (sts.set fr b.2))),(10,.int .i64 fr),(16,.sl none (FX b.2)),(18,.sl (some 12) (GS w.1)),(125,.sl none (F0 b.1)),(126,.int .i64 b.1.length),(127,.int .i64 j)])
     (λ_ w=>w.2) ([],_) FM ⟨AU _,rfl⟩ rfl rfl ?_ ?_
    ·rintro j ⟨w,Z⟩ p ps hd hx ⟨i1,i2⟩ hF g0 g1 gw
     dsimp only at i1 i2 hF ⊢
     have hjl:=(AD.1 hx).1
     have d1:=ABd t p
     have eX:P2 (JB t p.h0) p=vf t p:=rfl
     rw [eX] at d1
     have l0:=(AD.1 i2).1
     have gZ:=A' i2
     have gz : ∀ y L,(Z++y::L)[Z.length]? =some y:=λy L=>sm
     have gz1 : ∀ y z L,(Z++y::z::L)[Z.length+1]? =some z:=λy z L=>sm
     have sz : ∀ y z,(Z++[y]).set Z.length z=Z++[z]:=λy z=>sm
     have sz1 : ∀ y z w,(Z++[y,z]).set (Z.length+1) w=Z++[y,w]:=λy z w=>sm
     simp only [go_sem,g0,g1,HJ hx,i2,gZ,gz,gz1,sz,sz1,m1,m2,Fq w1,AE,AC,AG,AX,Nat.reduceAdd]
     refine pK d1 ?_
     cases he:(vf t p).2 with
     | false =>
      simp only [go_sem,he,gz,gz1,sz,sz1,gw,AE,AC,AG,AX,Nat.reduceAdd]
      exact ⟨(w,_),by rw [K0,he,iN dc],⟨by dsimp only;omega,gZ _⟩,rfl,rfl⟩
     | true =>
      simp only [go_sem,he,gz,gz1,sz,sz1,gw,AE,AC,AG,AX,Nat.reduceAdd]
      exact ⟨FM,FM,(w++[⟨(fr:Int),(vf t p).1,[]⟩],_),by rw [K0,he,iP rfl,AF];rfl,⟨by rw [AE,Bs];omega,gZ _⟩,rfl,rfl⟩
    ·rintro ⟨w,Z⟩ ⟨i1,i2⟩ hF
     dsimp only at i1 i2 hF ⊢
     rw [K0,Ah] at hF
     have hF:w=K0 (fr:Int) t b.1:=hF.symm
     have hel:=Yk (fr:Int) t b.1
     have c8:=wK (K0 (fr:Int) t b.1) FM λd hd=>by rw [Oj _ _ _ d hd];simp
     subst hF
     have nl:((((sts.set fr b.2).length:Nat):Int) !=((sts.length:Nat):Int))=false:=sm
     have es:(G8 (sts.set fr b.2)).length=(sts.set fr b.2).length:=Ml _
     have es2:(G8 sts).length=sts.length:=Ml _
     simp only [go_sem,AY,dF]
     refine pK (FO.weak c8) ?_
     simp only [go_sem,Ar,nl,es,es2]
     refine Fo sts (λ(_:Unit) _=>()) (λ_ _=>True) (λk _=>[(1,.sl none (G8 sts)),(8,.sl none (G8 (sts.set fr b.2))),(10,.int .i64 fr),(16,.sl none (FX b.2)),(161,.int .i64 sts.length),(162,.int .i64 k)]) (λ_ _=>Z) () FM trivial rfl rfl ?_ ?_
     ·intro k _ st2 ss hd hx _ _ g0 g1 gw
      have hkl:=(AD.1 hx).1
      have hk0:(0:Int)<=(k:Int):=FM
      have hk1:(k:Int)<(sts.length:Int):=FM
      have hk2:(k:Int)<((sts.set fr b.2).length:Int):=by rw [List.length_set];omega
      by_cases hkf:k=fr
      ·subst hkf
       have hx2:(sts.set k b.2)[k]? =some b.2:=List.getElem?_set_self hkl
       have zk:(((k:Nat):Int)==((k:Nat):Int))=true:=sm
       have c9:=o6 b.2 FM λe he=>by have:=(r3 e he).1.2.2.1;omega
       simp only [go_sem,g0,g1,zk,hk0,hk1,hk2,IQ hx,IQ hx2]
       refine pK c9 ?_
       simp only [go_sem,zk,gw,Ar,bne_self_eq_false]
       exact ⟨(),trivial⟩
      ·have hx2:(sts.set fr b.2)[k]? =some st2:=by rw [List.getElem?_set_ne (Ne.symm hkf)];exact hx
       have zk:(((k:Nat):Int)==((fr:Nat):Int))=false:=by rw [beq_eq_false_iff_ne];omega
       have zk2:(((k:Nat):Int) !=((fr:Nat):Int))=true:=by rw [bne_iff_ne];omega
       have hm:=hst' st2 (AB hx)
       have c9:=o6 st2 hm.1 hm.2
       simp only [go_sem,g0,g1,zk,zk2,hk0,hk1,hk2,IQ hx,IQ hx2]
       refine pK c9 ?_
       simp only [go_sem,gw,Ar]
       exact ⟨(),trivial⟩
     ·intro _ _ _
      simp only [go_sem,AY,dF]
      refine pK hsan ?_
      simp only [go_sem]
end Go.AI
