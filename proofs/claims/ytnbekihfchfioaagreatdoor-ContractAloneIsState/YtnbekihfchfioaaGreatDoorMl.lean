/- One owner for an edge;the tenant at whose edge a head enters;the owner of what is delivered. -/
import Derived.Test.YtnbekihfchfioaaGreatDoorMk
import Derived.Test.YtnbekihfchfioaaGreatDoorMt
import Derived.Test.YtnbekihfchfioaaGreatDoorMp
import Derived.Test.YtnbekihfchfioaaGreatDoorMv
set_option linter.unusedSimpArgs false
set_option linter.unusedVariables false
open Go.Proofs.Tryz
open Bool renaming and_eq_true->AR,not_false->Av,not_true->Ar
open Eq renaming trans->AH
open Int renaming lt_irrefl->AX
open List renaming all_eq_true->Ao,any_eq_true->CZ,append_assoc->AF,append_nil->Ah,drop_zero->BN,filter_append->Cb,getElem?_concat_length->Bj,getElem?_eq_getElem->AL,getElem?_eq_some_iff->AD,getElem?_of_mem->Af,getElem?_take->Aj,length_append->AE,length_cons->AC,length_nil->AG,length_singleton->Bs,length_take->BI,mem_append->Ay,mem_cons->AZ,mem_cons_of_mem->B9,mem_cons_self->Cc,mem_map->AO,mem_of_getElem?->AB,mem_singleton->Al,take_add_one->BF,take_length->BO
open Nat renaming le_refl->AU,le_trans->AK,lt_of_lt_of_le->BR,lt_trichotomy->EN,pow_le_pow_right->Bb,pow_succ->DK,sub_self->AQ,zero_add->AY
open Go.Proofs.Tryz renaming prog->AA
namespace Go.AI
open Go.Proofs
theorem iU{s:Setup}{t:Tenant}(h1:In s t=0): ∀ x∈t.ports,-1<=x.edge/\x.edge<(s.network.edges.length:Int):=by
 have h2:Hc s t=0:=by
  unfold In at h1
  split at h1
  ·cases h1
  ·split at h1
   ·rename_i hne;exact absurd h1 hne
   ·rename_i hne;simpa using hne
 have h3:HC (QH s.network.edges.length) QG t.ports=true:=by
  unfold Hc at h2
  split at h2
  ·cases h2
  split at h2
  ·cases h2
  split at h2
  ·cases h2
  ·rename_i hne;simpa using hne
 have h4 : ∀ (r:List Port) (i:Nat),HR (QH s.network.edges.length) QG t.ports i r=true -> ∀ x∈r,-1<=x.edge/\x.edge<(s.network.edges.length:Int):=by
  intro r
  induction r with
  | nil=>intro i _ x hx;cases hx
  | cons y r ih =>
   intro i hi x hx
   simp only [HR,AR] at hi
   rcases AZ.1 hx with rfl|hx
   ·have:=hi.1.1;simp only [QH,AR,decide_eq_true_eq] at this;exact this
   ·exact ih _ hi.2 x hx
 exact h4 t.ports 0 h3
theorem R19.ckE{s:Setup}(h:R19 s){k:Nat}{t:Tenant}(ht:s.tenants[k]? =some t):In s t=0/\(FC t).2=0/\IP s k t=false:=by
 have h1:=h.ten k t ht
 unfold QN at h1
 split at h1
 ·rename_i hne;exact absurd h1 hne
 rename_i h2
 split at h1
 ·rename_i hne;exact absurd h1 hne
 rename_i h3
 split at h1
 ·cases h1
 split at h1
 ·cases h1
 rename_i h5
 exact ⟨by simpa using h2,by simpa using h3,by simpa using h5⟩
theorem Uu{e:Int}(he:0<=e): ∀ {l:List Port} {i:Nat} {x:Port},x∈l->x.edge=e->0<=Gz e i l
 | y::l,i,x,hx,hxe=>by
  rw [Gz]
  split
  ·omega
  ·rename_i hn
   rcases AZ.1 hx with rfl|hx
   ·exact absurd ⟨he,hxe⟩ hn
   ·exact Uu he hx hxe
theorem KX{e:Int}: ∀ {l:List Port} {i:Nat},0<=ID e i l -> ∃ (j:Nat) (x:Port),l[j]? =some x/\x.edge ≠ -1/\x.edge=e/\ID e i l=((i+j:Nat):Int)
 | [],i,h=>by rw [ID] at h;exact absurd h dc
 | y::l,i,h=>by
  rw [ID] at h ⊢
  by_cases hy:y.edge ≠ -1/\y.edge=e
  ·rw [if_pos hy];exact ⟨0,y,rfl,hy.1,hy.2,rfl⟩
  ·rw [if_neg hy] at h ⊢
   obtain ⟨j,x,h1,h2,h3,h4⟩:=KX h
   exact ⟨j+1,x,h1,h2,h3,by rw [h4];congr 1;omega⟩
theorem tI{s:Setup}(hR:R19 s){i j:Nat}{t u:Tenant}(ht:s.tenants[i]? =some t)(hu:s.tenants[j]? =some u){e:Int}(h1:0<=GY t e)(h2:0<=GY u e):i=j:=by
 have key : ∀ {i j:Nat} {t u:Tenant},s.tenants[i]? =some t->s.tenants[j]? =some u->0<=GY t e->0<=GY u e->i<j->False:=by
  intro i j t u ht hu h1 h2 hij
  obtain ⟨a,x,x1,x2,x3,_⟩:=KX h1
  obtain ⟨b,y,y1,y2,y3,_⟩:=KX h2
  obtain ⟨k1,_,k3⟩:=hR.ckE hu
  have hy:=iU k1 y (AB y1)
  have he:0<=e:=DF
  have hc:IP s j u=true:=by
   unfold IP
   refine CZ.2 ⟨y,AB y1,CZ.2 ⟨t, ?_, ?_⟩⟩
   ·exact AB (i:=i) (by rw [Aj,if_pos hij];exact ht)
   ·have hpo:0<=Gy t e:=Uu he (AB x1) x3
    rw [y3,decide_eq_true he,decide_eq_true hpo];rfl
  rw [hc] at k3;cases k3
 rcases EN i j with h|h|h
 ·exact (key ht hu h1 h2 h).elim
 ·exact h
 ·exact (key hu ht h2 h1 h).elim
def inE(h:Head):Int:=i64 (h.h0 - 10000)
theorem V0{t:Tenant}{h:Head}:(Om t h).2=true↔0<=GY t (inE h):=by
 unfold Om Je inE
 split<;>simp<;>omega
def iH(h:Head):Nat->List Tenant->Int
 | _,[] => -1
 | k,t::r=>if (Om t h).2=true then (k:Int) else iH h (k+1) r
theorem iG{h:Head}: ∀ {l:List Tenant} {k:Nat},(iH h k l = -1/\N1 h k l=[] /\ ∀ t∈l,(Om t h).2=false) \/ ∃ (j:Nat) (t:Tenant),l[j]? =some t/\iH h k l=((k+j:Nat):Int)/\(Om t h).2=true
 | [],k => .inl ⟨rfl,rfl,sm⟩
 | t::l,k=>by
  rw [iH,N1]
  cases he:(Om t h).2 with
  | true=>rw [if_pos rfl];exact .inr ⟨0,t,rfl,rfl,he⟩
  | false =>
   rw [if_neg dc,if_neg dc]
   rcases iG (h:=h) (l:=l) (k:=k+1) with ⟨h1,h2,h3⟩|⟨j,u,h1,h2,h3⟩
   ·refine .inl ⟨h1,h2,λu hu=>?_⟩
    rcases AZ.1 hu with rfl|hu
    ·exact he
    ·exact h3 u hu
   ·exact .inr ⟨j+1,u,h1,by rw [h2];congr 1;omega,h3⟩
theorem u3{s:Setup}{t:Tenant}(h1:In s t=0):ZR t/\PN s.fields t.program=0/\t.ports.length<=64:=by
 unfold In at h1
 split at h1
 ·cases h1
 ·rename_i hlim
  split at h1
  ·rename_i hne;exact absurd h1 hne
  ·rename_i hpo
   split at h1
   ·rename_i hne;exact absurd h1 hne
   ·rename_i hpr
    have hpo:Hc s t=0:=by simpa using hpo
    have hpr:Le s t=0:=by simpa using hpr
    refine ⟨?_, ?_,DF⟩
    ·intro w hw
     have hok:HC (QS t) QR t.wires=true:=by
      unfold Hc at hpo
      split at hpo
      ·cases hpo
      split at hpo
      ·cases hpo
      split at hpo
      ·cases hpo
      split at hpo
      ·cases hpo
      ·rename_i hne;simpa using hne
     obtain ⟨k,hk⟩:=Af hw
     have:=(mE hok k w hk).1
     unfold QS Iz GB at this
     simp only [AR,decide_eq_true_eq] at this
     omega
    ·unfold Le at hpr
     split at hpr
     ·rename_i hne;exact absurd hpr hne
     ·rename_i hne;simpa using hne
theorem z6{x:Stp}(h:Y3 x=true):(x.kind=0/\x.key.length=0)\/((1<=x.kind/\x.kind<=6)/\x.key.length<=4/\(x.kind=4->0<=x.n/\x.n<=x.m/\x.m<=65535)/\(x.kind=5->UR x.field=true)/\(x.kind=6->(1<=x.n/\x.n<=65535)/\1<=x.m/\x.m<=1073741824)):=by
 unfold Y3 at h
 split at h
 ·rename_i he
  left
  unfold cY at he
  simp only [AR,beq_iff_eq] at he
  exact ⟨he.1.1,he.1.2.2.2.2.2⟩
 ·split at h
  ·cases h
  ·rename_i hk
   right
   have hkl:x.key.length<=4:=by
    simp only [not_or] at hk
    omega
   split at h
   ·rename_i e;exact ⟨DF,hkl,DF,DF,DF⟩
   split at h
   ·rename_i e;exact ⟨DF,hkl,DF,DF,DF⟩
   split at h
   ·rename_i e;exact ⟨DF,hkl,DF,DF,DF⟩
   split at h
   ·rename_i e
    simp only [AR,decide_eq_true_eq] at h
    exact ⟨DF,hkl,λ_=>h.2,DF,DF⟩
   split at h
   ·rename_i e
    simp only [AR] at h
    exact ⟨DF,hkl,DF,λ_=>h.1,DF⟩
   split at h
   ·rename_i e
    simp only [AR,decide_eq_true_eq] at h
    exact ⟨DF,hkl,DF,DF,λ_=>⟨⟨h.2.1,h.2.2.1⟩,h.2.2.2.1,h.2.2.2.2⟩⟩
   ·cases h
theorem eR{l:List Fld}{s:Stp}(h:LG l s=0):okStp l s:=by
 have hf:Y3 s=true:=by
  unfold LG at h
  split at h
  ·unfold cZ at h
   split at h
   ·assumption
   ·cases h
  ·rename_i hn
   simp only [not_or,ne_eq,Decidable.not_not] at hn
   have:=hn.1
   unfold cZ at this
   split at this
   ·assumption
   ·cases this
 have hall:s.kind≠0->(Is s).all (λy=>(EO l y).2)=true:=by
  intro h0
  unfold LG at h
  split at h
  ·rename_i hc
   rcases hc with hc|hc
   ·unfold cZ at hc
    rw [hf] at hc
    exact absurd rfl hc
   ·exact absurd hc h0
  ·split at h
   ·cases h
   ·rename_i hn;simpa using hn
 have hkey:s.kind≠0 -> ∀ nm∈s.key,(EO l nm).2=true:=λh0 nm hm=>by
  refine Ao.1 (hall h0) nm ?_
  unfold Is
  split
  ·exact hm
  ·exact List.mem_append_left _ hm
 rcases z6 hf with ⟨h0,hk⟩|⟨hkd,hk,h4,h5,h6⟩
 ·exact ⟨DF,DF,hkey,DF,DF,DF,DF⟩
 ·refine ⟨DF,DF,hkey,λhc=>?_,λe=>(h4 e).2.2,λe=>(h6 e).2,λe=>?_⟩
  ·rcases hc with e|e
   ·have:=h4 e;omega
   ·have:=(h6 e).1;omega
  ·refine Ao.1 (hall DF) s.field ?_
   unfold Is
   have hne:s.field≠⟨#[]⟩:=by
    intro he
    have:=h5 e
    rw [he] at this
    exact absurd this dk
   rw [if_neg hne]
   exact List.mem_append_right _ (Al.2 rfl)
theorem PW{l:List Fld}{p:List Stage}: ∀ {r:List Stage} {i:Nat},Jw l p i r=true -> ∀ (k:Nat) (x:Stage),r[k]? =some x -> ∀ y∈p.take (i+k),KQ l y.step x.step=false
 | [],i,_,k,x,hx,_,_=>by simp at hx
 | z::r,i,h,k,x,hx,y,hy=>by
  rw [Jw,AR] at h
  match k,hx with
  | 0,hx =>
   have:z=x:=by simpa using hx
   subst this
   have h1:=h.1
   rw [Bool.not_eq_true',List.any_eq_false] at h1
   simpa using h1 y hy
  | k+1,hx =>
   exact PW h.2 k x (by simpa using hx) y (by rw [show i+1+k=i+(k+1) by omega];exact hy)
theorem ZB{l:List Fld}{s t:Stp}(h:KQ l s t=false)(hs:s.kind≠0)(ht:t.kind≠0)(hv:s.var=t.var):s.key.length=t.key.length:=by
 unfold KQ at h
 have e1:(s.kind !=0)=true:=by simpa using hs
 have e2:(t.kind !=0)=true:=by simpa using ht
 rw [e1,e2,decide_eq_true hv] at h
 have h3:Tv l s t=true:=by simpa using h
 unfold Tv at h3
 rw [AR,AR] at h3
 have h4:Hh l s.key=Hh l t.key:=by
  have:=h3.2.1
  unfold Xe at this
  exact of_decide_eq_true this
 have:=congrArg List.length h4
 unfold Hh at this
 simpa using this
theorem eU{l:List Fld}{p:List Stage}(h:PN l p=0):okPrg l p/\p.length<=8:=by
 obtain ⟨h1,h2,h3,h4⟩:=rl h
 have hty:Jw l p 0 p=true:=by
  unfold PN at h
  split at h
  ·rename_i hn;exact absurd h hn
  split at h
  ·rename_i hn;exact absurd h hn
  split at h
  ·assumption
  ·cases h
 refine ⟨⟨λs hs=>eR (h3 s hs).2,λs hs=>(SV (h3 s hs).1).2,λs hs t ht k1 k2 hv=>?_⟩,h1⟩
 obtain ⟨i,hi⟩:=Af hs
 obtain ⟨j,hj⟩:=Af ht
 rcases EN i j with hij|hij|hij
 ·exact ZB (PW hty j t hj s (AB (i:=i) (by rw [Aj,if_pos DF];exact hi))) k1 k2 hv
 ·subst hij
  rw [hi] at hj
  cases hj
  rfl
 ·exact (ZB (PW hty i s hi t (AB (i:=j) (by rw [Aj,if_pos DF];exact hj))) k2 k1 hv.symm).symm
theorem Lm{s:Setup}(hR:R19 s){k:Nat}{t:Tenant}(ht:s.tenants[k]? =some t):okPrg s.fields (FC t).1/\(FC t).1.length<=8/\(FC t).1.map (·.step)=t.program.map (·.step)/\t.ports.length<=64:=by
 obtain ⟨c1,c2,_⟩:=hR.ckE ht
 obtain ⟨w1,w2,w3⟩:=u3 c1
 rcases kw w1 w2 with ⟨g1,_,_⟩|⟨_,g2,g3⟩
 ·rw [g1] at c2;cases c2
 ·obtain ⟨o1,o2⟩:=eU g2
  exact ⟨o1,o2,g3,w3⟩
set_option maxRecDepth 50000
structure okSts (s:Setup) (sts:List (List Entry)):Prop where
 len:sts.length=s.tenants.length
 st : ∀ (k:Nat) (t:Tenant) (st:List Entry),s.tenants[k]? =some t->sts[k]? =some st->(∀ e∈st,eV e /\ ∀ x∈t.program,Yi x.step e)/\st.length<=60
theorem xW{h:Head}(hr:EF h=true):EF { h with h9:=0 }=true:=by
 unfold EF at hr ⊢
 simp only [Head.l,List.all_cons,List.all_nil,Bool.and_true,AR] at hr ⊢
 exact ⟨hr.1,hr.2.1,hr.2.2.1,hr.2.2.2.1,hr.2.2.2.2.1,hr.2.2.2.2.2.1,hr.2.2.2.2.2.2.1,hr.2.2.2.2.2.2.2.1,hr.2.2.2.2.2.2.2.2.1,dc⟩
theorem ur{t:Tenant}{h:Head}(hp:t.ports.length<=64)(hr:EF h=true)(he:(Om t h).2=true):EF (Om t h).1=true:=by
 have h1:=V0.1 he
 obtain ⟨j,x,h2,_,_,h3⟩:=KX h1
 have hj:=(AD.1 h2).1
 have h4:GY t (inE h)=((0+j:Nat):Int):=h3
 unfold Om Je
 have h5:GY t (i64 (h.h0 - 10000))=((0+j:Nat):Int):=h4
 rw [if_neg DF,h5]
 exact xW (dP hr DF DF)
theorem ya{s:Setup}(hR:R19 s)(hf:HI s=true)(hb:DT s.c<=1048576){sts:List (List Entry)}(hs:okSts s sts){h:Head}(hr:EF h=true){tick:Int}(ht:0<=tick/\tick<=1073741824):okRun s sts h tick:=by
 have hbt : ∀ t∈s.tenants,DT t.c<=1048576:=λt hm=>by
  have h1:=Pl (Hq hb) hm
  simpa only [AV.bulk] using h1
 have hnt:s.tenants.length<=8:=by
  unfold HI at hf
  simp only [AR,decide_eq_true_eq] at hf
  have:=hf.2.2.1
  omega
 have hprt : ∀ t∈s.tenants,t.ports.length<=64:=λt hm=>by
  obtain ⟨k,hk⟩:=Af hm
  exact (Lm hR hk).2.2.2
 refine ⟨hb,hR.fld,DF,ht,hs.len,λk t hk=>⟨(Lm hR hk).1,by have:=(Lm hR hk).2.1;omega⟩,λt hm=>?_,λk t st h1 h2=>?_,λc hc=>hR.pred hc,λc hc=>?_,λc hc=>?_,λt hm=>by have:=hprt t hm;omega,λt hm he=>ur (hprt t hm) hr he⟩
 ·have hbm:=hbt t hm
  refine ACw t (AK (Nj (HL hbm)) dc) (AK (Lx (GC hbm)) dc) λx hx=>ZG ?_ (Nj (HL hbm))
  have h1:=JU (GC hbm) hx
  have h2:DT x.c<=1048576:=by simpa only [AV.bulk] using h1
  exact GW h2
 ·obtain ⟨g1,g2⟩:=hs.st k t st h1 h2
  refine ⟨λe he=>⟨(g1 e he).1,λx hx=>?_⟩,DF⟩
  have hmap:=(Lm hR h1).2.2.1
  have:x.step∈t.program.map (·.step):=by rw [<- hmap];exact AO.2 ⟨x,hx,rfl⟩
  obtain ⟨y,hy,hxy⟩:=AO.1 this
  rw [<- hxy]
  exact (g1 e he).2 y hy
 ·have h0:=(Q7 (hR.con c hc)).2
  have hl:=AAQ hR hc
  exact ⟨h0,DF⟩
 ·have h1:=hR.con c hc
  have hl:=AAQ hR hc
  have h0:=(Q7 h1).2
  unfold SS at h1
  split at h1
  ·cases h1
  split at h1
  ·cases h1
  rename_i hn
  have hn:d9 (Kp s (GV s c.dst)) c.toPort=true:=by
   cases ho:d9 (Kp s (GV s c.dst)) c.toPort with
   | true=>rfl
   | false=>exact absurd (.inr (.inr ho)) hn
  unfold d9 at hn
  simp only [AR,decide_eq_true_eq] at hn
  obtain ⟨u,hu⟩ : ∃ u,s.tenants[(GV s c.dst).toNat]? =some u:=⟨_,AL hl⟩
  have ht2:Kp s (GV s c.dst)=u:=by unfold Kp;rw [hu];rfl
  rw [ht2] at hn
  have:=hprt u (AB hu)
  omega
theorem vN{s:Setup}{sts:List (List Entry)}{h:Head}{tick:Int}(he:N1 h 0 s.tenants=[]):Tt s sts h tick=some ([],sts):=by
 unfold Tt
 rw [he]
 rfl
def Xj(a:Arrival):Bool:=EF a.head&&(a.head.h9==0&&(decide (0<=a.tick)&&decide (a.tick<=1073741824)))
theorem vM(a:Arrival):DR AA 17 [.agg a.c] (.bool (Xj a)):=by
 have c1:=vE a.head
 refine pC AV1 rfl ?_
 simp only [f17,go_sem]
 repeat' (first
  | (refine pK (c1) ?_;simp only [go_sem])
  | ((first|apply cS|apply gS)<;>(intro hc;simp only [go_sem,hc])))
 all_goals first
  | rfl
  | (simp only [Xj];rfl)
  | grind [Xj]
  | (simp only [Xj];grind)
  | (simp [Xj, *];done)
  | (simp_all [Xj];done)
  | skip
theorem vI(s:Setup)(hn:s.tenants.length<=1073741824)(hp : ∀ t∈s.tenants,t.ports.length<=1073741824)(h:Head):DR AA 7 [.agg s.c,.agg h.c] (.int .i64 (iH h 0 s.tenants)):=by
 refine pC Aa7 rfl ?_
 simp only [f7,go_sem]
 have gN : ∀ a b (L:DM) z,(a::b::(L++[z]))[List.length (a::b::L)]? =some z:=λa b L z=>by
  have:a::b::(L++[z])=(a::b::L)++[z]:=sm
  rw [this];exact Bj
 have sN : ∀ a b (L:DM) z z2,(a::b::(L++[z])).set (List.length (a::b::L)) z2=a::b::(L++[z2]):=λa b L z z2=>by
  have:a::b::(L++[z])=(a::b::L)++[z]:=sm
  rw [this];simp
 refine Ed s.tenants (λ(_:DM) (r:List Tenant)=>iH h (s.tenants.length - r.length) r) (λ_ _=>True) (λk _=>[(3,.ptr 1 0),(10,.sl none (GA s.tenants)),(11,.int .i64 s.tenants.length),(12,.int .i64 k)])
  (λ_ L=>some s.c::some h.c::L) [] DF trivial rfl rfl ?_ ?_
 ·intro k L t ts hd hx _ hF h0 h1 hw
  have c1:=au t (hp t (AB hx)) h
  have eT:Je (GY t (i64 (h.h0 - 10000))) h=Om t h:=rfl
  rw [eT] at c1
  have hk2:=Eb hd
  have e1:s.tenants.length - (ts.length+1)=k:=DF
  have e2:s.tenants.length - ts.length=k+1:=DF
  simp only [AC,e1,e2] at hF ⊢
  simp only [go_sem,h0,h1,Ef hx,gN,sN]
  refine pK c1 ?_
  cases he:(Om t h).2 with
  | true =>
   simp only [go_sem,gN,sN,he]
   rw [AQ] at hF
   rw [hF,iH,if_pos he]
  | false =>
   simp only [go_sem,gN,sN,he,hw]
   exact ⟨_,by rw [e1,e2,iH,if_neg (by rw [he];decide)],rfl,rfl⟩
 ·intro L _ hF
  simp only [go_sem,AX,decide_false]
  rw [AQ] at hF
  rw [hF];rfl
theorem uw(a:ByteArray):aj a a=0:=by unfold aj;rw [Z0,if_neg dc,if_pos rfl]
theorem Y9(x:Int):O2 x x=0:=by unfold O2;simp
theorem ST : ∀ l:List Int,NN l l=0
 | []=>rfl
 | x::l=>by rw [NN,Y9,if_neg dc];exact ST l
theorem uu(e:Entry):SU e e=0:=by unfold SU;rw [uw,if_neg dc,ST]
theorem AAr(a b:List Int)(ha:a.length<=1073741824):DR AA 61 [.sl none (E4 a),.sl none (E4 b)] (.int .i64 (NN a b)):=by
 have ea:(E4 a).length=a.length:=F6 a
 have eb:(E4 b).length=b.length:=F6 b
 refine pC AUl rfl ?_
 simp only [f61,go_sem]
 refine Ed a (λ(_:Unit) r=>NN r (b.drop (a.length - r.length))) (λk _=>k<=b.length) (λk _=>[(0,.sl none (E4 a)),(1,.sl none (E4 b)),(5,.int .i64 k)]) (λ_ _=>[]) () DF (Nat.zero_le _) rfl rfl ?_ ?_
 ·intro k _ x xs hd hx hI hF h0 h1 hw
  have hk:=Eb hd
  have e1:a.length - (xs.length+1)=k:=DF
  have e2:a.length - xs.length=k+1:=DF
  simp only [AC,e1,e2,AQ,BN] at hF ⊢
  by_cases hkb:k<b.length
  ·obtain ⟨y,hy⟩ : ∃ y,b[k]? =some y:=⟨_,AL hkb⟩
   have hnb:(k:Int)<(b.length:Int):=DF
   rw [US hy,NN] at hF
   simp only [go_sem,h0,h1,E1 hx,E1 hy,ea,eb,hnb,decide_true]
   repeat' (first
    | ((first|apply cS|apply gS)<;>(intro hc;simp only [go_sem,hc,h0,h1,E1 hx,E1 hy,ea,eb,hnb,hw])))
   ·have hc:=of_decide_eq_true hc
    have e3:O2 x y = -1:=by unfold O2;rw [if_pos hc]
    rw [e3,if_pos dc] at hF
    rw [hF]
   ·rename_i hc1
    have hc1:=of_decide_eq_false hc1
    have hc2:=of_decide_eq_true hc
    have e3:O2 x y=1:=by unfold O2;rw [if_neg hc1];first|rw [if_pos hc2]|rw [if_neg DF]
    rw [e3,if_pos dc] at hF
    rw [hF]
   ·rename_i hc1
    have hc1:=of_decide_eq_false hc1
    have hc2:=of_decide_eq_false hc
    have:x=y:=DF
    subst this
    rw [e1,e2,US hy,NN,Y9,if_neg dc]
    exact ⟨(),rfl,DF⟩
  ·have hnb : ¬ (k:Int)<(b.length:Int):=DF
   rw [List.drop_eq_nil_of_le DF,NN] at hF
   have l1 : ¬ (a.length:Int)<(b.length:Int):=DF
   have l2:(b.length:Int)<(a.length:Int):=DF
   simp only [go_sem,h0,h1,E1 hx,ea,eb,hnb,decide_false,l1,l2,decide_true]
   rw [hF]
 ·intro _ hI hF
  rw [AQ,BN,AG,Nat.sub_zero] at hF
  simp only [go_sem,AX,decide_false,ea,eb]
  cases hr:b.drop a.length with
  | nil =>
   have hlen:b.length<=a.length:=by simpa using hr
   rw [hr,NN] at hF
   have l1 : ¬ (a.length:Int)<(b.length:Int):=DF
   have l2 : ¬ (b.length:Int)<(a.length:Int):=DF
   simp only [go_sem,l1,l2,decide_false,ea,eb]
   rw [hF]
  | cons y ys =>
   have hlen:a.length<b.length:=by have:=Eb hr;omega
   have l1:(a.length:Int)<(b.length:Int):=DF
   rw [hr,NN] at hF
   simp only [go_sem,l1,decide_true]
   rw [hF]
theorem AAp(l:List Entry)(hl:l.length<=1073741824)(hk : ∀ e∈l,e.key.length<=1073741824)(hK : ∀ a:List Int,a.length<=1073741824->DR AA 61 [.sl none (E4 a),.sl none (E4 a)] (.int .i64 0)):DR AA 33 [.sl none (EM l),.sl none (EM l)] (.bool true):=by
 have el:(EM l).length=l.length:=Gf l
 have n0:((l.length:Int) !=(l.length:Int))=false:=sm
 refine pC AVj rfl ?_
 simp only [f33,go_sem,el,n0]
 refine Ed l (λ(_:Unit) _=>()) (λ_ _=>True) (λk _=>[(0,.sl none (EM l)),(1,.sl none (EM l)),(5,.int .i64 k)]) (λ_ _=>[]) () DF trivial rfl rfl ?_ ?_
 ·intro k _ x xs hd hx _ _ h0 h1 hw
  have c1:=hK x.key (hk x (AB hx))
  have v0:(x.var.toList==x.var.toList)=true:=sm
  have v1:(x.n !=x.n)=false:=sm
  have v2:(x.at_ !=x.at_)=false:=sm
  simp only [go_sem,h0,h1,Er hx,el,v0,v1,v2,Ar]
  refine pK c1 ?_
  have z0:((0:Int) !=0)=false:=rfl
  simp only [go_sem,z0,hw]
  exact ⟨(),trivial⟩
 ·intro _ _ _
  simp only [go_sem,AX,decide_false,el]
theorem vL(l:List Entry)(hl:l.length<=1073741824)(hk : ∀ e∈l,e.key.length<=1073741824):DR AA 33 [.sl none (EM l),.sl none (EM l)] (.bool true) :=
 AAp l hl hk λa ha=>by
  have:=AAr a a ha
  rwa [ST] at this
theorem vJ(l:List (List Entry))(hl:l.length<=1073741824)(hk : ∀ x∈l,x.length<=1073741824 /\ ∀ e∈x,e.key.length<=1073741824):DR AA 8 [.sl none (Fp l),.sl none (Fp l)] (.bool true):=by
 have el:(Fp l).length=l.length:=Lw l
 have n0:((l.length:Int) !=(l.length:Int))=false:=sm
 refine pC Aa4 rfl ?_
 simp only [f8,go_sem,el,n0]
 refine Ed l (λ(_:Unit) _=>()) (λ_ _=>True) (λk _=>[(0,.sl none (Fp l)),(1,.sl none (Fp l)),(5,.int .i64 k)]) (λ_ _=>[]) () DF trivial rfl rfl ?_ ?_
 ·intro k _ x xs hd hx _ _ h0 h1 hw
  have hx2:=hk x (AB hx)
  have c1:=vL x hx2.1 hx2.2
  simp only [go_sem,h0,h1,HE hx,el]
  refine pK c1 ?_
  simp only [go_sem,hw,Ar]
  exact ⟨(),trivial⟩
 ·intro _ _ _
  simp only [go_sem,AX,decide_false,el]
theorem AD2(a b:Entry)(ha:a.key.length<=1073741824):DR AA 174 [.agg a.c,.agg b.c] (.int .i64 (SU a b)):=by
 have c1:=AAr a.key b.key ha
 refine pC AL6 rfl ?_
 simp only [f174,go_sem]
 repeat' (first
  | (refine pK (c1) ?_;simp only [go_sem,By])
  | ((first|apply cS|apply gS)<;>(intro hc;simp only [go_sem,hc,By])))
 ·have h1:S0 a.var b.var=true:=hc
  simp [SU,aj,h1]
 ·rename_i hc1
  have h1:S0 a.var b.var=false:=hc1
  have h2 : ¬ a.var=b.var:=by simpa using hc
  simp [SU,aj,h1,h2]
 ·rename_i hc1
  have h1:S0 a.var b.var=false:=hc1
  have h2:a.var=b.var:=by simpa using hc
  simp [SU,aj,h1,h2,Z0]
theorem ACy(a:Entry)(ha:a.key.length<=1073741824):DR AA 41 [.agg a.c,.agg a.c] (.bool true):=by
 have c1:=lj a a ha
 rw [uu] at c1
 have v1:(a.n==a.n)=true:=sm
 have v2:(a.at_==a.at_)=true:=sm
 have v3:((0:Int)==0)=true:=rfl
 refine pC AVG rfl ?_
 simp only [f41,go_sem]
 refine pK c1 ?_
 simp only [go_sem,v1,v2,v3]
theorem yK(l:List Entry)(hl:l.length<=1073741824)(hk : ∀ e∈l,e.key.length<=1073741824):DR AA 40 [.sl none (EM l),.sl none (EM l),.fn (.func 41) [] []] (.bool true):=by
 have el:(EM l).length=l.length:=Gf l
 have n0:((l.length:Int) !=(l.length:Int))=false:=sm
 refine pC AVL rfl ?_
 simp only [f40,go_sem,el,n0]
 refine Ed l (λ(_:Unit) _=>()) (λ_ _=>True) (λk _=>[(1,.sl none (EM l)),(2,.fn (.func 41) [] []),(15,.sl none (EM l)),(16,.int .i64 l.length),(17,.int .i64 k)]) (λ_ _=>[]) () DF trivial rfl rfl ?_ ?_
 ·intro k _ x xs hd hx _ _ h0 h1 hw
  have c1:=ACy x (hk x (AB hx))
  simp only [go_sem,h0,h1,Er hx,el,AE,AC,AG,AY,Nat.reduceAdd]
  refine Eh.pure c1 ?_
  simp only [go_sem,hw,Ar]
  exact ⟨(),trivial⟩
 ·intro _ _ _
  simp only [go_sem,AX,decide_false,el]
theorem q9(l:List Entry)(hl:l.length<=1073741824)(hk : ∀ e∈l,e.key.length<=1073741824):DR AA 14 [.sl none (EM l),.sl none (EM l)] (.bool true):=by
 refine pC AV7 rfl ?_
 simp only [f14,go_sem]
 repeat' (first
  | (refine pK (yK l hl hk) ?_;simp only [go_sem])
  | ((first|apply cS|apply gS)<;>(intro hc;simp only [go_sem,hc])))
def NI(l:List Variable):List AV:=l.map λx => .agg x.c
@[go_sem] theorem fC(l:List Variable):(NI l).length=l.length:=by simp [NI]
theorem VH{l:List Variable}{i:Nat}{x:Variable}(h:l[i]? =some x):(NI l)[i]? =some (.agg x.c):=by simp [NI,h]
@[go_sem] theorem ARt(a:List Variable)(x:Variable):NI a++[.agg x.c]=NI (a++[x]):=by simp [NI]
@[go_sem] theorem tn(l:List Variable):DY (NI l)=true:=by
 induction l with
 | nil=>rfl
 | cons x xs ih=>simpa [NI,DY,AV.pure] using ⟨T0 x,ih⟩
theorem pR(l:List Variable)(hl:l.length<=1073741824)(v:ByteArray):DR AA 172 [.sl none (NI l),.str v] (.int .i64 (Gq (λx:Variable=>decide (x.name=v)) l)):=by
 have el:(NI l).length=l.length:=fC l
 refine pC AMD rfl ?_
 simp only [f172,go_sem]
 refine EP l (λr=>Fw (λx:Variable=>decide (x.name=v)) (l.length - r.length) r) (λk=>[(0,.sl none (NI l)),(1,.str v),(5,.int .i64 k)]) DF rfl ?_ ?_
 ·intro k x xs hd hx hF h0 h1 hw
  have hk2:=Eb hd
  have e1:l.length - (xs.length+1)=k:=DF
  have e2:l.length - xs.length=k+1:=DF
  simp only [AC,e1,AQ] at hF
  simp only [go_sem,h0,h1,VH hx,el,e1,e2,By]
  repeat' (first
   | ((first|apply cS|apply gS)<;>(intro hc;simp only [go_sem,hc,h0,h1,hw,VH hx,el,e1,e2])))
  ·rw [Gq,hF,Fw,if_pos hc]
  ·rw [Fw,if_neg (by rw [hc];decide)]
 ·intro hF hlt
  simp only [go_sem,hlt,decide_false,el]
  rw [AQ] at hF
  rw [Gq,hF];rfl
theorem ADy(l:List Entry)(hl:l.length<=1073741824)(v:ByteArray):DR AA 175 [.sl none (EM l),.str v] (.int .i64 (XJ l v).length):=by
 have el:(EM l).length=l.length:=Gf l
 refine pC AL3 rfl ?_
 simp only [f175,go_sem]
 refine Ed l (λ(_:Unit) _=>()) (λ_ _=>True) (λk _=>[(0,.sl none (EM l)),(1,.str v),(5,.int .i64 (XJ (l.take k) v).length),(6,.int .i64 k)]) (λ_ _=>[]) () DF trivial rfl rfl ?_ ?_
 ·intro k _ x xs hd hx _ _ h0 h1 hw
  have hkl:=(AD.1 hx).1
  have hle:(XJ (l.take k) v).length<=k:=AK (List.length_filter_le _ _) (by rw [BI];omega)
  have hw2:IntKind.i64.wrap (((XJ (l.take k) v).length:Int)+1)=(((XJ (l.take k) v).length+1:Nat):Int):=Ln DF
  have htk:l.take (k+1)=l.take k++[x]:=by rw [BF,hx];rfl
  simp only [go_sem,h0,h1,Er hx,el,By]
  repeat' (first
   | ((first|apply cS|apply gS)<;>(intro hc;simp only [go_sem,hc,h0,h1,hw,hw2,Er hx,el])))
  ·have hv:x.var=v:=of_decide_eq_true hc
   have:XJ (l.take (k+1)) v=XJ (l.take k) v++[x]:=by rw [htk];unfold XJ;rw [Cb];simp [hv]
   rw [this]
   exact ⟨(),by first|rw [AE];rfl|rfl,rfl⟩
  ·have hv : ¬ x.var=v:=of_decide_eq_false hc
   have:XJ (l.take (k+1)) v=XJ (l.take k) v:=by rw [htk];unfold XJ;rw [Cb];simp [hv]
   rw [this]
   exact ⟨(),by first|rw [AE];rfl|rfl,rfl⟩
 ·intro _ _ _
  simp only [go_sem,AX,decide_false,el,BO]
theorem vH(n:Int)(hn:n<9223372036854775807):DR AA 232 [.int .i64 n] (.int .i64 (W8 n.toNat)):=by
 refine pC AJk rfl ?_
 simp only [f232,go_sem]
 refine bC n.toNat (λk=>[(0,.int .i64 n),(3,.int .i64 (W8 k)),(4,.int .i64 k)]) (λ_=>[]) rfl rfl ?_
 intro k hk
 by_cases h:(k:Int)<n
 ·have hw:=Ln (k:=k) DF
  simp only [go_sem,h,decide_true,hw]
  exact ⟨DF,rfl,rfl⟩
 ·have:k=n.toNat:=DF
  subst this
  simp only [go_sem,h,decide_false]
def oT(v:Variable)(e:Entry):Prop:=e.key.length=v.widths.length/\(0<=e.n/\e.n<=65535)/\(0<=e.at_/\e.at_<=1073741824) /\ ∀ x∈e.key,0<=x
set_option maxHeartbeats 4000000 in
theorem AF3(v:Variable)(hw : ∀ w∈v.widths,w<9223372036854775807)(e:Entry)(hk:e.key.length<=1073741824)(l:List Entry)(hl:l.length<=1073741824):JJ AA 173 [.agg v.c,.agg e.c,.sl none (EM l)] λr => ∃ b,r = .bool b/\(b=true->oT v e):=by
 have el:(EM l).length=l.length:=Gf l
 have ek:(E4 e.key).length=e.key.length:=F6 _
 have ew:(E4 v.widths).length=v.widths.length:=F6 _
 refine qC AMA rfl ?_
 by_cases hb:e.key.length=v.widths.length/\(0<=e.n/\e.n<=65535)/\(0<=e.at_/\e.at_<=1073741824)
 ·obtain ⟨b0,⟨b1,b2⟩,b3,b4⟩:=hb
  have n0:((e.key.length:Int) !=(v.widths.length:Int))=false:=by simp [b0]
  have n1 : ¬ e.n<0:=DF
  have n2 : ¬ 65535<e.n:=DF
  have n3 : ¬ e.at_<0:=DF
  have n4 : ¬ 1073741824<e.at_:=DF
  simp only [f173,go_sem,ek,ew,n0,n1,n2,n3,n4,decide_false]
  refine Ed e.key (λ(_:Unit) _=>()) (λk _ => ∀ x∈e.key.take k,0<=x) (λk _=>[(2,.sl none (EM l)),(3,.ptr 0 0),(4,.ptr 1 0),(7,.int .i64 k)]) (λ_ _=>[some v.c,some e.c]) () DF sm rfl rfl ?_ ?_
  ·intro k _ x xs hd hx hI _ h0 h1 hw1
   obtain ⟨w,hwx⟩ : ∃ w,v.widths[k]? =some w:=⟨_,AL (by have:=(AD.1 hx).1;omega)⟩
   have hkw:(k:Int)<(v.widths.length:Int):=DF
   have c1:=vH w (hw w (AB hwx))
   have htk:e.key.take (k+1)=e.key.take k++[x]:=by rw [BF,hx];rfl
   simp only [go_sem,h0,h1,ek,ew,E1 hx,E1 hwx,hkw]
   repeat' (first
    | (refine pK (c1) ?_;simp only [go_sem,h0,h1,hw1,ek,ew,E1 hx,E1 hwx,hkw])
    | ((first|apply cS|apply gS)<;>(intro hc;simp only [go_sem,hc,h0,h1,hw1,ek,ew,E1 hx,E1 hwx,hkw])))
   all_goals first|exact ⟨rfl,false,rfl,sm⟩|skip
   ·rename_i hc1
    refine ⟨(),λy hy=>?_⟩
    rw [htk] at hy
    rcases Ay.1 hy with hy|hy
    ·exact hI y hy
    ·rcases Al.1 hy with rfl
     have:=of_decide_eq_false hc1
     omega
  ·intro _ hI _
   have hq:oT v e:=⟨b0,⟨b1,b2⟩,⟨b3,b4⟩,by rw [BO] at hI;exact hI⟩
   simp only [go_sem,AX,decide_false,ek]
   repeat' (first
    | ((first|apply cS|apply gS)<;>(intro hc;simp only [go_sem,hc,ek,el])))
   all_goals first|exact ⟨rfl,_,rfl,λ_=>hq⟩|skip
   refine Ed l (λ(_:Unit) _=>()) (λ_ _=>True) (λk _=>[(2,.sl none (EM l)),(3,.ptr 0 0),(4,.ptr 1 0),(8,.int .i64 k)]) (λ_ _=>[some v.c,some e.c]) () DF trivial rfl rfl ?_ ?_
   ·intro k _ x xs hd hx _ _ h0 h1 hw1
    simp only [go_sem,h0,h1,el,Er hx]
    repeat' (first
     | ((first|apply cS|apply gS)<;>(intro hc;simp only [go_sem,hc,h0,h1,hw1,el,Er hx])))
    all_goals first|exact ⟨rfl,_,rfl,λ_=>hq⟩|exact ⟨(),trivial⟩|skip
   ·intro _ _ _
    simp only [go_sem,AX,decide_false,el]
    repeat' (first
     | ((first|apply cS|apply gS)<;>(intro hc;simp only [go_sem,hc,el])))
    all_goals first|exact ⟨rfl,_,rfl,λ_=>hq⟩|skip
 ·simp only [f173,go_sem,ek,ew]
  repeat' (first
   | ((first|apply cS|apply gS)<;>(intro hc;simp only [go_sem,hc,ek,ew])))
  all_goals first|exact ⟨rfl,false,rfl,sm⟩|skip
  rename_i g1 g2 g3 g4
  have g1:(e.key.length:Int)=(v.widths.length:Int):=by simpa using g1
  have g2:=of_decide_eq_false g2
  have g3:=of_decide_eq_false g3
  have g4:=of_decide_eq_false g4
  have g5:=of_decide_eq_false hc
  exact absurd ⟨DF,⟨DF,DF⟩,DF,DF⟩ hb
def AZJ(l:List Entry):Prop:=∀ (k:Nat) (y x:Entry),l[k]? =some y->l[k+1]? =some x->SU y x<0
def gJ:Hint:={ h94 with pc:=[20,49,60] }
@[go_sem] theorem AaD(k:Nat):gJ.lv k=h94.lv k:=AH rfl rfl
@[go_sem] theorem AaF(k:Nat):gJ.ct k=h94.ct k:=AH rfl rfl
@[go_sem] theorem AaG(k:Nat):gJ.at k=h94.at k:=AH rfl rfl
@[go_sem] theorem AaE(k:Nat):gJ.dn k=h94.dn k:=AH rfl rfl
@[go_sem] theorem Aay:gJ.tk=[]/\gJ.mt=[]/\gJ.pc=[20,49,60]:=⟨rfl,rfl,rfl⟩
theorem AGk:FK AA 94 f94 gJ:=⟨kr,kr,func94,kr⟩
set_option maxHeartbeats 4000000 in
theorem sw(vs:List Variable)(hv:vs.length<=1073741824)(hw : ∀ v∈vs,∀ w∈v.widths,w<9223372036854775807)(l:List Entry)(hl:l.length<=1073741824)(hk : ∀ e∈l,e.key.length<=1073741824):JJ AA 94 [.sl none (NI vs),.sl none (EM l)] λr => ∃ n,r = .int .i64 n/\(n=0->(∀ e∈l,∃ v∈vs,v.name=e.var/\oT v e)/\AZJ l):=by
 have el:(EM l).length=l.length:=Gf l
 have ev:(NI vs).length=vs.length:=fC vs
 refine qC AGk rfl ?_
 simp only [f94,go_sem]
 refine Ed l (λ(_:Unit) _=>()) (λk _=>(∀ e∈l.take k,∃ v∈vs,v.name=e.var/\oT v e) /\ ∀ (i:Nat) (y z:Entry),i+1<k->l[i]? =some y->l[i+1]? =some z->SU y z<0) (λk _=>[(0,.sl none (NI vs)),(1,.sl none (EM l)),(5,.int .i64 k)]) (λ_ _=>[]) () DF ⟨sm,λi y z hi=>DF⟩ rfl rfl ?_ ?_
 ·rintro k _ x xs hd hx ⟨hI,hJ⟩ _ h0 h1 hw1
  have hkx:=hk x (AB hx)
  have c1:=pR vs hv x.var
  have htk:l.take (k+1)=l.take k++[x]:=by rw [BF,hx];rfl
  have hkl:=(AD.1 hx).1
  have hkle:(k:Int)<=(l.length:Int):=DF
  have htl:(l.take k).length<=1073741824:=by rw [BI];omega
  have c3:=ADy (l.take k) htl x.var
  have htl2:(EM (l.take k)).length=k:=by rw [Gf,BI];omega
  simp only [go_sem,h0,h1,el,Er hx]
  refine pK c1 ?_
  rcases Mj (λv:Variable=>decide (v.name=x.var)) vs 0 with ⟨w1,w2⟩|⟨i,v,w1,w2,w3⟩
  ·have e1:Gq (λv:Variable=>decide (v.name=x.var)) vs = -1:=w1
   rw [e1]
   have z1:(-1:Int)<0:=dc
   simp only [go_sem,z1,decide_true]
   exact ⟨rfl,4,rfl,λh=>absurd h dc⟩
  ·have e1:Gq (λv:Variable=>decide (v.name=x.var)) vs=(i:Int):=by rw [Gq,w1,AY]
   have hvm:=AB w2
   have hvn:v.name=x.var:=by have:=List.find?_some w3;simpa using this
   have hiv:(i:Int)<(vs.length:Int):=by have:=(AD.1 w2).1;omega
   have i0:(0:Int)<=(i:Int):=DF
   have i1 : ¬ (i:Int)<0:=DF
   have q1:=AF3 v (hw v hvm) x hkx (l.take k) htl
   rw [e1]
   have hkne : ¬ ((k:Int)=(l.length:Int)):=DF
   have hnx:oT v x->(∀ y,0<k->l[k - 1]? =some y->SU y x<0)->(∀ e∈l.take (k+1),∃ v∈vs,v.name=e.var/\oT v e) /\ ∀ (i:Nat) (y z:Entry),i+1<k+1->l[i]? =some y->l[i+1]? =some z->SU y z<0:=λhf hq=>⟨λe he=>by
    rw [htk] at he
    rcases Ay.1 he with he|he
    ·exact hI e he
    ·rcases Al.1 he with rfl
     exact ⟨v,hvm,hvn,hf⟩,λi y z hi hy hz=>by
    by_cases hik:i+1<k
    ·exact hJ i y z hik hy hz
    ·have hik:i+1=k:=DF
     rw [hik,hx] at hz
     cases hz
     exact hq y DF (by rw [<- hik];exact hy)⟩
   simp only [go_sem,i0,i1,hiv,decide_false,VH w2,h0,h1,el,ev,hkle,hkne,Er hx]
   refine KB q1 λr hr=>?_
   obtain ⟨b,rfl,hb⟩:=hr
   cases b with
   | false =>
    simp only [go_sem,Av]
    exact ⟨rfl,1,rfl,λh=>absurd h dc⟩
   | true =>
    have hnx:=hnx (hb rfl)
    rcases Nat.eq_zero_or_pos k with hz|hz
    ·have hnx:=hnx λy hk0=>DF
     have g0 : ¬ (0:Int)<(k:Int):=DF
     simp only [go_sem,Ar,g0,decide_false,h0,h1,el,hkle,hkne,Er hx]
     repeat' (first
      | (refine pK (c3) ?_;simp only [go_sem,h0,h1,hw1,el,hkle,hkne,Er hx])
      | ((first|apply cS|apply gS)<;>(intro hc;simp only [go_sem,hc,h0,h1,hw1,el,hkle,hkne,Er hx])))
     all_goals first|exact ⟨rfl,2,rfl,λh=>absurd h dc⟩|exact ⟨(),hnx,rfl,rfl⟩|exact ⟨(),hnx⟩
    ·have g0:(0:Int)<(k:Int):=DF
     obtain ⟨y,hy⟩ : ∃ y,l[k - 1]? =some y:=⟨_,AL DF⟩
     have c2:=AD2 y x (hk y (AB hy))
     have hwk:IntKind.i64.wrap ((k:Int) - 1)=((k - 1:Nat):Int):=by rw [NT DF DF];omega
     have g1:(0:Int)<=((k - 1:Nat):Int):=DF
     have g2:((k - 1:Nat):Int)<(l.length:Int):=DF
     simp only [go_sem,Ar,g0,g1,g2,hwk,decide_true,h0,h1,el,hkle,hkne,Er hx,Er hy]
     repeat' (first
      | ((first|refine pK (c2) ?_|refine pK (c3) ?_);simp only [go_sem,h0,h1,hw1,g1,g2,hwk,el,hkle,hkne,Er hx,Er hy])
      | ((first|apply cS|apply gS)<;>(intro hc;simp only [go_sem,hc,h0,h1,hw1,g1,g2,hwk,el,hkle,hkne,Er hx,Er hy])))
     all_goals first|exact ⟨rfl,10,rfl,λh=>absurd h dc⟩|exact ⟨rfl,2,rfl,λh=>absurd h dc⟩|exact ⟨(),hnx (λy2 _ hy2=>by rw [hy] at hy2;cases hy2;simp only [decide_eq_false_iff_not] at *;omega),rfl,rfl⟩|exact ⟨(),hnx (λy2 _ hy2=>by rw [hy] at hy2;cases hy2;simp only [decide_eq_false_iff_not] at *;omega)⟩
 ·rintro _ ⟨hI,hJ⟩ _
  simp only [go_sem,AX,decide_false,el]
  rw [BO] at hI
  exact ⟨rfl,0,rfl,λ_=>⟨hI,λi y z hy hz=>hJ i y z (AD.1 hz).1 hy hz⟩⟩
def geB(a b:ByteArray):Bool:=!S0 a b
def IU(n:ByteArray):Bool->List ByteArray->List ByteArray
 | d,[]=>if d then [] else [n]
 | d,x::r=>(if geB x n=true/\d=false then [n] else [])++((if x≠n then [x] else [])++IU n (d||geB x n) r)
def Ro(l:List ByteArray)(n:ByteArray):List ByteArray:=IU n false l
theorem AQr(l:List ByteArray)(n:ByteArray)(hl:l.length<=1073741824):DR AA 176 [.sl none (Fq l),.str n] (.sl none (Fq (Ro l n))):=by
 have el:(Fq l).length=l.length:=Kw l
 refine pB AL0 rfl ?_
 simp only [f176,go_sem]
 refine Ed l (λ(s:List ByteArray×Bool) r=>s.1++IU n s.2 r) (λk s=>s.1.length<=2*k) (λk s=>[(0,.sl none (Fq l)),(1,.str n),(5,.sl (some 1) (Fq s.1)),(6,.bool s.2),(7,.int .i64 k)]) (λk o=>[]) ([],false) DF sm rfl rfl ?_ ?_
 ·rintro k ⟨o,d⟩ y ys hd hx hI hF h0 h1 hw
  dsimp only at hI hF ⊢
  have hk2:=Eb hd
  obtain ⟨g1,g2,g3,g4,g5⟩:(o.length+1)*16<=140737488355328/\o.length<=9223372036854775806/\(o.length+1+1)*16<=140737488355328/\o.length+1<=9223372036854775806/\o.length<=9223372036854775805:=by
   have hm:o.length<=2147483648:=AK hI DF
   generalize o.length=m at hm
   omega
  simp only [go_sem,h0,h1,Ei hx,el]
  repeat' (first
   | ((first|apply cS|apply gS)<;>(intro hc;simp only [go_sem,hc,h0,h1,hw,Ei hx,el,By,AE,Bs,g1,g2,g3,g4,g5])))
  all_goals first
   | exact ⟨(o++[n,y],true),by grind [IU,geB,S0],by simp;omega,rfl,rfl⟩
   | exact ⟨(o++[n],true),by grind [IU,geB,S0],by simp;omega,rfl,rfl⟩
   | exact ⟨(o++[y],d),by grind [IU,geB,S0],by simp;omega,rfl,rfl⟩
   | exact ⟨(o,d),by grind [IU,geB,S0],by simp;omega,rfl,rfl⟩
   | skip
 ·rintro ⟨o,d⟩ hI hF
  dsimp only at hI hF ⊢
  obtain ⟨g1,g2⟩:(o.length+1)*16<=140737488355328/\o.length<=9223372036854775806:=by
   have hm:o.length<=2147483648:=AK hI DF
   generalize o.length=m at hm
   omega
  simp only [go_sem,AX,decide_false,el]
  repeat' (first
   | ((first|apply cS|apply gS)<;>(intro hc;simp only [go_sem,hc,g1,g2])))
  all_goals first
   | rfl
   | (simp only [Ro,IU];rfl)
   | grind [Ro,IU]
   | (simp only [Ro,IU];grind)
   | (simp [Ro,IU, *];done)
   | (simp_all [Ro,IU];done)
   | skip
def LV(o:List ByteArray):List Stage->List ByteArray
 | []=>o
 | x::r=>LV (if x.step.kind=0 then o else Ro o x.step.var) r
theorem Pc(n:ByteArray): ∀ (l:List ByteArray) (d:Bool),(IU n d l).length<=2*l.length+1
 | [],d=>by cases d<;>simp [IU]
 | x::l,d=>by
  rw [IU,AE,AE,AC]
  have:=Pc n l (d||geB x n)
  split<;>split<;>simp<;>omega
def fy:Hint:={ h95 with tk:=[89,93] }
@[go_sem] theorem AZb(k:Nat):fy.lv k=h95.lv k:=AH rfl rfl
@[go_sem] theorem AZd(k:Nat):fy.ct k=h95.ct k:=AH rfl rfl
@[go_sem] theorem AZe(k:Nat):fy.at k=h95.at k:=AH rfl rfl
@[go_sem] theorem AZc(k:Nat):fy.dn k=h95.dn k:=AH rfl rfl
@[go_sem] theorem Aaf:fy.tk=[89,93]/\fy.mt=[]/\fy.pc=[33,70,75,78]:=⟨rfl,rfl,rfl⟩
theorem AGa:FK AA 95 f95 fy:=⟨kr,kr,func95,kr⟩
def vW(l:List Fld)(nm:ByteArray)(a:Variable×Bool)(s:Stp):Variable×Bool :=
 if s.kind=0\/s.var≠nm then a
 else if Ks s=true/\a.2=false then ({ a.1 with family:=KY s.kind,widths:=Hh l s.key,n:=s.n,m:=s.m },true)
 else ({ a.1 with family:=KY s.kind,widths:=Hh l s.key },a.2)
def wT(l:List Fld)(nm:ByteArray)(a:Variable×Bool):List Stage->Variable×Bool
 | []=>a
 | x::r=>wT l nm (vW l nm a x.step) r
def Ub(l:List Fld)(p:List Stage)(nm:ByteArray):Variable:=(wT l nm (⟨nm,0,[],0,0⟩,false) p).1
def MR(l:List Fld)(p:List Stage):List Variable:=(LV [] p).map (Ub l p)
set_option maxHeartbeats 4000000 in
theorem AAo(l:List Fld)(p:List Stage)(hp:p.length<=8)(hk : ∀ x∈p,x.step.key.length<=1048576):DR AA 95 [.sl none (E8 l),.sl none (Es p)] (.sl none (NI (MR l p))):=by
 have el:(Es p).length=p.length:=Mf p
 refine pB AGa rfl ?_ (hv:=by simp [AV.pure,tn])
 simp only [f95,go_sem]
 refine Ed p (λ(s:Option Nat×List ByteArray) r=>LV s.2 r) (λk s=>s.2.length<4^k) (λk s=>[(0,.sl none (E8 l)),(1,.sl none (Es p)),(5,.sl s.1 (Fq s.2)),(6,.int .i64 k)]) (λ_ _=>[]) (some 1,[]) DF dc rfl rfl ?_ ?_
 ·rintro k ⟨w,o⟩ x xs hd hx hI hF h0 h1 hw
  dsimp only at hI hF ⊢
  have hkl:=(AD.1 hx).1
  have h48:(4:Nat)^k<=4^8:=Bb dc DF
  have hol:o.length<65536:=BR hI h48
  have c1:=AQr o x.step.var DF
  have hl2:(Ro o x.step.var).length<4^(k+1):=by
   have:=Pc x.step.var o false
   have h4:(4:Nat)^(k+1)=4*4^k:=by rw [DK];omega
   unfold Ro
   omega
  have hl3:o.length<4^(k+1):=by
   have h4:(4:Nat)^(k+1)=4*4^k:=by rw [DK];omega
   omega
  by_cases h00:x.step.kind=0
  ·have z0:(x.step.kind !=0)=false:=by simp [h00]
   simp only [go_sem,h0,h1,EU hx,el,z0,hw]
   exact ⟨(w,o),by rw [LV,if_pos h00],hl3,rfl,rfl⟩
  ·have z0:(x.step.kind !=0)=true:=by simp [h00]
   simp only [go_sem,h0,h1,EU hx,el,z0]
   refine pK c1 ?_
   simp only [go_sem,hw]
   exact ⟨(none,Ro o x.step.var),by rw [LV,if_neg h00],hl2,rfl,rfl⟩
 ·rintro ⟨w,o⟩ hI hF
  dsimp only at hI hF ⊢
  have hol:o.length<65536:=BR hI (Bb dc hp)
  have ho:LV [] p=o:=hF
  have eo:(Fq o).length=o.length:=Kw o
  simp only [go_sem,AX,decide_false,el]
  refine Ed o (λ(s:List Variable×DM) r=>s.1++r.map (Ub l p)) (λk s=>s.1.length=k) (λk s=>[(0,.sl none (E8 l)),(1,.sl none (Es p)),(5,.sl w (Fq o)),(7,.sl (some 5) (NI s.1)),(8,.int .i64 k)]) (λ_ s=>s.2) ([],[]) DF rfl rfl rfl ?_ ?_
  ·rintro k ⟨out,J⟩ nm nms hd hx hI2 hF2 h0 h1 hw
   dsimp only at hI2 hF2 ⊢
   have hsp:GT (Variable.z.cf (some 1)) [AV.str nm]=(⟨nm,0,[],0,0⟩:Variable).cf (some 1):=rfl
   have gB : ∀ y L,(J++y::L)[J.length]? =some y:=λy L=>sm
   have sB : ∀ y z L,(J++y::L).set J.length z=J++z::L:=λy z L=>by
    rw [List.set_append_right _ _ (AU _)];simp
   have gN : ∀ y L z,(J++y::(L++[z]))[List.length (J++y::L)]? =some z:=λy L z=>by
    have:J++y::(L++[z])=(J++y::L)++[z]:=sm
    rw [this];exact Bj
   have sN : ∀ y L z z2,(J++y::(L++[z])).set (List.length (J++y::L)) z2=J++y::(L++[z2]):=λy L z z2=>by
    have:J++y::(L++[z])=(J++y::L)++[z]:=sm
    rw [this];simp
   simp only [go_sem,h0,h1,Ei hx,eo,hsp]
   refine Ed p (λ(a:(Variable×Bool)×Option Nat×DM) r=>wT l nm a.1 r) (λ_ _=>True) (λj a=>[(0,.sl none (E8 l)),(1,.sl none (Es p)),(5,.sl w (Fq o)),(7,.sl (some 5) (NI out)),(8,.int .i64 k),(9,.ptr J.length 0),(10,.bool a.1.2),(11,.int .i64 j)])
    (λ_ a=>J++some (a.1.1.cf a.2.1)::a.2.2) ((⟨nm,0,[],0,0⟩,false),some 1,[]) DF trivial rfl rfl ?_ ?_
   ·rintro j ⟨⟨v,f⟩,w2,L⟩ x xs hd3 hx3 _ hF3 g0 g1 gw
    dsimp only at hF3 ⊢
    have c1:=AAk x.step.kind
    have c2:=pQ l x.step.key (by have:=hk x (AB hx3);omega)
    have c3:=AAe x.step
    by_cases h00:x.step.kind=0
    ·have z0:(x.step.kind==0)=true:=by simp [h00]
     simp only [go_sem,g0,g1,EU hx3,el,gB,gN,sN,z0,gw]
     exact ⟨((v,f),w2,L++[some (x.step.cf none)]),by rw [wT,vW,if_pos (.inl h00)],rfl,rfl⟩
    ·have z0:(x.step.kind==0)=false:=by simp [h00]
     by_cases hv:x.step.var=nm
     ·have hvb:(nm.toList==nm.toList)=true:=sm
      simp only [go_sem,g0,g1,EU hx3,el,gB,gN,sN,sB,z0,Ei hx,h0,h1,eo,hv,hvb,Ar]
      have sp1 : ∀ (u:Variable) (q:Option Nat) (i:Int),splice (u.cf q) 1 [.int .i64 i]=({ u with family:=i }:Variable).cf q:=λ_ _ _=>rfl
      have sp2 : ∀ (u:Variable) (q:Option Nat) (i:List Int),splice (u.cf q) 2 [.sl none (E4 i)]=({ u with widths:=i }:Variable).cf none:=λ_ _ _=>rfl
      have sp3 : ∀ (u:Variable) (q:Option Nat) (i:Int),splice (u.cf q) 3 [.int .i64 i]=({ u with n:=i }:Variable).cf q:=λ_ _ _=>rfl
      have sp4 : ∀ (u:Variable) (q:Option Nat) (i:Int),splice (u.cf q) 4 [.int .i64 i]=({ u with m:=i }:Variable).cf q:=λ_ _ _=>rfl
      have gN2 : ∀ y y' L z,(J++y::(L++[z]))[List.length (J++y'::L)]? =some z:=λy y' L z=>by
       have e:List.length (J++y'::L)=List.length (J++y::L):=sm
       rw [e];exact gN y L z
      refine pK c1 ?_
      simp only [go_sem,gB,gN2,sN,sB,sp1,sp2,sp3,sp4]
      refine pK c2 ?_
      simp only [go_sem,gB,gN2,sN,sB,sp1,sp2,sp3,sp4]
      refine pK c3 ?_
      cases hns:Ks x.step with
      | false =>
       simp only [go_sem,gB,gN2,sN,sB,sp1,sp2,sp3,sp4,gw]
       exact ⟨(({ v with family:=KY x.step.kind,widths:=Hh l x.step.key },f),none,L++[some (x.step.cf none)]),by rw [wT,vW,if_neg (by simp [h00,hv]),if_neg (by rw [hns];simp)],rfl,rfl⟩
      | true =>
       cases f with
       | true =>
        simp only [go_sem,gB,gN2,sN,sB,sp1,sp2,sp3,sp4,gw,Ar]
        exact ⟨(({ v with family:=KY x.step.kind,widths:=Hh l x.step.key },true),none,L++[some (x.step.cf none)]),by rw [wT,vW,if_neg (by simp [h00,hv]),if_neg sm],rfl,rfl⟩
       | false =>
        simp only [go_sem,gB,gN2,sN,sB,sp1,sp2,sp3,sp4,gw,Av]
        exact ⟨(({ v with family:=KY x.step.kind,widths:=Hh l x.step.key,n:=x.step.n,m:=x.step.m },true),none,L++[some (x.step.cf none)]),by rw [wT,vW,if_neg (by simp [h00,hv]),if_pos ⟨hns,rfl⟩],rfl,rfl⟩
     ·have hvd:decide (x.step.var=nm)=false:=decide_eq_false hv
      simp only [go_sem,g0,g1,EU hx3,el,gB,gN,sN,z0,Ei hx,h0,h1,eo,By,hvd,gw,Av]
      exact ⟨((v,f),w2,L++[some (x.step.cf none)]),by rw [wT,vW,if_pos (.inr hv)],rfl,rfl⟩
   ·rintro ⟨⟨v,f⟩,w2,L⟩ _ hF3
    dsimp only at hF3 ⊢
    have hvo:Ub l p nm=v:=by unfold Ub;rw [hF3];rfl
    simp only [go_sem,AX,decide_false,el,gB,hw]
    have hkl:=(AD.1 hx).1
    exact ⟨DF,DF,(out++[v],_),by rw [hvo];simp,by simp;omega,rfl,rfl⟩
  ·rintro ⟨out,J⟩ hI2 hF2
   dsimp only at hI2 hF2 ⊢
   have he:MR l p=out:=by unfold MR;rw [ho];simpa using hF2
   rw [he]
   simp only [go_sem,AX,decide_false,eo]
theorem ACW{l:List Fld}(hl:Hl l)(key:List ByteArray): ∀ w∈Hh l key,w<9223372036854775807:=by
 intro w hw
 obtain ⟨y,_,rfl⟩:=AO.1 hw
 cases hf:(EO l y).2 with
 | true =>
  have:=HU hl hf
  unfold Fr at this
  omega
 | false =>
  unfold EO at hf ⊢
  split at hf
  ·cases hf
  ·rename_i hn
   rw [if_neg hn]
   split at hf
   ·cases hf
   ·rename_i hz
    exact (by decide:Fld.z.width<9223372036854775807)
theorem ZS{l:List Fld}{nm:ByteArray}: ∀ (r:List Stage) {a:Variable×Bool},a.1.name=nm->(a.1.widths=[] \/ ∃ x:Stage,x.step.kind≠0/\x.step.var=nm/\a.1.widths=Hh l x.step.key) ->
  (wT l nm a r).1.name=nm/\((wT l nm a r).1.widths=a.1.widths/\(∀ x∈r,x.step.kind=0\/x.step.var≠nm) \/ ∃ x∈r,x.step.kind≠0/\x.step.var=nm/\(wT l nm a r).1.widths=Hh l x.step.key)
 | [],a,h1,_=>⟨h1,.inl ⟨rfl,sm⟩⟩
 | x::r,a,h1,h2=>by
  rw [wT]
  by_cases hc:x.step.kind=0\/x.step.var≠nm
  ·have e:vW l nm a x.step=a:=by unfold vW;rw [if_pos hc]
   rw [e]
   obtain ⟨g1,g2⟩:=ZS r h1 h2
   refine ⟨g1, ?_⟩
   rcases g2 with ⟨g2,g3⟩|⟨y,hy,g2⟩
   ·exact .inl ⟨g2,λz hz=>by rcases AZ.1 hz with rfl|hz;exact hc;exact g3 z hz⟩
   ·exact .inr ⟨y,B9 _ hy,g2⟩
  ·have hk:x.step.kind≠0:=λh=>hc (.inl h)
   have hv:x.step.var=nm:=by
    by_cases h:x.step.var=nm
    ·exact h
    ·exact absurd (.inr h) hc
   have e1:(vW l nm a x.step).1.name=nm/\(vW l nm a x.step).1.widths=Hh l x.step.key:=by
    unfold vW
    rw [if_neg hc]
    split<;>exact ⟨h1,rfl⟩
   obtain ⟨g1,g2⟩:=ZS r e1.1 (.inr ⟨x,hk,hv,e1.2⟩)
   refine ⟨g1,.inr ?_⟩
   rcases g2 with ⟨g2,g3⟩|⟨y,hy,g2⟩
   ·exact ⟨x,Cc ..,hk,hv,by rw [g2,e1.2]⟩
   ·exact ⟨y,B9 _ hy,g2⟩
theorem YO(l:List Fld)(p:List Stage)(nm:ByteArray):(Ub l p nm).name=nm/\((Ub l p nm).widths=[]/\(∀ x∈p,x.step.kind=0\/x.step.var≠nm) \/ ∃ x∈p,x.step.kind≠0/\x.step.var=nm/\(Ub l p nm).widths=Hh l x.step.key) :=
 ZS p (a:=(⟨nm,0,[],0,0⟩,false)) rfl (.inl rfl)
theorem ws{l:List Fld}(hl:Hl l){p:List Stage}: ∀ v∈MR l p,∀ w∈v.widths,w<9223372036854775807:=by
 intro v hv w hw
 obtain ⟨nm,_,rfl⟩:=AO.1 hv
 rcases (YO l p nm).2 with ⟨h,_⟩|⟨x,_,_,_,h⟩
 ·rw [h] at hw;cases hw
 ·rw [h] at hw;exact ACW hl _ w hw
theorem VA : ∀ (p:List Stage) (o:List ByteArray),(LV o p).length<4^p.length*(o.length+1)
 | [],o=>by simp [LV]
 | x::p,o=>by
  rw [LV]
  have h1:=VA p (if x.step.kind=0 then o else Ro o x.step.var)
  have h2:(if x.step.kind=0 then o else Ro o x.step.var).length+1<=4*(o.length+1):=by
   split
   ·omega
   ·have:=Pc x.step.var o false
    unfold Ro
    omega
  have h3:4^(x::p).length=4^p.length*4:=by rw [AC,DK]
  rw [h3,Nat.mul_assoc]
  exact BR h1 (Nat.mul_le_mul_left _ h2)
def f0:Hint:={ h45 with pc:=[11,21] }
@[go_sem] theorem AZg(k:Nat):f0.lv k=h45.lv k:=AH rfl rfl
@[go_sem] theorem AZi(k:Nat):f0.ct k=h45.ct k:=AH rfl rfl
@[go_sem] theorem AZj(k:Nat):f0.at k=h45.at k:=AH rfl rfl
@[go_sem] theorem AZh(k:Nat):f0.dn k=h45.dn k:=AH rfl rfl
@[go_sem] theorem Aao:f0.tk=[19,20,22]/\f0.mt=[]/\f0.pc=[11,21]:=⟨rfl,rfl,rfl⟩
theorem AGb:FK AA 45 f45 f0:=⟨kr,kr,func45,kr⟩
def stQ(l:List Fld)(p:List Stage)(st:List Entry):Prop:=PN l p=0/\st.length<=250/\(∀ e∈st,∃ v∈MR l p,v.name=e.var/\oT v e)/\AZJ st
theorem sr(l:List Fld)(hl:wW l)(hl2:Hl l)(p:List Stage)(hb:DT (Es p)<=1048576)(st:List Entry)(hst:st.length<=1073741824)(hk : ∀ e∈st,e.key.length<=1073741824):JJ AA 45 [.sl none (E8 l),.sl none (Es p),.sl none (EM st)] λr => ∃ b,r = .bool b/\(b=true->stQ l p st):=by
 have c1:=AFI l p hl (AK hb dc)
 have el:(EM st).length=st.length:=Gf st
 refine qC AGb rfl ?_
 simp only [f45,go_sem]
 refine pK c1 ?_
 by_cases h0:PN l p=0
 ·have z0:(PN l p !=0)=false:=by simp [h0]
  have hp8:=(rl h0).1
  have hkey : ∀ x∈p,x.step.key.length<=1048576:=λx hx=>by
   have h1:=rl h0
   have:=(eR (h1.2.2.1 x hx).2).klen
   exact this
  have c2:=AAo l p hp8 hkey
  have hvl:(MR l p).length<=1073741824:=by
   have h1:=VA p []
   have h2:4^p.length<=4^8:=Bb dc hp8
   have h3:(MR l p).length=(LV [] p).length:=by unfold MR;rw [List.length_map]
   have h4:(4:Nat)^8=65536:=dc
   rw [AG,AY,Nat.mul_one] at h1
   omega
  have q3:=sw (MR l p) hvl (ws hl2) st hst hk
  simp only [go_sem,z0,el]
  refine cS ?_ ?_<;>intro hc
  ·simp only [go_sem]
   exact ⟨rfl,false,rfl,λh=>by cases h⟩
  ·have hc:=of_decide_eq_false hc
   simp only [go_sem]
   refine pK c2 ?_
   simp only [go_sem]
   refine KB q3 λr hr=>?_
   obtain ⟨n,rfl,hn⟩:=hr
   simp only [go_sem]
   exact ⟨rfl,_,rfl,λh=>⟨h0,DF,hn (by simpa using h)⟩⟩
 ·have z0:(PN l p !=0)=true:=by simp [h0]
  simp only [go_sem,z0]
  exact ⟨rfl,false,rfl,λh=>by cases h⟩
def TC:Hint:={ h16 with pc:=[] }
@[go_sem] theorem ATA(k:Nat):TC.lv k=h16.lv k:=AH rfl rfl
@[go_sem] theorem ATC(k:Nat):TC.ct k=h16.ct k:=AH rfl rfl
@[go_sem] theorem ATD(k:Nat):TC.at k=h16.at k:=AH rfl rfl
@[go_sem] theorem ATB(k:Nat):TC.dn k=h16.dn k:=AH rfl rfl
@[go_sem] theorem AZf:TC.tk=[]/\TC.mt=[]/\TC.pc=[]:=⟨rfl,rfl,rfl⟩
theorem ADJ:FK AA 16 f16 TC:=⟨kr,kr,func16,kr⟩
def AFv(s:Setup)(sts:List (List Entry)):Prop:=sts.length=s.tenants.length /\ ∀ (k:Nat) (t:Tenant) (st:List Entry),s.tenants[k]? =some t->sts[k]? =some st->stQ s.fields t.program st/\st.length<=60
set_option maxHeartbeats 2000000 in
theorem xf(s:Setup)(hl:wW s.fields)(hl2:Hl s.fields)(hb:DT s.c<=1048576)(sts:List (List Entry))(hsl:sts.length<=1073741824)(hst : ∀ st∈sts,st.length<=1073741824 /\ ∀ e∈st,e.key.length<=1073741824):JJ AA 16 [.agg s.c,.sl none (Fp sts)] λr => ∃ b,r = .bool b/\(b=true->AFv s sts):=by
 have el:(Fp sts).length=sts.length:=Lw sts
 refine qC ADJ rfl ?_
 by_cases hn:sts.length=s.tenants.length
 ·have z0:((sts.length:Int) !=(s.tenants.length:Int))=false:=by simp [hn]
  simp only [f16,go_sem,el,z0]
  refine Ed sts (λ(_:Unit) _=>()) (λk _ => ∀ (i:Nat) (t:Tenant) (st:List Entry),i<k->s.tenants[i]? =some t->sts[i]? =some st->stQ s.fields t.program st/\st.length<=60) (λk _=>[(1,.sl none (Fp sts)),(2,.ptr 0 0),(5,.int .i64 k)]) (λ_ _=>[some s.c]) () DF (λi t st hi=>absurd hi (Nat.not_lt_zero i)) rfl rfl ?_ ?_
  ·intro k _ st xs hd hx hI _ h0 h1 hw
   have hkl:=(AD.1 hx).1
   obtain ⟨t,ht⟩ : ∃ t,s.tenants[k]? =some t:=⟨_,AL DF⟩
   have hk2:(k:Int)<(s.tenants.length:Int):=DF
   have hbt:DT t.c<=1048576:=by
    have h1:=Pl (Hq hb) (AB ht)
    simpa only [AV.bulk] using h1
   have hm:=hst st (AB hx)
   have q1:=sr s.fields hl hl2 t.program (GC hbt) st hm.1 hm.2
   simp only [go_sem,h0,h1,el,HE hx,Ef ht,hk2]
   refine KB q1 λr hr=>?_
   obtain ⟨b,rfl,hq⟩:=hr
   cases b with
   | false =>
    simp only [go_sem,Av]
    exact ⟨rfl,false,rfl,λh=>by cases h⟩
   | true =>
    have hq:=hq rfl
    have es:(EM st).length=st.length:=Gf st
    simp only [go_sem,Ar,h0,h1,el,es,HE hx]
    refine cS ?_ ?_<;>intro hc
    ·simp only [go_sem]
     exact ⟨rfl,false,rfl,λh=>by cases h⟩
    ·have hc:=of_decide_eq_false hc
     simp only [go_sem,hw]
     refine ⟨(),λi t2 st2 hi h2 h3=>?_⟩
     rcases Nat.lt_or_ge i k with hik|hik
     ·exact hI i t2 st2 hik h2 h3
     ·have:i=k:=DF
      subst this
      rw [ht] at h2
      rw [hx] at h3
      cases h2;cases h3
      exact ⟨hq,DF⟩
  ·intro _ hI _
   simp only [go_sem,AX,decide_false,el]
   exact ⟨rfl,true,rfl,λ_=>⟨hn,λk t st h1 h2=>hI k t st (AD.1 h2).1 h1 h2⟩⟩
 ·have z0:((sts.length:Int) !=(s.tenants.length:Int))=true:=by
   rw [bne_iff_ne];omega
  simp only [f16,go_sem,el,z0]
  exact ⟨rfl,false,rfl,λh=>by cases h⟩
theorem yZ{s:Setup}(hR:R19 s){sts:List (List Entry)}(h:AFv s sts)(hk : ∀ st∈sts,∀ e∈st,e.key.length<=1048576):okSts s sts:=by
 refine ⟨h.1,λk t st h1 h2=>?_⟩
 obtain ⟨⟨q1,_,q3,_⟩,q4⟩:=h.2 k t st h1 h2
 have hp:=(eU q1).1
 refine ⟨λe he=>?_,q4⟩
 obtain ⟨v,hv,hn,f1,f2,f3,f4⟩:=q3 e he
 refine ⟨⟨f2,f3,hk st (AB h2) e he,f4⟩,λx hx h0 hvar=>?_⟩
 obtain ⟨nm,_,rfl⟩:=AO.1 hv
 obtain ⟨g1,g2⟩:=YO s.fields t.program nm
 have hnm:nm=e.var:=by rw [<- g1];exact hn
 rcases g2 with ⟨_,g2⟩|⟨y,hy,g3,g4,g5⟩
 ·rcases g2 x hx with g|g
  ·exact absurd g h0
  ·exact absurd (by rw [<- hvar,hnm]) g
 ·have hw:(Hh s.fields y.step.key).length=y.step.key.length:=by simp [Hh]
  rw [f1,g5,hw]
  exact hp.key y hy x hx g3 h0 (by rw [g4,hnm,hvar])
def aG(l:List Arrival):List AV:=l.map λx => .agg x.c
@[go_sem] theorem zF(l:List Arrival):(aG l).length=l.length:=by simp [aG]
theorem zG{l:List Arrival}{i:Nat}{x:Arrival}(h:l[i]? =some x):(aG l)[i]? =some (.agg x.c):=by simp [aG,h]
@[go_sem] theorem AR0(l:List Arrival):DY (aG l)=true:=by
 induction l with
 | nil=>rfl
 | cons x xs ih=>simpa [aG,DY,AV.pure] using ⟨Wu x,ih⟩
def hRt:Hint:={ h4 with pc:=[10,25] }
@[go_sem] theorem Aag(k:Nat):hRt.lv k=h4.lv k:=AH rfl rfl
@[go_sem] theorem Aai(k:Nat):hRt.ct k=h4.ct k:=AH rfl rfl
@[go_sem] theorem Aaj(k:Nat):hRt.at k=h4.at k:=AH rfl rfl
@[go_sem] theorem Aah(k:Nat):hRt.dn k=h4.dn k:=AH rfl rfl
@[go_sem] theorem AbQ:hRt.tk=[14,18]/\hRt.mt=[]/\hRt.pc=[10,25]:=⟨rfl,rfl,rfl⟩
theorem ATE:FK AA 4 f4 hRt:=⟨kr,kr,func4,kr⟩
def AFz(s:Setup)(sts:List (List Entry))(l:List Arrival):Prop:=Iq s=true/\AFv s sts /\ ∀ a∈l,Xj a=true
set_option maxHeartbeats 2000000 in
theorem ACg(s:Setup)(hb:DT s.c<=1048576)(sts:List (List Entry))(hsl:sts.length<=1073741824)(hst : ∀ st∈sts,st.length<=1073741824 /\ ∀ e∈st,e.key.length<=1073741824)(l:List Arrival)(hl:l.length<=1073741824):JJ AA 4 [.agg s.c,.sl none (Fp sts),.sl none (aG l)] λr => ∃ b,r = .bool b/\(b=true->AFz s sts l):=by
 have el:(aG l).length=l.length:=zF l
 have c1:=vF s hb
 refine qC ATE rfl ?_
 simp only [f4,go_sem]
 refine pK c1 ?_
 cases h1:Iq s with
 | false =>
  simp only [go_sem,h1,Av]
  exact ⟨rfl,false,rfl,λh=>by cases h⟩
 | true =>
  have hR:=YX h1
  have q1:=xf s (λf hf=>Int.le_trans (ZC hR.fld0 f hf) dc) hR.fld hb sts hsl hst
  simp only [go_sem,h1,Ar]
  refine KB q1 λr hr=>?_
  obtain ⟨b,rfl,hq⟩:=hr
  cases b with
  | false =>
   simp only [go_sem,Av]
   exact ⟨rfl,false,rfl,λh=>by cases h⟩
  | true =>
   have hq:=hq rfl
   simp only [go_sem,Ar,el]
   refine Ed l (λ(_:DM) _=>()) (λk _ => ∀ a∈l.take k,Xj a=true) (λk _=>[(18,.sl none (aG l)),(19,.int .i64 l.length),(20,.int .i64 k)]) (λ_ L=>some s.c::L) [] DF sm rfl rfl ?_ ?_
   ·intro k L x xs hd hx hI _ h0 h1 hw
    have gN : ∀ a (L:DM) z,(a::(L++[z]))[List.length (a::L)]? =some z:=λa L z=>by
     have:a::(L++[z])=(a::L)++[z]:=sm
     rw [this];exact Bj
    have sN : ∀ a (L:DM) z z2,(a::(L++[z])).set (List.length (a::L)) z2=a::(L++[z2]):=λa L z z2=>by
     have:a::(L++[z])=(a::L)++[z]:=sm
     rw [this];simp
    have c2:=vM x
    have htk:l.take (k+1)=l.take k++[x]:=by rw [BF,hx];rfl
    simp only [go_sem,h0,h1,zG hx,gN,sN]
    refine pK c2 ?_
    cases ha:Xj x with
    | false =>
     simp only [go_sem,Av]
     exact ⟨rfl,false,rfl,λh=>by cases h⟩
    | true =>
     simp only [go_sem,Ar,hw]
     refine ⟨_,λy hy=>?_,rfl,rfl⟩
     rw [htk] at hy
     rcases Ay.1 hy with hy|hy
     ·exact hI y hy
     ·rcases Al.1 hy with rfl;exact ha
   ·intro L hI _
    simp only [go_sem,AX,decide_false]
    rw [BO] at hI
    exact ⟨rfl,true,rfl,λ_=>⟨h1,hq,hI⟩⟩
theorem iJ{h:Head}: ∀ {l:List Tenant} {k:Nat},(∀ t∈l,(Om t h).2=false)->N1 h k l=[]
 | [],_,_=>rfl
 | t::l,k,hf=>by
  rw [N1,if_neg (by rw [hf t (Cc ..)];decide)]
  exact iJ λu hu=>hf u (B9 _ hu)
theorem rZ{h:Head}: ∀ {l:List Tenant} {k j:Nat} {t:Tenant},l[j]? =some t->(Om t h).2=true->(∀ i u,l[i]? =some u->(Om u h).2=true->i=j)->N1 h k l=[⟨((k+j:Nat):Int),(Om t h).1,[]⟩]
 | [],_,j,_,hj,_,_=>by simp at hj
 | u::l,k,0,t,hj,he,hu=>by
  have:u=t:=by simpa using hj
  subst this
  rw [N1,if_pos he,iJ λv hv=>?_]
  ·rfl
  ·obtain ⟨i,hi⟩:=Af hv
   cases e:(Om v h).2 with
   | false=>rfl
   | true=>exact absurd (hu (i+1) v (by simpa using hi) e) DF
 | u::l,k,j+1,t,hj,he,hu=>by
  have e0:(Om u h).2=false:=by
   cases e:(Om u h).2 with
   | false=>rfl
   | true=>exact absurd (hu 0 u rfl e) DF
  rw [N1,if_neg (by rw [e0];decide),rZ (k:=k+1) (j:=j) (by simpa using hj) he λi v hi e=>by have:=hu (i+1) v (by simpa using hi) e;omega]
  rw [show k+1+j=k+(j+1) by omega]
theorem iI{s:Setup}(hR:R19 s){h:Head}{a:Nat}{t:Tenant}(ha:s.tenants[a]? =some t)(he:(Om t h).2=true):N1 h 0 s.tenants=[⟨(a:Int),(Om t h).1,[]⟩]:=by
 have:=rZ (k:=0) ha he λi u hi e=>tI hR hi ha (V0.1 e) (V0.1 he)
 rwa [AY] at this
def J8(x:Int)(t:Tenant):List Head->List Delivery
 | []=>[]
 | p::r=>if (uo t p).2=true then ⟨x,(uo t p).1,[]⟩::J8 x t r else J8 x t r
theorem xC{s:Setup}(hc:s.contracts=[])(t:Tenant)(p:Head)(tick:Int):W5 s t p tick = -1:=by unfold W5;rw [hc];rfl
theorem Ru{s:Setup}(hc:s.contracts=[]){x:Item}(hx:x.chain=[])(t:Tenant)(tick:Int): ∀ (r:List Head) (q:List Item) (out:List Delivery),dg s x t tick (q,out) r=(q,out++J8 x.tenant t r)
 | [],q,out=>by rw [dg,J8,Ah]
 | p::r,q,out=>by
  rw [dg,J8]
  cases he:(uo t p).2 with
  | false =>
   have:wU s x t tick (q,out) p=(q,out):=by unfold wU;rw [if_pos he]
   rw [this,if_neg dc];exact Ru hc hx t tick r q out
  | true =>
   have:wU s x t tick (q,out) p=(q,out++[⟨x.tenant,(uo t p).1,[]⟩]):=by
    unfold wU;rw [if_neg (by rw [he];decide),xC hc,if_pos dc,hx]
   rw [this,if_pos rfl,Ru hc hx t tick r,AF];rfl
theorem pV{s:Setup}(hc:s.contracts=[])(hR:R19 s){sts:List (List Entry)}{h:Head}{tick:Int}{a:Nat}{t:Tenant}{st:List Entry}(ha:s.tenants[a]? =some t)(he:(Om t h).2=true)(hs:sts[a]? =some st):
  Tt s sts h tick=(TS s.fields (FC t).1 st (Om t h).1 tick).map λb=>(J8 (a:Int) t b.1,sts.set a b.2):=by
 unfold Tt
 rw [iI hR ha he,cGo]
 dsimp only [List.getElem?_cons_zero]
 rw [Int.toNat_natCast,ha,hs]
 dsimp only
 cases er:TS s.fields (FC t).1 st (Om t h).1 tick with
 | none=>rfl
 | some b =>
  dsimp only [Option.map]
  rw [Ru hc rfl,if_neg sm,cGo]
  rfl
def rF(s:Setup)(sts:List (List Entry))(N:Nat):Prop:=sts.length=s.tenants.length /\ ∀ (k:Nat) (t:Tenant) (st:List Entry),s.tenants[k]? =some t->sts[k]? =some st->QW (FC t).1 st/\st.length<=N
theorem rF.mono{s:Setup}{sts:List (List Entry)}{N M:Nat}(h:rF s sts N)(hm:N<=M):rF s sts M:=⟨h.1,λk t st h1 h2=>⟨(h.2 k t st h1 h2).1,AK (h.2 k t st h1 h2).2 hm⟩⟩
theorem okSts.n{s:Setup}(hR:R19 s){sts:List (List Entry)}(hs:okSts s sts):rF s sts 60 :=
 ⟨hs.len,λk t st h1 h2=>by
  obtain ⟨g1,g2⟩:=hs.st k t st h1 h2
  refine ⟨λe he=>⟨(g1 e he).1,λx hx=>?_⟩,g2⟩
  have hmap:=(Lm hR h1).2.2.1
  have:x.step∈t.program.map (·.step):=by rw [<- hmap];exact AO.2 ⟨x,hx,rfl⟩
  obtain ⟨y,hy,hxy⟩:=AO.1 this
  rw [<- hxy]
  exact (g1 e he).2 y hy⟩
theorem vK(l:List Delivery)(hl:l.length<=1073741824)(hk : ∀ d∈l,d.chain.length<=1073741824):DR AA 13 [.sl none (FE l),.sl none (FE l)] (.bool true):=by
 have el:(FE l).length=l.length:=XQ l
 have n0:((l.length:Int) !=(l.length:Int))=false:=sm
 refine pC AWA rfl ?_
 simp only [f13,go_sem,el,n0]
 refine Ed l (λ(_:Unit) _=>()) (λ_ _=>True) (λk _=>[(0,.sl none (FE l)),(1,.sl none (FE l)),(5,.int .i64 k)]) (λ_ _=>[]) () DF trivial rfl rfl ?_ ?_
 ·intro k _ x xs hd hx _ _ h0 h1 hw
  have c1:=pU x.chain x.chain true sm (hk x (AB hx))
  have v1:(x.tenant !=x.tenant)=false:=sm
  have v2:(x.head !=x.head)=false:=sm
  simp only [go_sem,h0,h1,PH hx,el]
  refine pK c1 ?_
  simp only [go_sem,h0,h1,PH hx,el,v1,v2,hw,Ar]
  exact ⟨(),trivial⟩
 ·intro _ _ _
  simp only [go_sem,AX,decide_false,el]
theorem ADB{a:AV}(h:Rd AA 32 a): ∃ l,a = .sl none (Fp l)/\True:=by
 obtain ⟨l,h1,_,_⟩:=HA (f:=λ(x:List Entry)=>AV.sl none (EM x)) (ok:=λx=>R9 x) (P:=AA) (t:=32) (e:=58) kr (λx hx=>S8 hx) h
 exact ⟨l,h1,trivial⟩
theorem ADC{l:List (List Entry)}{B:Nat}(h:DT (Fp l)<=B):l.length<=B /\ ∀ st∈l,st.length<=B /\ ∀ e∈st,e.key.length<=B:=by
 refine ⟨AK (Fy (f:=λ(x:List Entry)=>AV.sl none (EM x)) (λx=>by simp [AV.bulk]) l) h,λst hst=>?_⟩
 have h1:DT (EM st)<=B:=Fd (o:=none) (AO.2 ⟨st,hst,rfl⟩) h
 refine ⟨uI h1,λe he=>?_⟩
 have h2:=uJ h1 he
 have h3:DT e.c<=B:=by simpa only [AV.bulk] using h2
 exact ADE (cI h3)
theorem Y6(x:Int)(t:Tenant): ∀ l:List Head,(J8 x t l).length<=l.length
 | []=>AU _
 | p::r=>by
  rw [J8]
  have:=Y6 x t r
  split<;>simp<;>omega
theorem Nz(x:Int)(t:Tenant): ∀ (l:List Head),∀ d∈J8 x t l,d.chain=[]
 | [],d,h=>by cases h
 | p::r,d,h=>by
  rw [J8] at h
  split at h
  ·rcases AZ.1 h with rfl|h
   ·rfl
   ·exact Nz x t r d h
  ·exact Nz x t r d h
def gC:Hint:={ h3 with pc:=[31,39,46,49,62,72,81,95,110,123,138,151,174,190,195] }
@[go_sem] theorem AZk(k:Nat):gC.lv k=h3.lv k:=AH rfl rfl
@[go_sem] theorem AZm(k:Nat):gC.ct k=h3.ct k:=AH rfl rfl
@[go_sem] theorem AZn(k:Nat):gC.at k=h3.at k:=AH rfl rfl
@[go_sem] theorem AZl(k:Nat):gC.dn k=h3.dn k:=AH rfl rfl
@[go_sem] theorem Aap:gC.tk=[55,60,61,87,116,121,122,125,142,149,150]/\gC.mt=[]/\gC.pc=[31,39,46,49,62,72,81,95,110,123,138,151,174,190,195]:=⟨rfl,rfl,rfl⟩
theorem AGc:FK AA 3 f3 gC:=⟨kr,kr,func3,kr⟩
set_option maxHeartbeats 4000000 in
theorem ADu(hsan:DR AA 5 [] (.bool true))(s0:Setup)(sts:List (List Entry))(a:Arrival)(hb0:DT s0.c<=1048576)(hsb:DT (Fp sts)<=1048576):DR AA 3 [.agg s0.c,.sl none (Fp sts),.agg a.c] (.bool true):=by
 obtain ⟨hsl,hst⟩:=ADC hsb
 have hP : ∀ p,splice s0.c 5 [.sl p []]=({ s0 with contracts:=[] }:Setup).cf none none none none none p:=λp=>rfl
 have hb:DT ({ s0 with contracts:=[] }:Setup).c<=1048576:=by
  refine AK ?_ hb0
  simp only [Setup.c,Setup.cf,DT,AV.bulk]
  have e0:DT (FI [])=0:=rfl
  omega
 have hc:({ s0 with contracts:=[] }:Setup).contracts=[]:=rfl
 generalize ({ s0 with contracts:=[] }:Setup)=s at hP hb hc
 have q1:=ACg s hb sts DF (λst hm=>⟨by have:=(hst st hm).1;omega,λe he=>by have:=(hst st hm).2 e he;omega⟩) [a] sm
 refine pC AGc rfl ?_
 simp only [f3,go_sem,hP]
 refine KB (JJ.lend q1) λr hr=>?_
 obtain ⟨b,rfl,hq⟩:=hr
 cases b with
 | false =>
  simp only [go_sem,Av]
  refine pK hsan ?_
  simp only [go_sem]
 | true =>
  obtain ⟨h1,h2,h3⟩:=hq rfl
  have hR:=YX h1
  have hf:HI s=true:=by unfold Iq at h1;rw [AR] at h1;exact h1.1
  have ha:=h3 a (Al.2 rfl)
  unfold Xj at ha
  simp only [AR,decide_eq_true_eq] at ha
  have hSt:=yZ hR h2 λst h=>(hst st h).2
  have hRun:=ya hR hf hb hSt ha.1 ⟨ha.2.2.1,ha.2.2.2⟩
  have c2:=AGA s sts a.head a.tick ha.1 hRun
  have hnt:s.tenants.length<=256:=hRun.ten
  have c3:=vI s DF hRun.prt a.head
  have hst' : ∀ st∈sts,st.length<=1073741824 /\ ∀ e∈st,e.key.length<=1073741824:=λst h=>⟨by have:=(hst st h).1;omega,λe he=>by have:=(hst st h).2 e he;omega⟩
  have c4:=vJ sts DF hst'
  simp only [go_sem,Ar]
  refine pK c2 ?_
  have b2:((2:Int) !=0)=true:=rfl
  have b0:((0:Int) !=0)=false:=rfl
  have z00:((0:Int)==0)=true:=rfl
  have z20:((2:Int)==0)=false:=rfl
  have z22:((2:Int)==2)=true:=rfl
  have zl:(((0:Nat):Int)==0)=true:=rfl
  rcases iG (h:=a.head) (l:=s.tenants) (k:=0) with ⟨w1,w2,_⟩|⟨fr,t,w1,w2,w3⟩
  ·rw [vN w2]
   simp only [go_sem,YZ]
   refine pK c3 ?_
   rw [w1]
   have z1:(-1:Int)<0:=dc
   have ed:(FE []).length=0:=rfl
   simp only [go_sem,z1,decide_true]
   refine pK hsan ?_
   simp only [go_sem,z00,ed,zl]
   refine pK c4 ?_
   simp only [go_sem]
  ·rw [AY] at w2
   have hfr:fr<s.tenants.length:=(AD.1 w1).1
   obtain ⟨st,hs⟩ : ∃ st,sts[fr]? =some st:=⟨_,AL (by have:=h2.1;omega)⟩
   have htm:=AB w1
   have hal:=pV hc hR (h:=a.head) (tick:=a.tick) w1 w3 hs
   have c5:=au t (hRun.prt t htm) a.head
   have eT:Je (GY t (i64 (a.head.h0 - 10000))) a.head=Om t a.head:=rfl
   rw [eT,w3] at c5
   have c6:=hRun.whole t htm
   rw [(hR.ckE w1).2.1] at c6
   have hown:=hRun.ent t htm w3
   obtain ⟨p1,p2⟩:=hRun.prg fr t w1
   obtain ⟨s1,s2⟩:=hRun.st fr t st w1 hs
   have hfl:s.fields.length<=1073741824:=by have:=aA (KL hb);omega
   have hlenb:st.length+(FC t).1.length*256<=1073741823:=DF
   have c7:=AEr s.fields hRun.fld hfl (FC t).1 p1 st hlenb s1 (Om t a.head).1 hown a.tick hRun.tick
   have m0 : ¬ ((fr:Nat):Int)<0:=DF
   have m1:(0:Int)<=((fr:Nat):Int):=DF
   have m2:((fr:Nat):Int)<(s.tenants.length:Int):=DF
   have m3:((fr:Nat):Int)<(sts.length:Int):=by have:=h2.1;omega
   cases er:TS s.fields (FC t).1 st (Om t a.head).1 a.tick with
   | none =>
    rw [er] at hal c7
    rw [hal]
    have ed:(FE []).length=0:=rfl
    simp only [go_sem,YZ,Option.map]
    refine pK c3 ?_
    rw [w2]
    simp only [go_sem,m0,m1,m2,decide_false,Ef w1]
    refine pK c5 ?_
    simp only [go_sem,m1,m2,Ef w1]
    refine pK c6 ?_
    simp only [go_sem,m1,m3,HE hs]
    refine pK c7 ?_
    simp only [go_sem,lR,b0,b2,z20,z22,beq_self_eq_true,Ar]
    refine pK hsan ?_
    simp only [go_sem,z22,ed,zl]
    refine pK c4 ?_
    simp only [go_sem]
   | some b =>
    rw [er] at hal c7
    rw [hal]
    obtain ⟨r1,r2,r3,r4⟩:=dN hRun.fld hfl p1 hRun.tick s1 hlenb hown er
    simp only [go_sem,YZ,Option.map]
    refine pK c3 ?_
    rw [w2]
    simp only [go_sem,m0,m1,m2,decide_false,Ef w1]
    refine pK c5 ?_
    simp only [go_sem,m1,m2,Ef w1]
    refine pK c6 ?_
    simp only [go_sem,m1,m3,HE hs]
    refine pK c7 ?_
    simp only [go_sem,lR,b0,z00,beq_self_eq_true,Ar]
    refine Ed b.1 (λ(w:List Delivery×DM) (r:List Head)=>w.1++J8 (fr:Int) t r) (λj w=>w.1.length<=j/\w.2[0]? =some (some (s.cf none none none none none (some 12)))) (λj w=>[(1,.sl none (Fp sts)),(3,.ptr 0 0),(7,.sl none (FE (J8 (fr:Int) t b.1))),(8,.sl none (Fp (sts.set fr b.2))),(10,.int .i64 fr),(16,.sl none (EM b.2)),(18,.sl (some 12) (FE w.1)),(125,.sl none (En b.1)),(126,.int .i64 b.1.length),(127,.int .i64 j)])
     (λ_ w=>w.2) ([],_) DF ⟨AU _,rfl⟩ rfl rfl ?_ ?_
    ·rintro j ⟨w,Z⟩ p ps hd hx ⟨i1,i2⟩ hF g0 g1 gw
     dsimp only at i1 i2 hF ⊢
     have hjl:=(AD.1 hx).1
     have d1:=AAs t p
     have eX:PM (Hz t p.h0) p=uo t p:=rfl
     rw [eX] at d1
     have l0:=(AD.1 i2).1
     have gZ:=Dg i2
     have gz : ∀ y L,(Z++y::L)[Z.length]? =some y:=λy L=>sm
     have gz1 : ∀ y z L,(Z++y::z::L)[Z.length+1]? =some z:=λy z L=>sm
     have sz : ∀ y z,(Z++[y]).set Z.length z=Z++[z]:=λy z=>sm
     have sz1 : ∀ y z w,(Z++[y,z]).set (Z.length+1) w=Z++[y,w]:=λy z w=>sm
     simp only [go_sem,g0,g1,F0 hx,i2,gZ,gz,gz1,sz,sz1,m1,m2,Ef w1,AE,AC,AG,AY,Nat.reduceAdd]
     refine pK d1 ?_
     cases he:(uo t p).2 with
     | false =>
      simp only [go_sem,he,gz,gz1,sz,sz1,gw,AE,AC,AG,AY,Nat.reduceAdd]
      exact ⟨(w,_),by rw [J8,he,if_neg dc],⟨by dsimp only;omega,gZ _⟩,rfl,rfl⟩
     | true =>
      simp only [go_sem,he,gz,gz1,sz,sz1,gw,AE,AC,AG,AY,Nat.reduceAdd]
      exact ⟨DF,DF,(w++[⟨(fr:Int),(uo t p).1,[]⟩],_),by rw [J8,he,if_pos rfl,AF];rfl,⟨by rw [AE,Bs];omega,gZ _⟩,rfl,rfl⟩
    ·rintro ⟨w,Z⟩ ⟨i1,i2⟩ hF
     dsimp only at i1 i2 hF ⊢
     rw [J8,Ah] at hF
     have hF:w=J8 (fr:Int) t b.1:=hF.symm
     have hel:=Y6 (fr:Int) t b.1
     have c8:=vK (J8 (fr:Int) t b.1) DF λd hd=>by rw [Nz _ _ _ d hd];simp
     subst hF
     have nl:((((sts.set fr b.2).length:Nat):Int) !=((sts.length:Nat):Int))=false:=sm
     have es:(Fp (sts.set fr b.2)).length=(sts.set fr b.2).length:=Lw _
     have es2:(Fp sts).length=sts.length:=Lw _
     simp only [go_sem,AX,decide_false]
     refine pK (DR.weak c8) ?_
     simp only [go_sem,Ar,nl,es,es2]
     refine Ed sts (λ(_:Unit) _=>()) (λ_ _=>True) (λk _=>[(1,.sl none (Fp sts)),(8,.sl none (Fp (sts.set fr b.2))),(10,.int .i64 fr),(16,.sl none (EM b.2)),(161,.int .i64 sts.length),(162,.int .i64 k)]) (λ_ _=>Z) () DF trivial rfl rfl ?_ ?_
     ·intro k _ st2 ss hd hx _ _ g0 g1 gw
      have hkl:=(AD.1 hx).1
      have hk0:(0:Int)<=(k:Int):=DF
      have hk1:(k:Int)<(sts.length:Int):=DF
      have hk2:(k:Int)<((sts.set fr b.2).length:Int):=by rw [List.length_set];omega
      by_cases hkf:k=fr
      ·subst hkf
       have hx2:(sts.set k b.2)[k]? =some b.2:=List.getElem?_set_self hkl
       have zk:(((k:Nat):Int)==((k:Nat):Int))=true:=sm
       have c9:=q9 b.2 DF λe he=>by have:=(r3 e he).1.2.2.1;omega
       simp only [go_sem,g0,g1,zk,hk0,hk1,hk2,HE hx,HE hx2]
       refine pK c9 ?_
       simp only [go_sem,zk,gw,Ar,bne_self_eq_false]
       exact ⟨(),trivial⟩
      ·have hx2:(sts.set fr b.2)[k]? =some st2:=by rw [List.getElem?_set_ne (Ne.symm hkf)];exact hx
       have zk:(((k:Nat):Int)==((fr:Nat):Int))=false:=by rw [beq_eq_false_iff_ne];omega
       have zk2:(((k:Nat):Int) !=((fr:Nat):Int))=true:=by rw [bne_iff_ne];omega
       have hm:=hst' st2 (AB hx)
       have c9:=q9 st2 hm.1 hm.2
       simp only [go_sem,g0,g1,zk,zk2,hk0,hk1,hk2,HE hx,HE hx2]
       refine pK c9 ?_
       simp only [go_sem,gw,Ar]
       exact ⟨(),trivial⟩
     ·intro _ _ _
      simp only [go_sem,AX,decide_false]
      refine pK hsan ?_
      simp only [go_sem]
end Go.AI
