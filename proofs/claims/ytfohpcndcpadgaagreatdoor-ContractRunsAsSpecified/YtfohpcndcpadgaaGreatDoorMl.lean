/- One owner for an edge;the tenant at whose edge a head enters;the owner of what is delivered. -/
import Derived.Test.YtfohpcndcpadgaaGreatDoorMk
set_option linter.unusedSimpArgs false
set_option linter.unusedVariables false
set_option linter.defProp false
set_option maxHeartbeats 4000000
open Go.Proofs.Tryz
open Go.AI renaming Setup->FR,Tenant->FT,Head->FU,Item->FV,Stage->FW,Entry->FX,Delivery->FY,Arrival->FZ,Variable->Fa
open Bool renaming and_eq_true->AQ,false_or->BC,not_false->Ay,not_true->Ax
open Eq renaming trans->AH
open Int renaming lt_irrefl->AR
open List renaming all_eq_true->Ao,any_eq_true->CR,append_assoc->AF,drop_append->Ed,drop_left->Cv,drop_of_length_le->C4,drop_zero->BE,filter_append->Ch,find?_eq_none->D7,flatMap_append->C9,flatMap_cons->BA,getElem?_concat_length->BT,getElem?_drop->A4,getElem?_eq_getElem->AL,getElem?_eq_some_iff->AD,getElem?_of_mem->Ab,getElem?_take->Ak,length_append->AE,length_cons->AC,length_map->Ap,length_nil->AG,length_singleton->BQ,length_take->BB,map_append->Aq,mem_append->Ar,mem_cons->AY,mem_cons_of_mem->BX,mem_cons_self->Bh,mem_map->AN,mem_of_getElem?->AB,mem_singleton->Ag,not_lt->Ec,pairwise_append->D6,pairwise_cons->BM,replicate->As,take_add_one->BF,take_append->C_,take_left->DI,take_length->BL,take_of_length_le->Be
open Nat renaming le_add_right->Eb,le_refl->AS,le_succ->C5,le_trans->AJ,lt_of_lt_of_le->BV,lt_trichotomy->Ea,pow_le_pow_right->BO,pow_succ->DV,sub_self->AP,zero_add->AX,zero_le->BS
open Go.Proofs.Tryz renaming prog->AA
namespace Go.AI
open Go.Proofs
def lX{s:FR}{t:FT}(o:Jz s t=0): ∀x∈t.ports,-1<=x.edge/\x.edge<(s.network.edges.length:Int):=by
 have j:JQ s t=0:=by
  unfold Jz at o;split at o
  ·cases o
  ·split at o
   ·rename_i g;exact absurd o g
   ·rename_i g;simpa using g
 have h3:I4 (Q9 s.network.edges.length) RQ t.ports=true:=by
  unfold JQ at j;split at j
  ·cases j
  split at j
  ·cases j
  split at j
  ·cases j
  ·rename_i g;simpa using g
 have h4:∀(r:List Port) (i:Nat),JE (Q9 s.network.edges.length) RQ t.ports i r=true -> ∀x∈r,-1<=x.edge/\x.edge<(s.network.edges.length:Int):=by
  intro r;induction r with
  |nil=>intro i _ x hx;cases hx
  |cons y r C =>
   intro i p x hx;simp only[JE,AQ]at p;rcases AY.1 hx with rfl|hx
   ·have:=p.1.1;simp only[Q9,AQ,decide_eq_true_eq]at this;exact this
   ·exact C _ p.2 x hx
 exact h4 t.ports 0 h3
def R19.ckE{s:FR}(h:R19 s){k:Nat}{t:FT}(j:s.tenants[k]? =some t):Jz s t=0/\(Gc t).2=0/\KF s k t=false:=by
 have g:=h.ten k t j;unfold Rn at g;split at g
 ·rename_i i;exact absurd g i
 rename_i o;split at g
 ·rename_i i;exact absurd g i
 rename_i h3;split at g
 ·cases g
 split at g
 ·cases g
 rename_i h5;exact⟨by simpa using o,by simpa using h3,by simpa using h5⟩
def Ww{e:Int}(j:0<=e): ∀{l:List Port} {i:Nat} {x:Port},x∈l->x.edge=e->0<=IE e i l
 | y::l,i,x,hx,g=>by
  rw[IE];split
  ·omega
  ·rename_i o;rcases AY.1 hx with rfl|hx
   ·exact absurd ⟨j,g⟩ o
   ·exact Ww j hx g
def MP{e:Int}: ∀{l:List Port} {i:Nat},0<=JD e i l -> ∃(j:Nat) (x:Port),l[j]? =some x/\x.edge ≠ -1/\x.edge=e/\JD e i l=((i+j:Nat):Int)
 |[],i,h=>by rw[JD]at h;exact absurd h dc
 | y::l,i,h=>by
  rw[JD]at h ⊢;by_cases g:y.edge ≠ -1/\y.edge=e
  ·rw[iP g];exact⟨0,y,rfl,g.1,g.2,rfl⟩
  ·rw[iN g]at h ⊢;obtain⟨j,x,o,p,h3,h4⟩:=MP h;exact⟨j+1,x,o,p,h3,by rw[h4];congr 1;omega⟩
def aj{s:FR}(T:R19 s){i j:Nat}{t u:FT}(o:s.tenants[i]? =some t)(p:s.tenants[j]? =some u){e:Int}(r:0<=Hn t e)(C:0<=Hn u e):i=j:=by
 have g:∀{i j:Nat} {t u:FT},s.tenants[i]? =some t->s.tenants[j]? =some u->0<=Hn t e->0<=Hn u e->i<j->False:=by
  intro i j t u o p r C I;obtain⟨a,x,U,x2,V,_⟩:=MP r;obtain⟨b,y,O,y2,y3,_⟩:=MP C;obtain⟨k1,_,P⟩:=T.ckE p;have hy:=lX k1 y (AB O);have R:0<=e:=Fj;have hc:KF s j u=true:=by
   unfold KF;refine CR.2 ⟨y,AB O,CR.2 ⟨t, ?_, ?_⟩⟩
   ·exact AB (i:=i) (by rw[Ak,iP I];exact o)
   ·have J:0<=IH t e:=Ww R (AB U) V;rw[y3,decide_eq_true R,decide_eq_true J];rfl
  rw[hc]at P;cases P
 rcases Ea i j with h|h|h
 ·exact(g o p r C h).elim
 ·exact h
 ·exact(g p o C r h).elim
def tW(h:FU):Int:=i64 (h.h0 - 10000)
def Mz{t:FT}{h:FU}:(PR t h).2=true↔0<=Hn t (tW h):=by
 unfold PR I' tW;split<;>simp<;>omega
def Xt{h:FU}: ∀{l:List FT} {k:Nat} {x:FV},x∈L_ h k l -> ∃(j:Nat) (t:FT),l[j]? =some t/\x.tenant=((k+j:Nat):Int)/\x.chain=[]/\(PR t h).2=true/\x.head=(PR t h).1
 |[],k,x,hx=>by rw[L_]at hx;cases hx
 | t::l,k,x,hx=>by
  rw[L_]at hx;have g:x∈L_ h (k+1) l -> ∃(j:Nat) (u:FT),(t::l)[j]? =some u/\x.tenant=((k+j:Nat):Int)/\x.chain=[]/\(PR u h).2=true/\x.head=(PR u h).1:=λhx=>by
   obtain⟨j,u,i,o,h3,h4,h5⟩:=Xt hx;exact⟨j+1,u,i,by rw[o];congr 1;omega,h3,h4,h5⟩
  split at hx
  ·rename_i p;rcases AY.1 hx with rfl|hx
   ·exact⟨0,t,rfl,rfl,rfl,p,rfl⟩
   ·exact g hx
  ·exact g hx
def AIU(h:FU):Nat->List FT->Int
 |_,[] => -1
 |k,t::r=>if(PR t h).2=true then(k:Int)else AIU h (k+1) r
def lJ{h:FU}: ∀ {l:List FT} {k:Nat},(AIU h k l = -1/\L_ h k l=[] /\ ∀ t∈l,(PR t h).2=false) \/ ∃ (j:Nat) (t:FT),l[j]? =some t/\AIU h k l=((k+j:Nat):Int)/\(PR t h).2=true
 |[],k => .inl ⟨rfl,rfl,F3⟩
 | t::l,k=>by
  rw[AIU,L_];cases p:(PR t h).2 with
  |true=>rw[iP rfl];exact .inr ⟨0,t,rfl,rfl,p⟩
  | false =>
   rw[iN dc,iN dc];rcases lJ (h:=h) (l:=l) (k:=k+1)with⟨g,i,h3⟩|⟨j,u,g,i,h3⟩
   ·refine .inl ⟨g,i,λu o=>?_⟩;rcases AY.1 o with rfl|o
    ·exact p
    ·exact h3 u o
   ·exact .inr ⟨j+1,u,g,by rw[i];congr 1;omega,h3⟩
def AE6{s:FR}(o:R19 s){h:FU}{a:Nat}{t:FT}(p:s.tenants[a]? =some t)(r:(PR t h).2=true):itP s a (L_ h 0 s.tenants):=by
 intro x hx;obtain⟨j,u,g,i,h3,h4,_⟩:=Xt hx;rw[AX]at i;have:j=a:=aj o g p (Mz.1 h4) (Mz.1 r);subst this;have C:=(AD.1 g).1;refine⟨Fj,Fj, ?_⟩;rw[i,h3,Int.toNat_natCast];rfl
def ak(e:Int): ∀ (l:List FT) (i:Nat),(Pn e i l=(-1,-1) /\ ∀ t∈l,¬ 0<=Hn t e) \/ ∃ j t,l[j]? =some t/\(Pn e i l).1=((i+j:Nat):Int)/\0<=Hn t e
 |[],_ => .inl ⟨rfl,F3⟩
 | t::r,i=>by
  rw[Pn];by_cases h:0<=Hn t e
  ·rw[iP h];exact .inr ⟨0,t,rfl,rfl,h⟩
  ·rw[iN h];rcases ak e r (i+1)with⟨g,h3⟩|⟨j,u,p,g,h3⟩
   ·refine .inl ⟨g,λu o=>?_⟩;rcases AY.1 o with rfl|o
    ·exact h
    ·exact h3 u o
   ·exact .inr ⟨j+1,u,p,by rw[g];congr 1;omega,h3⟩
def AAb{s:FR}{t:FT}(o:Jz s t=0):bq t/\RZ s.fields t.program=0/\t.ports.length<=64:=by
 unfold Jz at o;split at o
 ·cases o
 ·rename_i r;split at o
  ·rename_i i;exact absurd o i
  ·rename_i g;split at o
   ·rename_i i;exact absurd o i
   ·rename_i j;have g:JQ s t=0:=by simpa using g
    have j:NX s t=0:=by simpa using j
    refine⟨?_, ?_,Fj⟩
    ·intro w C;have p:I4 (Sl t) Sk t.wires=true:=by
      unfold JQ at g;split at g
      ·cases g
      split at g
      ·cases g
      split at g
      ·cases g
      split at g
      ·cases g
      ·rename_i i;simpa using i
     obtain⟨k,I⟩:=Ab C;have:=(pN p k w I).1;unfold Sl Kv H7 at this;simp only[AQ,decide_eq_true_eq]at this;omega
    ·unfold NX at j;split at j
     ·rename_i i;exact absurd j i
     ·rename_i i;simpa using i
def AEp{x:Stp}(h:bH x=true):(x.kind=0/\x.key.length=0)\/((1<=x.kind/\x.kind<=6)/\x.key.length<=4/\(x.kind=4->0<=x.n/\x.n<=x.m/\x.m<=65535)/\(x.kind=5->WO x.field=true)/\(x.kind=6->(1<=x.n/\x.n<=65535)/\1<=x.m/\x.m<=1073741824)):=by
 unfold bH at h;split at h
 ·rename_i i;left;unfold gW at i;simp only[AQ,beq_iff_eq]at i;exact⟨i.1.1,i.1.2.2.2.2.2⟩
 ·split at h
  ·cases h
  ·rename_i j;right;have g:x.key.length<=4:=by
    simp only[not_or]at j;omega
   split at h
   ·rename_i e;exact⟨Fj,g,Fj,Fj,Fj⟩
   split at h
   ·rename_i e;exact⟨Fj,g,Fj,Fj,Fj⟩
   split at h
   ·rename_i e;exact⟨Fj,g,Fj,Fj,Fj⟩
   split at h
   ·rename_i e;simp only[AQ,decide_eq_true_eq]at h;exact⟨Fj,g,λ_=>h.2,Fj,Fj⟩
   split at h
   ·rename_i e;simp only[AQ]at h;exact⟨Fj,g,Fj,λ_=>h.1,Fj⟩
   split at h
   ·rename_i e;simp only[AQ,decide_eq_true_eq]at h;exact⟨Fj,g,Fj,Fj,λ_=>⟨⟨h.2.1,h.2.2.1⟩,h.2.2.2.1,h.2.2.2.2⟩⟩
   ·cases h
def jP{l:List Fld}{s:Stp}(h:M_ l s=0):okStp l s:=by
 have C:bH s=true:=by
  unfold M_ at h;split at h
  ·unfold gY at h;split at h
   ·assumption
   ·cases h
  ·rename_i o;simp only[not_or,ne_eq,Decidable.not_not]at o;have:=o.1;unfold gY at this;split at this
   ·assumption
   ·cases this
 have i:s.kind≠0->(Km s).all (λy=>(Ft l y).2)=true:=by
  intro p;unfold M_ at h;split at h
  ·rename_i g;rcases g with g|g
   ·unfold gY at g;rw[C]at g;exact absurd rfl g
   ·exact absurd g p
  ·split at h
   ·cases h
   ·rename_i o;simpa using o
 have j:s.kind≠0 -> ∀r∈s.key,(Ft l r).2=true:=λp r hm=>by
  refine Ao.1 (i p) r ?_;unfold Km;split
  ·exact hm
  ·exact List.mem_append_left _ hm
 rcases AEp C with⟨p,I⟩|⟨J,I,h4,h5,h6⟩
 ·exact⟨Fj,Fj,j,Fj,Fj,Fj,Fj⟩
 ·refine⟨Fj,Fj,j,λg=>?_,λe=>(h4 e).2.2,λe=>(h6 e).2,λe=>?_⟩
  ·rcases g with e|e
   ·have:=h4 e;omega
   ·have:=(h6 e).1;omega
  ·refine Ao.1 (i Fj) s.field ?_;unfold Km;have t:s.field≠⟨#[]⟩:=by
    intro O;have:=h5 e;rw[O]at this;exact absurd this dk
   rw[iN t];exact List.mem_append_right _ (Ag.2 rfl)
def Rm{l:List Fld}{p:List FW}: ∀{r:List FW} {i:Nat},Lk l p i r=true -> ∀(k:Nat) (x:FW),r[k]? =some x -> ∀y∈p.take (i+k),MH l y.step x.step=false
 |[],i,_,k,x,hx,_,_=>by simp at hx
 | z::r,i,h,k,x,hx,y,g=>by
  rw[Lk,AQ]at h;match k,hx with
  | 0,hx =>
   have:z=x:=by simpa using hx
   subst this;have j:=h.1;rw[Bool.not_eq_true',List.any_eq_false]at j;simpa using j y g
  |k+1,hx =>
   exact Rm h.2 k x (by simpa using hx) y (by rw[show i+1+k=i+(k+1) by omega];exact g)
def bT{l:List Fld}{s t:Stp}(h:MH l s t=false)(g:s.kind≠0)(i:t.kind≠0)(j:s.var=t.var):s.key.length=t.key.length:=by
 unfold MH at h;have o:(s.kind !=0)=true:=by simpa using g
 have p:(t.kind !=0)=true:=by simpa using i
 rw[o,p,decide_eq_true j]at h;have h3:Vr l s t=true:=by simpa using h
 unfold Vr at h3;rw[AQ,AQ]at h3;have h4:Jl l s.key=Jl l t.key:=by
  have:=h3.2.1;unfold ZX at this;exact of_decide_eq_true this
 have:=congrArg List.length h4;unfold Jl at this;simpa using this
def jR{l:List Fld}{p:List FW}(h:RZ l p=0):okPrg l p/\p.length<=8:=by
 obtain⟨T,V,h3,h4⟩:=uA h;have o:Lk l p 0 p=true:=by
  unfold RZ at h;split at h
  ·rename_i I;exact absurd h I
  split at h
  ·rename_i I;exact absurd h I
  split at h
  ·assumption
  ·cases h
 refine⟨⟨λs r=>jP (h3 s r).2,λs r=>(Uc (h3 s r).1).2,λs r t U O P R=>?_⟩,T⟩;obtain⟨i,J⟩:=Ab r;obtain⟨j,C⟩:=Ab U;rcases Ea i j with g|g|g
 ·exact bT (Rm o j t C s (AB (i:=i) (by rw[Ak,iP Fj];exact J))) O P R
 ·subst g;rw[J]at C;cases C;rfl
 ·exact(bT (Rm o i s J t (AB (i:=j) (by rw[Ak,iP Fj];exact C))) P O R.symm).symm
def MY{s:FR}(i:R19 s){k:Nat}{t:FT}(j:s.tenants[k]? =some t):okPrg s.fields (Gc t).1/\(Gc t).1.length<=8/\(Gc t).1.map (·.step)=t.program.map (·.step)/\t.ports.length<=64:=by
 obtain⟨o,g,_⟩:=i.ckE j;obtain⟨p,r,C⟩:=AAb o;rcases ns p r with⟨I,_,_⟩|⟨_,J,O⟩
 ·rw[I]at g;cases g
 ·obtain⟨P,R⟩:=jR J;exact⟨P,R,O,C⟩
set_option maxRecDepth 50000
structure okSts (s:FR) (sts:List (List FX)):Prop where
 len:sts.length=s.tenants.length
 st:∀(k:Nat) (t:FT) (st:List FX),s.tenants[k]? =some t->sts[k]? =some st->(∀e∈st,am e /\ ∀x∈t.program,XB x.step e)/\st.length<=60
def ACh{h:FU}(g:Fr h=true):Fr { h with h9:=0 }=true:=by
 unfold Fr at g ⊢;simp only[Head.l,List.all_cons,List.all_nil,Bool.and_true,AQ]at g ⊢;exact⟨g.1,g.2.1,g.2.2.1,g.2.2.2.1,g.2.2.2.2.1,g.2.2.2.2.2.1,g.2.2.2.2.2.2.1,g.2.2.2.2.2.2.2.1,g.2.2.2.2.2.2.2.2.1,dc⟩
def AAS{t:FT}{h:FU}(r:t.ports.length<=64)(g:Fr h=true)(i:(PR t h).2=true):Fr (PR t h).1=true:=by
 have o:=Mz.1 i;obtain⟨j,x,p,_,_,h3⟩:=MP o;have C:=(AD.1 p).1;have h4:Hn t (tW h)=((0+j:Nat):Int):=h3;unfold PR I';have h5:Hn t (i64 (h.h0 - 10000))=((0+j:Nat):Int):=h4;rw[iN Fj,h5];exact ACh (Pj g Fj Fj)
def jQ{s:FR}(o:R19 s)(R:Id s=true)(hb:Fo s.c<=1048576){C:List (List FX)}(hs:okSts s C){h:FU}(hr:Fr h=true){i:Int}(ht:0<=i/\i<=1073741824):okRun s C h i:=by
 have T:∀t∈s.tenants,Fo t.c<=1048576:=λt hm=>by
  have g:=Oj (IZ hb) hm;simpa only[AV.bulk]using g
 have hnt:s.tenants.length<=8:=by
  unfold Id at R;simp only[AQ,decide_eq_true_eq]at R;have:=R.2.2.1;omega
 have j:∀t∈s.tenants,t.ports.length<=64:=λt hm=>by
  obtain⟨k,O⟩:=Ab hm;exact(MY o O).2.2.2
 refine⟨hb,o.fld,Fj,ht,hs.len,λk t O=>⟨(MY o O).1,by have:=(MY o O).2.1;omega⟩,λt hm=>?_,λk t st g U=>?_,λc r=>o.pred r,λc r=>?_,λc r=>?_,λt hm=>by have:=j t hm;omega,λt hm P=>AAS (j t hm) hr P⟩
 ·have p:=T t hm;refine AHk t (AJ (Mr (IK p)) dc) (AJ (Mc (HV p)) dc) λx hx=>Ul ?_ (Mr (IK p));have g:=KZ (HV p) hx;have U:Fo x.c<=1048576:=by simpa only[AV.bulk]using g
  exact IL U
 ·obtain⟨g1,g2⟩:=hs.st k t st g U;refine⟨λe P=>⟨(g1 e P).1,λx hx=>?_⟩,Fj⟩;have I:=(MY o g).2.2.1;have:x.step∈t.program.map (·.step):=by rw[<- I];exact AN.2 ⟨x,hx,rfl⟩
  obtain⟨y,hy,V⟩:=AN.1 this;rw[<- V];exact(g1 e P).2 y hy
 ·have h0:=(OD (o.con c r)).2;have hl:=dV o r;exact⟨h0,Fj⟩
 ·have g:=o.con c r;have hl:=dV o r;have h0:=(OD g).2;unfold Ub at g;split at g
  ·cases g
  split at g
  ·cases g
  rename_i J;have J:jE (IN s (Gu s c.dst)) c.toPort=true:=by
   cases ho:jE (IN s (Gu s c.dst)) c.toPort with
   |true=>rfl
   |false=>exact absurd (.inr (.inr ho)) J
  unfold jE at J;simp only[AQ,decide_eq_true_eq]at J;obtain⟨u,hu⟩:∃u,s.tenants[(Gu s c.dst).toNat]? =some u:=⟨_,AL hl⟩;have ht2:IN s (Gu s c.dst)=u:=by unfold IN;rw[hu];rfl
  rw[ht2]at J;have:=j u (AB hu);omega
def bZ{s:FR}{g:List (List FX)}{h:FU}{i:Int}(j:L_ h 0 s.tenants=[]):J0 s g h i=some ([],g):=by
 unfold J0;rw[j];rfl
def AAx{s:FR}(j:R19 s){g:List (List FX)}{h:FU}{i:Int}{a:Nat}{t:FT}(o:s.tenants[a]? =some t)(p:(PR t h).2=true){r:List FY×List (List FX)}(C:J0 s g h i=some r):
  dlP s a r.1/\r.2.length=g.length /\ ∀k,(∀c,¬ZA s a c k)->r.2[k]? =g[k]? :=
 uL j 600 0 (AE6 j o p) (λd I=>by cases I) C
def Zb(a:FZ):Bool:=Fr a.head&&(a.head.h9==0&&(decide (0<=a.tick)&&decide (a.tick<=1073741824)))
def AAw(a:FZ):Fm AA 19 [.agg a.c] (.bool (Zb a)):=by
 have g:=AAn a.head;refine pC Agu rfl ?_;simp only[f19,go_sem];repeat' (first|(apply pK g;simp only[go_sem])|apply Pz<;>intro i<;>simp only[go_sem,i])
 all_goals first
  |rfl
  |(simp only[Zb];rfl)
  |grind[Zb]
  |(simp only[Zb];grind)
  |(simp[Zb, *];done)
  |(simp_all[Zb];done)
  |skip
def bS(a:ByteArray):PT a a=0:=by unfold PT;rw[Og,iN dc,iP rfl]
def bP(x:Int):OE x x=0:=by unfold OE;simp
def Qy:∀l:List Int,Kg l l=0
 |[]=>rfl
 |x::l=>by rw[Kg,bP,iN dc];exact Qy l
def rF(a b:List Int)(ha:a.length<=1073741824):Fm AA 75 [.sl none (Gi a),.sl none (Gi b)] (.int .i64 (Kg a b)):=by
 have p:(Gi a).length=a.length:=Ho a;have t:(Gi b).length=b.length:=Ho b;refine pC AeS rfl ?_;simp only[f75,go_sem];refine F6 a (λ(_:Unit) r=>Kg r (b.drop (a.length - r.length))) (λk _=>k<=b.length) (λk _=>[(0,.sl none (Gi a)),(1,.sl none (Gi b)),(5,.int .i64 k)]) (λ_ _=>[]) () Fj (BS _) rfl rfl ?_ ?_
 ·intro k _ x xs hd hx hI g R T hw;have hk:=GI hd;have e1:a.length - (xs.length+1)=k:=Fj;have e2:a.length - xs.length=k+1:=Fj;simp only[AC,e1,e2,AP,BE]at g ⊢;by_cases U:k<b.length
  ·obtain⟨y,O⟩:∃y,b[k]? =some y:=⟨_,AL U⟩;have j:(k:Int)<(b.length:Int):=Fj;rw[WP O,Kg]at g;simp only[go_sem,R,T,Gj hx,Gj O,p,t,j,dT];repeat' (first|apply Pz<;>intro o<;>simp only[go_sem,o,R,T,Gj hx,Gj O,p,t,j,hw])
   ·have o:=of_decide_eq_true o;have V:OE x y = -1:=by unfold OE;rw[iP o]
    rw[V,iP dc]at g;rw[g]
   ·rename_i i;have i:=of_decide_eq_false i;have C:=of_decide_eq_true o;have V:OE x y=1:=by unfold OE;rw[iN i];first|rw[iP C]|rw[iN Fj]
    rw[V,iP dc]at g;rw[g]
   ·rename_i i;have i:=of_decide_eq_false i;have C:=of_decide_eq_false o;have:x=y:=Fj;subst this;rw[e1,e2,WP O,Kg,bP,iN dc];exact⟨(),rfl,Fj⟩
  ·have j:¬(k:Int)<(b.length:Int):=Fj;rw[List.drop_eq_nil_of_le Fj,Kg]at g;have I:¬(a.length:Int)<(b.length:Int):=Fj;have l2:(b.length:Int)<(a.length:Int):=Fj;simp only[go_sem,R,T,Gj hx,p,t,j,dF,I,l2,dT];rw[g]
 ·intro _ hI g;rw[AP,BE,AG,Nat.sub_zero]at g;simp only[go_sem,AR,dF,p,t];cases P:b.drop a.length with
  |nil =>
   have J:b.length<=a.length:=by simpa using P
   rw[P,Kg]at g;have I:¬(a.length:Int)<(b.length:Int):=Fj;have l2:¬(b.length:Int)<(a.length:Int):=Fj;simp only[go_sem,I,l2,dF,p,t];rw[g]
  |cons y ys =>
   have J:a.length<b.length:=by have:=GI P;omega
   have I:(a.length:Int)<(b.length:Int):=Fj;rw[P,Kg]at g;simp only[go_sem,I,dT];rw[g]
def AFX(l:List FX)(R:l.length<=1073741824)(i:∀e∈l,e.key.length<=1073741824)(j:∀a:List Int,a.length<=1073741824->Fm AA 75 [.sl none (Gi a),.sl none (Gi a)] (.int .i64 0)):Fm AA 43 [.sl none (Fs l),.sl none (Fs l)] (.bool true):=by
 have g:(Fs l).length=l.length:=HK l;have o:((l.length:Int) !=(l.length:Int))=false:=F3;refine pC Afs rfl ?_;simp only[f43,go_sem,g,o];refine F6 l (λ(_:Unit) _=>()) (λ_ _=>True) (λk _=>[(0,.sl none (Fs l)),(1,.sl none (Fs l)),(5,.int .i64 k)]) (λ_ _=>[]) () Fj trivial rfl rfl ?_ ?_
 ·intro k _ x T U hx _ _ p r t;have C:=j x.key (i x (AB hx));have I:(x.var.toList==x.var.toList)=true:=F3;have J:(x.n !=x.n)=false:=F3;have O:(x.at_ !=x.at_)=false:=F3;simp only[go_sem,p,r,Fz hx,g,I,J,O,Ax];apply pK C;have P:((0:Int) !=0)=false:=rfl;simp only[go_sem,P,t];exact⟨(),trivial⟩
 ·intro _ _ _;simp only[go_sem,AR,dF,g]
def AAt(l:List FX)(g:l.length<=1073741824)(i:∀e∈l,e.key.length<=1073741824):Fm AA 43 [.sl none (Fs l),.sl none (Fs l)] (.bool true) :=
 AFX l g i λa j=>by
  have:=rF a a j
  rwa [Qy]at this
def Ug(l:List (List FX))(I:l.length<=1073741824)(j:∀x∈l,x.length<=1073741824 /\ ∀e∈x,e.key.length<=1073741824):Fm AA 9 [.sl none (Gp l),.sl none (Gp l)] (.bool true):=by
 have i:(Gp l).length=l.length:=Ns l;have o:((l.length:Int) !=(l.length:Int))=false:=F3;refine pC Alb rfl ?_;simp only[f9,go_sem,i,o];refine F6 l (λ(_:Unit) _=>()) (λ_ _=>True) (λk _=>[(0,.sl none (Gp l)),(1,.sl none (Gp l)),(5,.int .i64 k)]) (λ_ _=>[]) () Fj trivial rfl rfl ?_ ?_
 ·intro k _ x J O hx _ _ p r t;have g:=j x (AB hx);have C:=AAt x g.1 g.2;simp only[go_sem,p,r,J9 hx,i];apply pK C;simp only[go_sem,t,Ax];exact⟨(),trivial⟩
 ·intro _ _ _;simp only[go_sem,AR,dF,i]
def uI(a b:FX)(p:a.key.length<=1073741824):Fm AA 188 [.agg a.c,.agg b.c] (.int .i64 (G_ a b)):=by
 have r:=rF a.key b.key p;refine pC ATT rfl ?_;simp only[f188,go_sem];repeat' (first|(apply pK r;simp only[go_sem,Fk])|apply Pz<;>intro j<;>simp only[go_sem,j,Fk])
 ·have i:PB a.var b.var=true:=j;simp[G_,PT,i]
 ·rename_i g;have i:PB a.var b.var=false:=g;have o:¬a.var=b.var:=by simpa using j
  simp[G_,PT,i,o]
 ·rename_i g;have i:PB a.var b.var=false:=g;have o:a.var=b.var:=by simpa using j
  simp[G_,PT,i,o,Og]
def PM(l:List Fa):List AV:=l.map λx => .agg x.c
@[go_sem] def ji(l:List Fa):(PM l).length=l.length:=by simp[PM]
def XJ{l:List Fa}{i:Nat}{x:Fa}(h:l[i]? =some x):(PM l)[i]? =some (.agg x.c):=by simp[PM,h]
@[go_sem] def AbN(a:List Fa)(x:Fa):PM a++[.agg x.c]=PM (a++[x]):=by simp[PM]
@[go_sem] def wC(l:List Fa):Fq (PM l)=true:=by
 induction l with
 |nil=>rfl
 |cons x i g=>simpa [PM,Fq,AV.pure]using⟨Vw x,g⟩
def rB(l:List Fa)(T:l.length<=1073741824)(v:ByteArray):Fm AA 186 [.sl none (PM l),.str v] (.int .i64 (IS (λx:Fa=>decide (x.name=v)) l)):=by
 have i:(PM l).length=l.length:=ji l;refine pC ATb rfl ?_;simp only[f186,go_sem];refine F0 l (λr=>Hb (λx:Fa=>decide (x.name=v)) (l.length - r.length) r) (λk=>[(0,.sl none (PM l)),(1,.str v),(5,.int .i64 k)]) Fj rfl ?_ ?_
 ·intro k x t O hx g C I P;have R:=GI O;have j:l.length - (t.length+1)=k:=Fj;have J:l.length - t.length=k+1:=Fj;simp only[AC,j,AP]at g;simp only[go_sem,C,I,XJ hx,i,j,J,Fk];repeat' (first|apply Pz<;>intro o<;>simp only[go_sem,o,C,I,P,XJ hx,i,j,J])
  ·rw[IS,g,Hb,iP o]
  ·rw[Hb,iN (by rw[o];decide)]
 ·intro g p;simp only[go_sem,p,dF,i];rw[AP]at g;rw[IS,g];rfl
def uF(l:List FX)(O:l.length<=1073741824)(v:ByteArray):Fm AA 146 [.sl none (Fs l),.str v] (.int .i64 (M9 l v).length):=by
 have i:(Fs l).length=l.length:=HK l;refine pC AV8 rfl ?_;simp only[f146,go_sem];refine F6 l (λ(_:Unit) _=>()) (λ_ _=>True) (λk _=>[(0,.sl none (Fs l)),(1,.str v),(5,.int .i64 (M9 (l.take k) v).length),(6,.int .i64 k)]) (λ_ _=>[]) () Fj trivial rfl rfl ?_ ?_
 ·intro k _ x P R hx _ _ r t C;have I:=(AD.1 hx).1;have J:(M9 (l.take k) v).length<=k:=AJ (List.length_filter_le _ _) (by rw[BB];omega);have j:IntKind.i64.wrap (((M9 (l.take k) v).length:Int)+1)=(((M9 (l.take k) v).length+1:Nat):Int):=K_ Fj;have g:l.take (k+1)=l.take k++[x]:=by rw[BF,hx];rfl
  simp only[go_sem,r,t,Fz hx,i,Fk];repeat' (first|apply Pz<;>intro o<;>simp only[go_sem,o,r,t,C,j,Fz hx,i])
  ·have p:x.var=v:=of_decide_eq_true o;have:M9 (l.take (k+1)) v=M9 (l.take k) v++[x]:=by rw[g];unfold M9;rw[Ch];simp[p]
   rw[this];exact⟨(),by first|rw[AE];rfl|rfl,rfl⟩
  ·have p:¬x.var=v:=of_decide_eq_false o;have:M9 (l.take (k+1)) v=M9 (l.take k) v:=by rw[g];unfold M9;rw[Ch];simp[p]
   rw[this];exact⟨(),by first|rw[AE];rfl|rfl,rfl⟩
 ·intro _ _ _;simp only[go_sem,AR,dF,i,BL]
def AAq(n:Int)(i:n<9223372036854775807):Fm AA 260 [.int .i64 n] (.int .i64 (Q7 n.toNat)):=by
 refine pC APk rfl ?_;simp only[f260,go_sem];refine WX n.toNat (λk=>[(0,.int .i64 n),(3,.int .i64 (Q7 k)),(4,.int .i64 k)]) (λ_=>[]) rfl rfl ?_;intro k j;by_cases h:(k:Int)<n
 ·have g:=K_ (k:=k) Fj;simp only[go_sem,h,dT,g];exact⟨Fj,rfl,rfl⟩
 ·have:k=n.toNat:=Fj;subst this;simp only[go_sem,h,dF]
def qX(v:Fa)(e:FX):Prop:=e.key.length=v.widths.length/\(0<=e.n/\e.n<=65535)/\(0<=e.at_/\e.at_<=1073741824) /\ ∀x∈e.key,0<=x
def ALJ(v:Fa)(hw : ∀ w∈v.widths,w<9223372036854775807)(e:FX)(hk:e.key.length<=1073741824)(l:List FX)(hl:l.length<=1073741824):K9 AA 187 [.agg v.c,.agg e.c,.sl none (Fs l)] λr => ∃ b,r = .bool b/\(b=true->qX v e):=by
 have O:(Fs l).length=l.length:=HK l;have o:(Gi e.key).length=e.key.length:=Ho _;have t:(Gi v.widths).length=v.widths.length:=Ho _;refine qC ATX rfl ?_;by_cases V:e.key.length=v.widths.length/\(0<=e.n/\e.n<=65535)/\(0<=e.at_/\e.at_<=1073741824)
 ·obtain⟨b0,⟨b1,b2⟩,b3,b4⟩:=V;have n0:((e.key.length:Int) !=(v.widths.length:Int))=false:=by simp[b0]
  have n1:¬e.n<0:=Fj;have n2:¬65535<e.n:=Fj;have n3:¬e.at_<0:=Fj;have n4:¬1073741824<e.at_:=Fj;simp only[f187,go_sem,o,t,n0,n1,n2,n3,n4,dF];refine F6 e.key (λ(_:Unit) _=>()) (λk _ => ∀x∈e.key.take k,0<=x) (λk _=>[(2,.sl none (Fs l)),(3,.ptr 0 0),(4,.ptr 1 0),(7,.int .i64 k)]) (λ_ _=>[some v.c,some e.c]) () Fj F3 rfl rfl ?_ ?_
  ·intro k _ x xs hd hx P _ C I i;obtain⟨w,j⟩:∃w,v.widths[k]? =some w:=⟨_,AL (by have:=(AD.1 hx).1;omega)⟩;have p:(k:Int)<(v.widths.length:Int):=Fj;have c1:=AAq w (hw w (AB j));have R:e.key.take (k+1)=e.key.take k++[x]:=by rw[BF,hx];rfl
   simp only[go_sem,C,I,o,t,Gj hx,Gj j,p];repeat' (first|(apply pK c1;simp only[go_sem,C,I,i,o,t,Gj hx,Gj j,p])|apply Pz<;>intro g<;>simp only[go_sem,g,C,I,i,o,t,Gj hx,Gj j,p])
   all_goals first|exact⟨rfl,false,rfl,F3⟩|skip
   ·rename_i T;refine⟨(),λy J=>?_⟩;rw[R]at J;rcases Ar.1 J with J|J
    ·exact P y J
    ·rcases Ag.1 J with rfl;have:=of_decide_eq_false T;omega
  ·intro _ P _;have U:qX v e:=⟨b0,⟨b1,b2⟩,⟨b3,b4⟩,by rw[BL]at P;exact P⟩;simp only[go_sem,AR,dF,o];repeat' (first|apply Pz<;>intro g<;>simp only[go_sem,g,o,O])
   all_goals first|exact⟨rfl,_,rfl,λ_=>U⟩|skip
   refine F6 l (λ(_:Unit) _=>()) (λ_ _=>True) (λk _=>[(2,.sl none (Fs l)),(3,.ptr 0 0),(4,.ptr 1 0),(8,.int .i64 k)]) (λ_ _=>[some v.c,some e.c]) () Fj trivial rfl rfl ?_ ?_
   ·intro k _ x xs hd hx _ _ C I i;simp only[go_sem,C,I,O,Fz hx];repeat' (first|apply Pz<;>intro g<;>simp only[go_sem,g,C,I,i,O,Fz hx])
    all_goals first|exact⟨rfl,_,rfl,λ_=>U⟩|exact⟨(),trivial⟩|skip
   ·intro _ _ _;simp only[go_sem,AR,dF,O];repeat' (first|apply Pz<;>intro g<;>simp only[go_sem,g,O])
    all_goals first|exact⟨rfl,_,rfl,λ_=>U⟩|skip
 ·simp only[f187,go_sem,o,t];repeat' (first|apply Pz<;>intro g<;>simp only[go_sem,g,o,t])
  all_goals first|exact⟨rfl,false,rfl,F3⟩|skip
  rename_i g1 g2 g3 g4;have g1:(e.key.length:Int)=(v.widths.length:Int):=by simpa using g1
  have g2:=of_decide_eq_false g2;have g3:=of_decide_eq_false g3;have g4:=of_decide_eq_false g4;have g5:=of_decide_eq_false g;exact absurd ⟨Fj,⟨Fj,Fj⟩,Fj,Fj⟩ V
def Aae(l:List FX):Prop:=∀(k:Nat) (y x:FX),l[k]? =some y->l[k+1]? =some x->G_ y x<0
def kX:Hint:={ h89 with pc:=[20,49,60] }
@[go_sem] def Akg(k:Nat):kX.lv k=h89.lv k/\kX.ct k=h89.ct k/\kX.at k=h89.at k/\kX.dn k=h89.dn k:=⟨AH rfl rfl,AH rfl rfl,AH rfl rfl,AH rfl rfl⟩
@[go_sem] def AlX:kX.tk=[]/\kX.mt=[]/\kX.pc=[20,49,60]:=⟨rfl,rfl,rfl⟩
def ALx:FK AA 89 f89 kX:=⟨kr,kr,func89,kr⟩
def vF(p:List Fa)(hv:p.length<=1073741824)(hw : ∀ v∈p,∀ w∈v.widths,w<9223372036854775807)(l:List FX)(hl:l.length<=1073741824)(hk : ∀ e∈l,e.key.length<=1073741824):K9 AA 89 [.sl none (PM p),.sl none (Fs l)] λr => ∃ n,r = .int .i64 n/\(n=0->(∀ e∈l,∃ v∈p,v.name=e.var/\qX v e)/\Aae l):=by
 have I:(Fs l).length=l.length:=HK l;have ev:(PM p).length=p.length:=ji p;refine qC ALx rfl ?_;simp only[f89,go_sem];refine F6 l (λ(_:Unit) _=>()) (λk _=>(∀e∈l.take k,∃v∈p,v.name=e.var/\qX v e) /\ ∀(i:Nat) (y z:FX),i+1<k->l[i]? =some y->l[i+1]? =some z->G_ y z<0) (λk _=>[(0,.sl none (PM p)),(1,.sl none (Fs l)),(5,.int .i64 k)]) (λ_ _=>[]) () Fj ⟨F3,λi y z hi=>Fj⟩ rfl rfl ?_ ?_
 ·rintro k _ x xs hd hx ⟨hI,hJ⟩ _ P R J;have hkx:=hk x (AB hx);have c1:=rB p hv x.var;have htk:l.take (k+1)=l.take k++[x]:=by rw[BF,hx];rfl
  have hkl:=(AD.1 hx).1;have g:(k:Int)<=(l.length:Int):=Fj;have htl:(l.take k).length<=1073741824:=by rw[BB];omega
  have c3:=uF (l.take k) htl x.var;have htl2:(Fs (l.take k)).length=k:=by rw[HK,BB];omega
  simp only[go_sem,P,R,I,Fz hx];apply pK c1;rcases LM (λv:Fa=>decide (v.name=x.var)) p 0 with⟨w1,w2⟩|⟨i,v,w1,w2,w3⟩
  ·have e1:IS (λv:Fa=>decide (v.name=x.var)) p = -1:=w1;rw[e1];have z1:(-1:Int)<0:=dc;simp only[go_sem,z1,dT];exact⟨rfl,4,rfl,λh=>absurd h dc⟩
  ·have e1:IS (λv:Fa=>decide (v.name=x.var)) p=(i:Int):=by rw[IS,w1,AX]
   have hvm:=AB w2;have hvn:v.name=x.var:=by have:=List.find?_some w3;simpa using this
   have hiv:(i:Int)<(p.length:Int):=by have:=(AD.1 w2).1;omega
   have i0:(0:Int)<=(i:Int):=Fj;have i1:¬(i:Int)<0:=Fj;have q1:=ALJ v (hw v hvm) x hkx (l.take k) htl;rw[e1];have j:¬((k:Int)=(l.length:Int)):=Fj;have o:qX v x->(∀y,0<k->l[k - 1]? =some y->G_ y x<0)->(∀e∈l.take (k+1),∃v∈p,v.name=e.var/\qX v e) /\ ∀(i:Nat) (y z:FX),i+1<k+1->l[i]? =some y->l[i+1]? =some z->G_ y z<0:=λhf hq=>⟨λe V=>by
    rw[htk]at V;rcases Ar.1 V with V|V
    ·exact hI e V
    ·rcases Ag.1 V with rfl;exact⟨v,hvm,hvn,hf⟩,λi y z hi t T=>by
    by_cases O:i+1<k
    ·exact hJ i y z O t T
    ·have O:i+1=k:=Fj;rw[O,hx]at T;cases T;exact hq y Fj (by rw[<- O];exact t)⟩
   simp only[go_sem,i0,i1,hiv,dF,XJ w2,P,R,I,ev,g,j,Fz hx];refine L0 q1 λr hr=>?_;obtain⟨b,rfl,hb⟩:=hr;cases b with
   |false =>
    simp only[go_sem,Ay];exact⟨rfl,1,rfl,λh=>absurd h dc⟩
   | true =>
    have o:=o (hb rfl);rcases Nat.eq_zero_or_pos k with T|T
    ·have o:=o λy hk0=>Fj;have g0:¬(0:Int)<(k:Int):=Fj;simp only[go_sem,Ax,g0,dF,P,R,I,g,j,Fz hx];repeat' (first|(apply pK c3;simp only[go_sem,P,R,J,I,g,j,Fz hx])|apply Pz<;>intro hc<;>simp only[go_sem,hc,P,R,J,I,g,j,Fz hx])
     all_goals first|exact⟨rfl,2,rfl,λh=>absurd h dc⟩|exact⟨(),o,rfl,rfl⟩|exact⟨(),o⟩
    ·have g0:(0:Int)<(k:Int):=Fj;obtain⟨y,t⟩:∃y,l[k - 1]? =some y:=⟨_,AL Fj⟩;have c2:=uI y x (hk y (AB t));have U:IntKind.i64.wrap ((k:Int) - 1)=((k - 1:Nat):Int):=by rw[Mg Fj Fj];omega
     have g1:(0:Int)<=((k - 1:Nat):Int):=Fj;have g2:((k - 1:Nat):Int)<(l.length:Int):=Fj;simp only[go_sem,Ax,g0,g1,g2,U,dT,P,R,I,g,j,Fz hx,Fz t];repeat' (first|((first|apply pK c2|apply pK c3);simp only[go_sem,P,R,J,g1,g2,U,I,g,j,Fz hx,Fz t])|apply Pz<;>intro hc<;>simp only[go_sem,hc,P,R,J,g1,g2,U,I,g,j,Fz hx,Fz t])
     all_goals first|exact⟨rfl,10,rfl,λh=>absurd h dc⟩|exact⟨rfl,2,rfl,λh=>absurd h dc⟩|exact⟨(),o (λy2 _ C=>by rw[t]at C;cases C;simp only[decide_eq_false_iff_not]at *;omega),rfl,rfl⟩|exact⟨(),o (λy2 _ C=>by rw[t]at C;cases C;simp only[decide_eq_false_iff_not]at *;omega)⟩
 ·rintro _ ⟨hI,hJ⟩ _;simp only[go_sem,AR,dF,I];rw[BL]at hI;exact⟨rfl,0,rfl,λ_=>⟨hI,λi y z t T=>hJ i y z (AD.1 T).1 t T⟩⟩
def geB(a b:ByteArray):Bool:=!PB a b
def KL(n:ByteArray):Bool->List ByteArray->List ByteArray
 |d,[]=>if d then[]else[n]
 |d,x::r=>(if geB x n=true/\d=false then[n]else[])++((if x≠n then[x]else[])++KL n (d||geB x n) r)
def T1(l:List ByteArray)(n:ByteArray):List ByteArray:=KL n false l
def AZ7(l:List ByteArray)(n:ByteArray)(hl:l.length<=1073741824):Fm AA 189 [.sl none (Ha l),.str n] (.sl none (Ha (T1 l n))):=by
 have i:(Ha l).length=l.length:=Ko l;refine pB ATP rfl ?_;simp only[f189,go_sem];refine F6 l (λ(s:List ByteArray×Bool) r=>s.1++KL n s.2 r) (λk s=>s.1.length<=2*k) (λk s=>[(0,.sl none (Ha l)),(1,.str n),(5,.sl (some 1) (Ha s.1)),(6,.bool s.2),(7,.int .i64 k)]) (λk o=>[]) ([],false) Fj F3 rfl rfl ?_ ?_
 ·rintro k ⟨o,d⟩ y ys O hx g j I J P;dsimp only at g j ⊢;have R:=GI O;obtain⟨p,t,T,U,V⟩:(o.length+1)*16<=140737488355328/\o.length<=9223372036854775806/\(o.length+1+1)*16<=140737488355328/\o.length+1<=9223372036854775806/\o.length<=9223372036854775805:=by
   have hm:o.length<=2147483648:=AJ g Fj;generalize o.length=m at hm;omega
  simp only[go_sem,I,J,GN hx,i];repeat' (first|apply Pz<;>intro C<;>simp only[go_sem,C,I,J,P,GN hx,i,Fk,AE,BQ,p,t,T,U,V])
  all_goals first
   |exact⟨(o++[n,y],true),by grind[KL,geB,PB],IG,rfl,rfl⟩
   |exact⟨(o++[n],true),by grind[KL,geB,PB],IG,rfl,rfl⟩
   |exact⟨(o++[y],d),by grind[KL,geB,PB],IG,rfl,rfl⟩
   |exact⟨(o,d),by grind[KL,geB,PB],IG,rfl,rfl⟩
   |skip
 ·rintro ⟨o,d⟩ g j;dsimp only at g j ⊢;obtain⟨p,t⟩:(o.length+1)*16<=140737488355328/\o.length<=9223372036854775806:=by
   have hm:o.length<=2147483648:=AJ g Fj;generalize o.length=m at hm;omega
  simp only[go_sem,AR,dF,i];repeat' (first|apply Pz<;>intro C<;>simp only[go_sem,C,p,t])
  all_goals first
   |rfl
   |(simp only[T1,KL];rfl)
   |grind[T1,KL]
   |(simp only[T1,KL];grind)
   |(simp[T1,KL, *];done)
   |(simp_all[T1,KL];done)
   |skip
def NN(o:List ByteArray):List FW->List ByteArray
 |[]=>o
 |x::r=>NN (if x.step.kind=0 then o else T1 o x.step.var) r
def Rr(n:ByteArray): ∀(l:List ByteArray) (d:Bool),(KL n d l).length<=2*l.length+1
 |[],d=>by cases d<;>simp[KL]
 |x::l,d=>by
  rw[KL,AE,AE,AC];have:=Rr n l (d||geB x n);split<;>split<;>simp<;>omega
def kO:Hint:={ h90 with tk:=[89,93] }
@[go_sem] def AkV(k:Nat):kO.lv k=h90.lv k/\kO.ct k=h90.ct k/\kO.at k=h90.at k/\kO.dn k=h90.dn k:=⟨AH rfl rfl,AH rfl rfl,AH rfl rfl,AH rfl rfl⟩
@[go_sem] def Ak3:kO.tk=[89,93]/\kO.mt=[]/\kO.pc=[33,70,75,78]:=⟨rfl,rfl,rfl⟩
def ALn:FK AA 90 f90 kO:=⟨kr,kr,func90,kr⟩
def vW(l:List Fld)(g:ByteArray)(a:Fa×Bool)(s:Stp):Fa×Bool :=
 if s.kind=0\/s.var≠g then a
 else if Mo s=true/\a.2=false then({ a.1 with family:=MS s.kind,widths:=Jl l s.key,n:=s.n,m:=s.m },true)
 else({ a.1 with family:=MS s.kind,widths:=Jl l s.key },a.2)
def vWs(l:List Fld)(g:ByteArray)(a:Fa×Bool):List FW->Fa×Bool
 |[]=>a
 |x::r=>vWs l g (vW l g a x.step) r
def Wc(l:List Fld)(p:List FW)(g:ByteArray):Fa:=(vWs l g (⟨g,0,[],0,0⟩,false) p).1
def OT(l:List Fld)(p:List FW):List Fa:=(NN [] p).map (Wc l p)
def AFW(l:List Fld)(p:List FW)(hp:p.length<=8)(hk : ∀ x∈p,x.step.key.length<=1048576):Fm AA 90 [.sl none (Gf l),.sl none (GV p)] (.sl none (PM (OT l p))):=by
 have el:(GV p).length=p.length:=Ms p;refine pB ALn rfl ?_ (r:=by simp[AV.pure,wC]);simp only[f90,go_sem];refine F6 p (λ(s:Option Nat×List ByteArray) r=>NN s.2 r) (λk s=>s.2.length<4^k) (λk s=>[(0,.sl none (Gf l)),(1,.sl none (GV p)),(5,.sl s.1 (Ha s.2)),(6,.int .i64 k)]) (λ_ _=>[]) (some 1,[]) Fj dc rfl rfl ?_ ?_
 ·rintro k ⟨w,o⟩ x xs hd hx hI hF h0 h1 hw;dsimp only at hI hF ⊢;have hkl:=(AD.1 hx).1;have h48:(4:Nat)^k<=4^8:=BO dc Fj;have hol:o.length<65536:=BV hI h48;have c1:=AZ7 o x.step.var Fj;have hl2:(T1 o x.step.var).length<4^(k+1):=by
   have:=Rr x.step.var o false;have h4:(4:Nat)^(k+1)=4*4^k:=by rw[DV];omega
   unfold T1;omega
  have hl3:o.length<4^(k+1):=by
   have h4:(4:Nat)^(k+1)=4*4^k:=by rw[DV];omega
   omega
  by_cases g:x.step.kind=0
  ·have z0:(x.step.kind !=0)=false:=by simp[g]
   simp only[go_sem,h0,h1,F9 hx,el,z0,hw];exact⟨(w,o),by rw[NN,iP g],hl3,rfl,rfl⟩
  ·have z0:(x.step.kind !=0)=true:=by simp[g]
   simp only[go_sem,h0,h1,F9 hx,el,z0];apply pK c1;simp only[go_sem,hw];exact⟨(none,T1 o x.step.var),by rw[NN,iN g],hl2,rfl,rfl⟩
 ·rintro ⟨w,o⟩ hI hF;dsimp only at hI hF ⊢;have hol:o.length<65536:=BV hI (BO dc hp);have ho:NN [] p=o:=hF;have eo:(Ha o).length=o.length:=Ko o;simp only[go_sem,AR,dF,el];refine F6 o (λ(s:List Fa×Fl) r=>s.1++r.map (Wc l p)) (λk s=>s.1.length=k) (λk s=>[(0,.sl none (Gf l)),(1,.sl none (GV p)),(5,.sl w (Ha o)),(7,.sl (some 5) (PM s.1)),(8,.int .i64 k)]) (λ_ s=>s.2) ([],[]) Fj rfl rfl rfl ?_ ?_
  ·rintro k ⟨out,J⟩ R nms hd hx hI2 T h0 h1 hw;dsimp only at hI2 T ⊢;have hsp:G8 (Variable.z.cf (some 1)) [AV.str R]=(⟨R,0,[],0,0⟩:Fa).cf (some 1):=rfl;have U:∀y L,(J++y::L)[J.length]? =some y:=λy L=>F3;have sB:∀y z L,(J++y::L).set J.length z=J++z::L:=λy z L=>by
    rw[List.set_append_right _ _ (AS _)];simp
   have gN:∀y L z,(J++y::(L++[z]))[List.length (J++y::L)]? =some z:=λy L z=>by
    have:J++y::(L++[z])=(J++y::L)++[z]:=F3;rw[this];exact BT
   have sN:∀y L z z2,(J++y::(L++[z])).set (List.length (J++y::L)) z2=J++y::(L++[z2]):=λy L z z2=>by
    have:J++y::(L++[z])=(J++y::L)++[z]:=F3;rw[this];simp
   simp only[go_sem,h0,h1,GN hx,eo,hsp];refine F6 p (λ(a:(Fa×Bool)×Option Nat×Fl) r=>vWs l R a.1 r) (λ_ _=>True) (λj a=>[(0,.sl none (Gf l)),(1,.sl none (GV p)),(5,.sl w (Ha o)),(7,.sl (some 5) (PM out)),(8,.int .i64 k),(9,.ptr J.length 0),(10,.bool a.1.2),(11,.int .i64 j)])
    (λ_ a=>J++some (a.1.1.cf a.2.1)::a.2.2) ((⟨R,0,[],0,0⟩,false),some 1,[]) Fj trivial rfl rfl ?_ ?_
   ·rintro j ⟨⟨v,f⟩,w2,L⟩ x xs hd3 V _ hF3 g0 g1 gw;dsimp only at hF3 ⊢;have c1:=AFR x.step.kind;have c2:=rA l x.step.key (by have:=hk x (AB V);omega);have c3:=AFK x.step;by_cases g:x.step.kind=0
    ·have z0:(x.step.kind==0)=true:=by simp[g]
     simp only[go_sem,g0,g1,F9 V,el,U,gN,sN,z0,gw];exact⟨((v,f),w2,L++[some (x.step.cf none)]),by rw[vWs,vW,iP (.inl g)],rfl,rfl⟩
    ·have z0:(x.step.kind==0)=false:=by simp[g]
     by_cases hv:x.step.var=R
     ·have hvb:(R.toList==R.toList)=true:=F3;simp only[go_sem,g0,g1,F9 V,el,U,gN,sN,sB,z0,GN hx,h0,h1,eo,hv,hvb,Ax];have t:∀(u:Fa) (q:Option Nat) (i:Int),splice (u.cf q) 1 [.int .i64 i]=({ u with family:=i }:Fa).cf q:=λ_ _ _=>rfl;have C:∀(u:Fa) (q:Option Nat) (i:List Int),splice (u.cf q) 2 [.sl none (Gi i)]=({ u with widths:=i }:Fa).cf none:=λ_ _ _=>rfl;have I:∀(u:Fa) (q:Option Nat) (i:Int),splice (u.cf q) 3 [.int .i64 i]=({ u with n:=i }:Fa).cf q:=λ_ _ _=>rfl;have O:∀(u:Fa) (q:Option Nat) (i:Int),splice (u.cf q) 4 [.int .i64 i]=({ u with m:=i }:Fa).cf q:=λ_ _ _=>rfl;have P:∀y y' L z,(J++y::(L++[z]))[List.length (J++y'::L)]? =some z:=λy y' L z=>by
       have e:List.length (J++y'::L)=List.length (J++y::L):=F3;rw[e];exact gN y L z
      apply pK c1;simp only[go_sem,U,P,sN,sB,t,C,I,O];apply pK c2;simp only[go_sem,U,P,sN,sB,t,C,I,O];apply pK c3;cases hns:Mo x.step with
      |false =>
       simp only[go_sem,U,P,sN,sB,t,C,I,O,gw];exact⟨(({ v with family:=MS x.step.kind,widths:=Jl l x.step.key },f),none,L++[some (x.step.cf none)]),by rw[vWs,vW,iN (by simp[g,hv]),iN (by rw[hns];simp)],rfl,rfl⟩
      | true =>
       cases f with
       |true =>
        simp only[go_sem,U,P,sN,sB,t,C,I,O,gw,Ax];exact⟨(({ v with family:=MS x.step.kind,widths:=Jl l x.step.key },true),none,L++[some (x.step.cf none)]),by rw[vWs,vW,iN (by simp[g,hv]),iN F3],rfl,rfl⟩
       |false =>
        simp only[go_sem,U,P,sN,sB,t,C,I,O,gw,Ay];exact⟨(({ v with family:=MS x.step.kind,widths:=Jl l x.step.key,n:=x.step.n,m:=x.step.m },true),none,L++[some (x.step.cf none)]),by rw[vWs,vW,iN (by simp[g,hv]),iP ⟨hns,rfl⟩],rfl,rfl⟩
     ·have hvd:decide (x.step.var=R)=false:=decide_eq_false hv;simp only[go_sem,g0,g1,F9 V,el,U,gN,sN,z0,GN hx,h0,h1,eo,Fk,hvd,gw,Ay];exact⟨((v,f),w2,L++[some (x.step.cf none)]),by rw[vWs,vW,iP (.inr hv)],rfl,rfl⟩
   ·rintro ⟨⟨v,f⟩,w2,L⟩ _ hF3;dsimp only at hF3 ⊢;have hvo:Wc l p R=v:=by unfold Wc;rw[hF3];rfl
    simp only[go_sem,AR,dF,el,U,hw];have hkl:=(AD.1 hx).1;exact⟨Fj,Fj,(out++[v],_),by rw[hvo];simp,IG,rfl,rfl⟩
  ·rintro ⟨out,J⟩ hI2 T;dsimp only at hI2 T ⊢;have he:OT l p=out:=by unfold OT;rw[ho];simpa using T
   rw[he];simp only[go_sem,AR,dF,eo]
def AHG{l:List Fld}(j:Is l)(i:List ByteArray): ∀ w∈Jl l i,w<9223372036854775807:=by
 intro w o;obtain⟨y,_,rfl⟩:=AN.1 o;cases g:(Ft l y).2 with
 |true =>
  have:=Im j g;unfold HP at this;omega
 | false =>
  unfold Ft at g ⊢;split at g
  ·cases g
  ·rename_i p;rw[iN p];split at g
   ·cases g
   ·rename_i r;exact(by decide:Fld.z.width<9223372036854775807)
def br{l:List Fld}{g:ByteArray}: ∀ (r:List FW) {a:Fa×Bool},a.1.name=g->(a.1.widths=[] \/ ∃ x:FW,x.step.kind≠0/\x.step.var=g/\a.1.widths=Jl l x.step.key) ->
  (vWs l g a r).1.name=g/\((vWs l g a r).1.widths=a.1.widths/\(∀x∈r,x.step.kind=0\/x.step.var≠g) \/ ∃x∈r,x.step.kind≠0/\x.step.var=g/\(vWs l g a r).1.widths=Jl l x.step.key)
 |[],a,o,_=>⟨o,.inl ⟨rfl,F3⟩⟩
 | x::r,a,o,R=>by
  rw[vWs];by_cases j:x.step.kind=0\/x.step.var≠g
  ·have e:vW l g a x.step=a:=by unfold vW;rw[iP j]
   rw[e];obtain⟨p,i⟩:=br r o R;refine⟨p, ?_⟩;rcases i with⟨i,J⟩|⟨y,t,i⟩
   ·exact .inl ⟨i,λz C=>by rcases AY.1 C with rfl|C;exact j;exact J z C⟩
   ·exact .inr ⟨y,BX _ t,i⟩
  ·have O:x.step.kind≠0:=λh=>j (.inl h);have P:x.step.var=g:=by
    by_cases h:x.step.var=g
    ·exact h
    ·exact absurd (.inr h) j
   have I:(vW l g a x.step).1.name=g/\(vW l g a x.step).1.widths=Jl l x.step.key:=by
    unfold vW;rw[iN j];split<;>exact⟨o,rfl⟩
   obtain⟨p,i⟩:=br r I.1 (.inr ⟨x,O,P,I.2⟩);refine⟨p,.inr ?_⟩;rcases i with⟨i,J⟩|⟨y,t,i⟩
   ·exact⟨x,Bh ..,O,P,by rw[i,I.2]⟩
   ·exact⟨y,BX _ t,i⟩
def aH(l:List Fld)(p:List FW)(g:ByteArray):(Wc l p g).name=g/\((Wc l p g).widths=[]/\(∀x∈p,x.step.kind=0\/x.step.var≠g) \/ ∃x∈p,x.step.kind≠0/\x.step.var=g/\(Wc l p g).widths=Jl l x.step.key) :=
 br p (a:=(⟨g,0,[],0,0⟩,false)) rfl (.inl rfl)
def AB7{l:List Fld}(i:Is l){p:List FW}: ∀v∈OT l p,∀w∈v.widths,w<9223372036854775807:=by
 intro v j w g;obtain⟨o,_,rfl⟩:=AN.1 j;rcases(aH l p o).2 with⟨h,_⟩|⟨x,_,_,_,h⟩
 ·rw[h]at g;cases g
 ·rw[h]at g;exact AHG i _ w g
def XD : ∀ (p:List FW) (o:List ByteArray),(NN o p).length<4^p.length*(o.length+1)
 |[],o=>by simp[NN]
 | x::p,o=>by
  rw[NN];have g:=XD p (if x.step.kind=0 then o else T1 o x.step.var);have i:(if x.step.kind=0 then o else T1 o x.step.var).length+1<=4*(o.length+1):=by
   split
   ·omega
   ·have:=Rr x.step.var o false;unfold T1;omega
  have h3:4^(x::p).length=4^p.length*4:=by rw[AC,DV]
  rw[h3,Nat.mul_assoc];exact BV g (Nat.mul_le_mul_left _ i)
def kP:Hint:={ h50 with pc:=[11,21] }
@[go_sem] def AkX(k:Nat):kP.lv k=h50.lv k/\kP.ct k=h50.ct k/\kP.at k=h50.at k/\kP.dn k=h50.dn k:=⟨AH rfl rfl,AH rfl rfl,AH rfl rfl,AH rfl rfl⟩
@[go_sem] def AlJ:kP.tk=[19,20,22]/\kP.mt=[]/\kP.pc=[11,21]:=⟨rfl,rfl,rfl⟩
def ALo:FK AA 50 f50 kP:=⟨kr,kr,func50,kr⟩
def stQ(l:List Fld)(p:List FW)(st:List FX):Prop:=RZ l p=0/\st.length<=250/\(∀e∈st,∃v∈OT l p,v.name=e.var/\qX v e)/\Aae st
def vE(l:List Fld)(P:okF l)(o:Is l)(p:List FW)(R:Fo (GV p)<=1048576)(st:List FX)(t:st.length<=1073741824)(T:∀e∈st,e.key.length<=1073741824):K9 AA 50 [.sl none (Gf l),.sl none (GV p),.sl none (Fs st)] λr => ∃b,r = .bool b/\(b=true->stQ l p st):=by
 have U:=AKM l p P (AJ R dc);have V:(Fs st).length=st.length:=HK st;refine qC ALo rfl ?_;simp only[f50,go_sem];apply pK U;by_cases g:RZ l p=0
 ·have C:(RZ l p !=0)=false:=by simp[g]
  have i:=(uA g).1;have j:∀x∈p,x.step.key.length<=1048576:=λx hx=>by
   have I:=uA g;have:=(jP (I.2.2.1 x hx).2).klen;exact this
  have c2:=AFW l p i j;have J:(OT l p).length<=1073741824:=by
   have I:=XD p [];have h2:4^p.length<=4^8:=BO dc i;have h3:(OT l p).length=(NN [] p).length:=by unfold OT;rw[Ap]
   have h4:(4:Nat)^8=65536:=dc;rw[AG,AX,Nat.mul_one]at I;omega
  have q3:=vF (OT l p) J (AB7 o) st t T;simp only[go_sem,C,V];refine cS ?_ ?_<;>intro O
  ·simp only[go_sem];exact⟨rfl,false,rfl,λh=>by cases h⟩
  ·have O:=of_decide_eq_false O;simp only[go_sem];apply pK c2;simp only[go_sem];refine L0 q3 λr hr=>?_;obtain⟨n,rfl,hn⟩:=hr;simp only[go_sem];exact⟨rfl,_,rfl,λh=>⟨g,Fj,hn (by simpa using h)⟩⟩
 ·have C:(RZ l p !=0)=true:=by simp[g]
  simp only[go_sem,C];exact⟨rfl,false,rfl,λh=>by cases h⟩
def VM:Hint:={ h18 with pc:=[] }
@[go_sem] def AdM(k:Nat):VM.lv k=h18.lv k/\VM.ct k=h18.ct k/\VM.at k=h18.at k/\VM.dn k=h18.dn k:=⟨AH rfl rfl,AH rfl rfl,AH rfl rfl,AH rfl rfl⟩
@[go_sem] def AkW:VM.tk=[]/\VM.mt=[]/\VM.pc=[]:=⟨rfl,rfl,rfl⟩
def AIC:FK AA 18 f18 VM:=⟨kr,kr,func18,kr⟩
def AK'(s:FR)(g:List (List FX)):Prop:=g.length=s.tenants.length /\ ∀(k:Nat) (t:FT) (st:List FX),s.tenants[k]? =some t->g[k]? =some st->stQ s.fields t.program st/\st.length<=60
def ACs(s:FR)(hl:okF s.fields)(I:Is s.fields)(hb:Fo s.c<=1048576)(g:List (List FX))(hsl:g.length<=1073741824)(J : ∀ st∈g,st.length<=1073741824 /\ ∀ e∈st,e.key.length<=1073741824):K9 AA 18 [.agg s.c,.sl none (Gp g)] λr => ∃ b,r = .bool b/\(b=true->AK' s g):=by
 have p:(Gp g).length=g.length:=Ns g;refine qC AIC rfl ?_;by_cases hn:g.length=s.tenants.length
 ·have O:((g.length:Int) !=(s.tenants.length:Int))=false:=by simp[hn]
  simp only[f18,go_sem,p,O];refine F6 g (λ(_:Unit) _=>()) (λk _ => ∀(i:Nat) (t:FT) (st:List FX),i<k->s.tenants[i]? =some t->g[i]? =some st->stQ s.fields t.program st/\st.length<=60) (λk _=>[(1,.sl none (Gp g)),(2,.ptr 0 0),(5,.int .i64 k)]) (λ_ _=>[some s.c]) () Fj (λi t st hi=>absurd hi (Nat.not_lt_zero i)) rfl rfl ?_ ?_
  ·intro k _ st xs hd hx P _ h0 j hw;have hkl:=(AD.1 hx).1;obtain⟨t,R⟩:∃t,s.tenants[k]? =some t:=⟨_,AL Fj⟩;have T:(k:Int)<(s.tenants.length:Int):=Fj;have U:Fo t.c<=1048576:=by
    have j:=Oj (IZ hb) (AB R);simpa only[AV.bulk]using j
   have hm:=J st (AB hx);have q1:=vE s.fields hl I t.program (HV U) st hm.1 hm.2;simp only[go_sem,h0,j,p,J9 hx,F7 R,T];refine L0 q1 λr hr=>?_;obtain⟨b,rfl,V⟩:=hr;cases b with
   |false =>
    simp only[go_sem,Ay];exact⟨rfl,false,rfl,λh=>by cases h⟩
   | true =>
    have V:=V rfl;have es:(Fs st).length=st.length:=HK st;simp only[go_sem,Ax,h0,j,p,es,J9 hx];refine cS ?_ ?_<;>intro hc
    ·simp only[go_sem];exact⟨rfl,false,rfl,λh=>by cases h⟩
    ·have hc:=of_decide_eq_false hc;simp only[go_sem,hw];refine⟨(),λi t2 st2 hi o h3=>?_⟩;rcases Nat.lt_or_ge i k with C|C
     ·exact P i t2 st2 C o h3
     ·have:i=k:=Fj;subst this;rw[R]at o;rw[hx]at h3;cases o;cases h3;exact⟨V,Fj⟩
  ·intro _ P _;simp only[go_sem,AR,dF,p];exact⟨rfl,true,rfl,λ_=>⟨hn,λk t st j o=>P k t st (AD.1 o).1 j o⟩⟩
 ·have O:((g.length:Int) !=(s.tenants.length:Int))=true:=by
   rw[bne_iff_ne];omega
  simp only[f18,go_sem,p,O];exact⟨rfl,false,rfl,λh=>by cases h⟩
def ADf{s:FR}(hR:R19 s){j:List (List FX)}(h:AK' s j)(O:∀st∈j,∀e∈st,e.key.length<=1048576):okSts s j:=by
 refine⟨h.1,λk t st P r=>?_⟩;obtain⟨⟨R,_,T,_⟩,U⟩:=h.2 k t st P r;have V:=(jR R).1;refine⟨λe C=>?_,U⟩;obtain⟨v,hv,hn,f1,f2,f3,f4⟩:=T e C;refine⟨⟨f2,f3,O st (AB r) e C,f4⟩,λx hx I i=>?_⟩;obtain⟨J,_,rfl⟩:=AN.1 hv;obtain⟨g1,p⟩:=aH s.fields t.program J;have o:J=e.var:=by rw[<- g1];exact hn
 rcases p with⟨_,p⟩|⟨y,hy,g3,g4,g5⟩
 ·rcases p x hx with g|g
  ·exact absurd g I
  ·exact absurd (by rw[<- i,o]) g
 ·have hw:(Jl s.fields y.step.key).length=y.step.key.length:=by simp[Jl]
  rw[f1,g5,hw];exact V.key y hy x hx g3 I (by rw[g4,o,i])
def N1(l:List FZ):List AV:=l.map λx => .agg x.c
@[go_sem] def S2(l:List FZ):(N1 l).length=l.length:=by simp[N1]
def J_{l:List FZ}{i:Nat}{x:FZ}(h:l[i]? =some x):(N1 l)[i]? =some (.agg x.c):=by simp[N1,h]
@[go_sem] def AbT(l:List FZ):Fq (N1 l)=true:=by
 induction l with
 |nil=>rfl
 |cons x i g=>simpa [N1,Fq,AV.pure]using⟨Y3 x,g⟩
def hRt:Hint:={ h4 with pc:=[10,25] }
@[go_sem] def AlA(k:Nat):hRt.lv k=h4.lv k/\hRt.ct k=h4.ct k/\hRt.at k=h4.at k/\hRt.dn k=h4.dn k:=⟨AH rfl rfl,AH rfl rfl,AH rfl rfl,AH rfl rfl⟩
@[go_sem] def Al_:hRt.tk=[14,18]/\hRt.mt=[]/\hRt.pc=[10,25]:=⟨rfl,rfl,rfl⟩
def AdP:FK AA 4 f4 hRt:=⟨kr,kr,func4,kr⟩
def ALD(s:FR)(g:List (List FX))(l:List FZ):Prop:=Kk s=true/\AK' s g /\ ∀a∈l,Zb a=true
def AHS(s:FR)(O:Fo s.c<=1048576)(g:List (List FX))(p:g.length<=1073741824)(t : ∀ st∈g,st.length<=1073741824 /\ ∀ e∈st,e.key.length<=1073741824)(l:List FZ)(hl:l.length<=1073741824):K9 AA 4 [.agg s.c,.sl none (Gp g),.sl none (N1 l)] λr => ∃ b,r = .bool b/\(b=true->ALD s g l):=by
 have R:(N1 l).length=l.length:=S2 l;have T:=AAo s O;refine qC AdP rfl ?_;simp only[f4,go_sem];apply pK T;cases i:Kk s with
 |false =>
  simp only[go_sem,i,Ay];exact⟨rfl,false,rfl,λh=>by cases h⟩
 | true =>
  have P:=aR i;have U:=ACs s (λf V=>Int.le_trans (bU P.fld0 f V) dc) P.fld O g p t;simp only[go_sem,i,Ax];refine L0 U λr hr=>?_;obtain⟨b,rfl,C⟩:=hr;cases b with
  |false =>
   simp only[go_sem,Ay];exact⟨rfl,false,rfl,λh=>by cases h⟩
  | true =>
   have C:=C rfl;simp only[go_sem,Ax,R];refine F6 l (λ(_:Fl) _=>()) (λk _ => ∀a∈l.take k,Zb a=true) (λk _=>[(18,.sl none (N1 l)),(19,.int .i64 l.length),(20,.int .i64 k)]) (λ_ L=>some s.c::L) [] Fj F3 rfl rfl ?_ ?_
   ·intro k L x xs hd hx o _ h0 i hw;have gN:∀a (L:Fl) z,(a::(L++[z]))[List.length (a::L)]? =some z:=λa L z=>by
     have:a::(L++[z])=(a::L)++[z]:=F3;rw[this];exact BT
    have sN:∀a (L:Fl) z I,(a::(L++[z])).set (List.length (a::L)) I=a::(L++[I]):=λa L z I=>by
     have:a::(L++[z])=(a::L)++[z]:=F3;rw[this];simp
    have c2:=AAw x;have J:l.take (k+1)=l.take k++[x]:=by rw[BF,hx];rfl
    simp only[go_sem,h0,i,J_ hx,gN,sN];apply pK c2;cases ha:Zb x with
    |false =>
     simp only[go_sem,Ay];exact⟨rfl,false,rfl,λh=>by cases h⟩
    |true =>
     simp only[go_sem,Ax,hw];refine⟨_,λy j=>?_,rfl,rfl⟩;rw[J]at j;rcases Ar.1 j with j|j
     ·exact o y j
     ·rcases Ag.1 j with rfl;exact ha
   ·intro L o _;simp only[go_sem,AR,dF];rw[BL]at o;exact⟨rfl,true,rfl,λ_=>⟨i,C,o⟩⟩
def tZ{l:List Fld}{i:Int}{x:Policy}: ∀ (o:List FU) {j r:List FU},j.length<=256->ka l i x j o=some r->r.length<=256
 |[],j,r,p,e=>by
  rw[ka]at e;cases e;exact p
 | g::o,j,r,p,e=>by
  rw[ka]at e;cases t:vO l i x g with
  |none=>rw[t]at e;cases e
  | some y =>
   rw[t]at e;by_cases N6:256<(j++y).length
   ·simp only[iP N6]at e;cases e
   ·simp only[iN N6]at e;exact tZ o Fj e
def tw(l:List Fld)(s:Stp)(i:Int): ∀(j:List FU) (a:List FU×List FX),(gX l s i a j).1.length<=a.1.length+j.length
 |[],a=>AS _
 |g::j,a=>by
  rw[gX,AC];refine AJ (tw l s i j _) ?_;dsimp only;split
  ·rw[AE,BQ];omega
  ·omega
def iL{l:List Fld}{g:Int}: ∀(r:List FW) {a b:List FU×List FX},a.1.length<=256->Ml l g a r=some b->b.1.length<=256
 |[],a,b,h,e=>by
  rw[Ml]at e;cases e;exact h
 | s::r,a,b,h,e=>by
  rw[Ml]at e;cases i:ka l g s.policy [] a.1 with
  |none=>rw[i]at e;cases e
  |some j =>
   rw[i]at e;dsimp only at e;have p:=tZ a.1 F3 i;have o:=tw l s.step g j ([],a.2);rw[AG]at o;exact iL r Fj e
def AHX(s:FR)(x:FV)(t:FT)(g:Int)(a:List FV×List FY)(p:FU):(Vc s x t g a p).2.length<=a.2.length+1:=by
 unfold Vc;split
 ·exact C5 _
 ·split
  ·rw[AE];exact AS _
  ·split<;>exact C5 _
def s9(s:FR)(x:FV)(t:FT)(g:Int): ∀(r:List FU) (a:List FV×List FY),(Q8 s x t g a r).2.length<=a.2.length+r.length
 |[],a=>AS _
 |p::r,a=>by
  rw[Q8,AC];have i:=s9 s x t g r (Vc s x t g a p);have j:=AHX s x t g a p;omega
def uK{s:FR}{g:Int}: ∀ (f n:Nat) {q:List FV} {i:List (List FX)} {out:List FY} {r:List FY×List (List FX)},TM s g f n q i out=some r->r.1.length<=out.length+f*256
 | 0,n,q,i,out,r,e=>by rw[TM]at e;cases e
 | f+1,n,q,i,out,r,e=>by
  rw[TM]at e;cases hx:q[n]? with
  |none =>
   rw[hx]at e;cases e;exact Eb _ _
  | some x =>
   rw[hx]at e;dsimp only at e;cases o:s.tenants[x.tenant.toNat]? with
   |none=>rw[o]at e;cases e
   | some t =>
    rw[o]at e;cases p:i[x.tenant.toNat]? with
    |none=>rw[p]at e;cases e
    | some st =>
     rw[p]at e;dsimp only at e;cases j:Nl s.fields (Gc t).1 st x.head g with
     |none=>rw[j]at e;cases e
     | some b =>
      rw[j]at e;dsimp only at e;have I:=iL (Gc t).1 F3 j;have C:=s9 s x t g b.1 (q,out);split at e
      ·cases e
      ·have:=uK f (n+1) e;dsimp only at C;omega
def Xs{h:FU}: ∀{l:List FT} {k:Nat},(∀t∈l,(PR t h).2=false)->L_ h k l=[]
 |[],_,_=>rfl
 |t::l,k,g=>by
  rw[L_,iN (by rw[g t (Bh ..)];decide)];exact Xs λu i=>g u (BX _ i)
def tl{h:FU}: ∀{l:List FT} {k j:Nat} {t:FT},l[j]? =some t->(PR t h).2=true->(∀i u,l[i]? =some u->(PR u h).2=true->i=j)->L_ h k l=[⟨((k+j:Nat):Int),(PR t h).1,[]⟩]
 |[],_,j,_,g,_,_=>by simp at g
 | u::l,k,0,t,g,p,o=>by
  have:u=t:=by simpa using g
  subst this;rw[L_,iP p,Xs λv C=>?_]
  ·rfl
  ·obtain⟨i,r⟩:=Ab C;cases e:(PR v h).2 with
   |false=>rfl
   |true=>exact absurd (o (i+1) v (by simpa using r) e) Fj
 | u::l,k,j+1,t,g,p,o=>by
  have I:(PR u h).2=false:=by
   cases e:(PR u h).2 with
   |false=>rfl
   |true=>exact absurd (o 0 u rfl e) Fj
  rw[L_,iN (by rw[I];decide),tl (k:=k+1) (j:=j) (by simpa using g) p λi v r e=>by have:=o (i+1) v (by simpa using r) e;omega];rw[show k+1+j=k+(j+1) by omega]
def lK{s:FR}(o:R19 s){h:FU}{a:Nat}{t:FT}(g:s.tenants[a]? =some t)(j:(PR t h).2=true):L_ h 0 s.tenants=[⟨(a:Int),(PR t h).1,[]⟩]:=by
 have:=tl (k:=0) g j λi u p e=>aj o p g (Mz.1 e) (Mz.1 j)
 rwa [AX]at this
def Ir(s:FR)(g:List (List FX))(a:FZ):(Int×List FY)×List (List FX):=match J0 s g a.head a.tick with
 |none=>((2,[]),g)
 |some o=>((0,o.1),o.2)
def vH{s:FR}(g : ∀ c∈s.contracts,0<=c.toPort/\c.toPort<=65535){x:FV}{t:FT}{i:Int}{a:List FV×List FY}{p:FU}(h : ∀ y∈a.1,Fr y.head=true)(o:Fr p=true): ∀ y∈(Vc s x t i a p).1,Fr y.head=true:=by
 unfold Vc;split
 ·exact h
 ·split
  ·exact h
  ·split
   ·exact h
   ·rename_i d r;intro y j;rcases Ar.1 j with j|j
    ·exact h y j
    ·rcases Ag.1 j with rfl;have:=g d (AB r);exact Pj o this.1 this.2
def ah{s:FR}(g:∀c∈s.contracts,0<=c.toPort/\c.toPort<=65535){x:FV}{t:FT}{i:Int}: ∀(r:List FU) {a:List FV×List FY},(∀y∈a.1,Fr y.head=true)->(∀p∈r,Fr p=true) -> ∀y∈(Q8 s x t i a r).1,Fr y.head=true
 |[],_,h,_=>h
 |p::r,a,h,j=>by
  rw[Q8];exact ah g r (vH g h (j p (Bh ..))) λz o=>j z (BX _ o)
def AFd{s:FR}{C:List (List FX)}{h0:FU}{i:Int}(V:R19 s)(R:okRun s C h0 i){B:Nat}(hB:B<=1073741823): ∀ (f n:Nat) {q:List FV} {g:List (List FX)} {out:List FY} {r:List FY×List (List FX)},(∀ y∈q,Fr y.head=true)->(∀ (k:Nat) (t:FT) (st:List FX),s.tenants[k]? =some t->g[k]? =some st->Nq (Gc t).1 st/\st.length+f*2048<=B)->TM s i f n q g out=some r ->
  r.2.length=g.length /\ ∀(k:Nat) (t:FT) (st:List FX),s.tenants[k]? =some t->r.2[k]? =some st->Nq (Gc t).1 st/\st.length<=B
 | 0,n,q,g,out,r,_,_,e=>by rw[TM]at e;cases e
 | f+1,n,q,g,out,r,h1,I,e=>by
  rw[TM]at e;cases hx:q[n]? with
  |none =>
   rw[hx]at e;cases e;exact⟨rfl,λk t st j o=>⟨(I k t st j o).1,by have:=(I k t st j o).2;omega⟩⟩
  | some x =>
   rw[hx]at e;dsimp only at e;have J:=h1 x (AB hx);cases j:s.tenants[x.tenant.toNat]? with
   |none=>rw[j]at e;cases e
   | some t =>
    rw[j]at e;cases o:g[x.tenant.toNat]? with
    |none=>rw[o]at e;cases e
    | some st =>
     rw[o]at e;dsimp only at e;cases O:Nl s.fields (Gc t).1 st x.head i with
     |none=>rw[O]at e;cases e
     | some b =>
      rw[O]at e;dsimp only at e;obtain⟨s1,s2⟩:=I _ t st j o;obtain⟨w1,w2,_⟩:=MY V j;have P:s.fields.length<=1073741824:=by have:=S0 (JI R.bulk);omega
      obtain⟨r1,_,r3,r4⟩:=Wp R.fld P w1 R.tick s1 Fj J O;split at e
      ·cases e
      ·obtain⟨i1,i2⟩:=AFd V R hB f (n+1) (ah R.port b.1 h1 r1) (λk t2 T U p=>by
        rw[List.getElem?_set]at p;split at p
        ·rename_i hk;subst hk;rw[j]at U;cases U;split at p
         ·cases p;exact⟨r3,Fj⟩
         ·cases p
        ·have:=I k t2 T U p;exact⟨this.1,by have:=this.2;omega⟩) e
       rw[List.length_set]at i1;exact⟨i1,i2⟩
def Lq(s:FR)(g:List (List FX))(N:Nat):Prop:=g.length=s.tenants.length /\ ∀(k:Nat) (t:FT) (st:List FX),s.tenants[k]? =some t->g[k]? =some st->Nq (Gc t).1 st/\st.length<=N
def Lq.mono{s:FR}{g:List (List FX)}{N M:Nat}(h:Lq s g N)(hm:N<=M):Lq s g M:=⟨h.1,λk t st i j=>⟨(h.2 k t st i j).1,AJ (h.2 k t st i j).2 hm⟩⟩
def Lq.keys{s:FR}{g:List (List FX)}{N:Nat}(h:Lq s g N): ∀st∈g,st.length<=N /\ ∀e∈st,e.key.length<=1048576:=by
 intro st hm;obtain⟨k,i⟩:=Ab hm;have j:=(AD.1 i).1;have o:s.tenants[k]? =some (s.tenants[k]'(by rw[<- h.1];exact j)):=AL _;obtain⟨p,r⟩:=h.2 k _ st o i;exact⟨r,λe t=>(p e t).1.2.2.1⟩
def okSts.n{s:FR}(I:R19 s){g:List (List FX)}(o:okSts s g):Lq s g 60 :=
 ⟨o.len,λk t st p J=>by
  obtain⟨r,O⟩:=o.st k t st p J;refine⟨λe C=>⟨(r e C).1,λx hx=>?_⟩,O⟩;have i:=(MY I p).2.2.1;have:x.step∈t.program.map (·.step):=by rw[<- i];exact AN.2 ⟨x,hx,rfl⟩
  obtain⟨y,P,j⟩:=AN.1 this;rw[<- j];exact(r e C).2 y P⟩
def AIy{s:FR}{i:List (List FX)}{h:FU}{g:Int}(C:R19 s)(R:okRun s i h g){N:Nat}(I:N+1228800<=1073741823)(p:Lq s i N){r:List FY×List (List FX)}(e:J0 s i h g=some r):Lq s r.2 (N+1228800):=by
 obtain⟨J,O⟩:=AFd C R I 600 0 (λy P=>by
  obtain⟨j,t,o,_,_,h4,h5⟩:=Xt P;rw[h5];exact R.ent t (AB o) h4) (λk t st o T=>by
  have:=p.2 k t st o T;exact⟨this.1,Fj⟩) e
 exact⟨by rw[J,p.1],O⟩
def UF{s:FR}(r:R19 s)(C:Id s=true)(I:Fo s.c<=1048576){i:List (List FX)}{N:Nat}(p:Lq s i N)(J:N<=268435456){h:FU}(O:Fr h=true){g:Int}(P:0<=g/\g<=1073741824):okRun s i h g:=by
 have T:okSts s (s.tenants.map λ_=>[]):=⟨F3,λk t st o j=>by
  have:st=[]:=by
   rw[List.getElem?_map,o]at j;simpa using j.symm
  subst this;exact⟨F3,F3⟩⟩
 have R:=jQ r C I T O P;exact⟨R.bulk,R.fld,R.ten,R.tick,p.1,R.prg,R.whole,λk t st o j=>⟨(p.2 k t st o j).1,AJ (p.2 k t st o j).2 J⟩,R.pred,R.to,R.port,R.prt,R.ent⟩
def WB{s:FR}(j:R19 s)(p:Id s=true)(r:Fo s.c<=1048576){g:List (List FX)}{N:Nat}(i:Lq s g N)(t:N<=268435456){a:FZ}(C:Fr a.head=true)(I:0<=a.tick/\a.tick<=1073741824):Lq s (Ir s g a).2 (N+1228800):=by
 have R:=UF j p r i t C I;unfold Ir;cases e:J0 s g a.head a.tick with
 |none=>exact i.mono Fj
 |some o=>exact AIy j R Fj i e
def ic{s:FR}(i:R19 s): ∀{c:List Int} {a k:Nat},a<s.tenants.length->ZA s a c k->c.length+rnk s k<=rnk s a
 |[],a,k,_,h=>by
  have:a=k:=h;subst this;simp
 |x::c,a,k,j,h=>by
  obtain⟨d,_,o,p,r⟩:=h;have g:=AB o;have t:=i.rank j g p;have C:=ic i (dV i g) r;rw[AC];omega
def rG{s:FR}(o:R19 s){i:List (List FX)}{h:FU}{g:Int}{r:List FY×List (List FX)}(e:J0 s i h g=some r): ∀d∈r.1,d.chain.length<=s.tenants.length:=by
 rcases lJ (h:=h) (l:=s.tenants) (k:=0)with⟨_,C,_⟩|⟨x,t,hx,_,I⟩
 ·rw[bZ C]at e;cases e;intro d j;cases j
 ·intro d j;obtain⟨k,t2,p,_,O,_,_,J⟩:=(AAx o hx I e).1 d j;have P:=ic o (AD.1 hx).1 J;have R:=ALC (s:=s) x;omega
def Ip(s:FR):List (List FX)->List FZ->List (Int×List FY)×List (List FX)
 |g,[]=>([],g)
 |g,a::r=>((Ir s g a).1::(Ip s (Ir s g a).2 r).1,(Ip s (Ir s g a).2 r).2)
def bY(l:List FY)(J:l.length<=1073741824)(o:∀d∈l,d.chain.length<=1073741824):Fm AA 8 [.sl none (F5 l),.sl none (F5 l)] (.bool true):=by
 have g:(F5 l).length=l.length:=Lg l;have p:((l.length:Int) !=(l.length:Int))=false:=F3;refine pC Alf rfl ?_;simp only[f8,go_sem,g,p];refine F6 l (λ(_:Unit) _=>()) (λ_ _=>True) (λk _=>[(0,.sl none (F5 l)),(1,.sl none (F5 l)),(5,.int .i64 k)]) (λ_ _=>[]) () Fj trivial rfl rfl ?_ ?_
 ·intro k _ x O P hx _ _ i j r;have t:=rE x.chain x.chain true F3 (o x (AB hx));have C:(x.tenant !=x.tenant)=false:=F3;have I:(x.head !=x.head)=false:=F3;simp only[go_sem,i,j,RW hx,g];apply pK t;simp only[go_sem,i,j,RW hx,g,C,I,r,Ax];exact⟨(),trivial⟩
 ·intro _ _ _;simp only[go_sem,AR,dF,g]
def bR{a b:ByteArray}(h:PT a b=0):a=b:=by
 unfold PT at h;split at h
 ·cases h
 ·split at h
  ·assumption
  ·cases h
def AAU{a b:Int}(h:OE a b=0):a=b:=by
 unfold OE at h;split at h
 ·cases h
 ·split at h<;>first|omega|cases h
def Qx:∀{a b:List Int},Kg a b=0->a=b
 |[],[],_=>rfl
 |[],_::_,h=>by rw[Kg]at h;cases h
 |_::_,[],h=>by rw[Kg]at h;cases h
 | x::a,y::b,h=>by
  rw[Kg]at h;by_cases g:OE x y=0
  ·rw[iN (by simpa using g)]at h;rw[AAU g,Qx h]
  ·rw[iP g]at h;exact absurd h g
def AAV{a b:FX}(h:G_ a b=0):a.var=b.var/\a.key=b.key:=by
 unfold G_ at h;by_cases g:PT a.var b.var=0
 ·rw[iN (by simpa using g)]at h;exact⟨bR g,Qx h⟩
 ·rw[iP g]at h;exact absurd h g
def ADn(a b:ByteArray):PB a b=true↔a.toList<b.toList:=by unfold PB;rw[Go.Proofs.bytesLess_eq,decide_eq_true_eq]
def AHx{a b:ByteArray}(h:PB a b=true):PB b a=false:=by
 cases e:PB b a with
 |false=>rfl
 |true=>have:=cc h e;rw[Og]at this;cases this
def toList_inj{a b:ByteArray}(h:a.toList=b.toList):a=b:=by
 have:=Fk a b;rw[beq_iff_eq.2 h]at this;simpa using this.symm
def AHw{a b:ByteArray}(g:PB a b=false)(i:PB b a=false):a=b:=by
 have j:¬a.toList<b.toList:=λh=>by rw[(ADn a b).2 h]at g;cases g
 have o:¬b.toList<a.toList:=λh=>by rw[(ADn b a).2 h]at i;cases i
 exact toList_inj (List.le_antisymm (Ec.1 o) (Ec.1 j))
def AFC(a b:ByteArray):PT a b = - PT b a:=by
 unfold PT;cases g:PB a b with
 |true =>
  rw[AHx g,iP rfl,iN dc,iN (λe=>by rw[e,Og]at g;cases g)]
 | false =>
  cases i:PB b a with
  |true=>rw[iN dc,iN (λe=>by rw[e,Og]at i;cases i),iP rfl];rfl
  |false =>
   have:=AHw g i;subst this;simp
def AIf{a b:ByteArray}:PT a b<0↔PB a b=true:=by
 unfold PT;cases g:PB a b with
 |true=>simp
 |false =>
  rw[iN dc];split<;>simp
def de:∀a b:List Int,Kg a b=KR a b
 |[],[]=>by rw[Kg,KR]
 |[],_::_=>by rw[Kg,KR]
 |_::_,[]=>by rw[Kg,KR]
 | x::a,y::b=>by
  rw[Kg,KR,de a b];unfold OE;by_cases g:x<y
  ·rw[iP g,iP g,iP dc]
  ·rw[iN g,iN g];by_cases i:y<x
   ·rw[iP i,iP i,iP dc]
   ·rw[iN i,iN i,iN dc]
def lT{a b:FX}:G_ a b=0↔a.var=b.var/\a.key=b.key :=
 ⟨AAV,λ⟨g,i⟩=>by unfold G_;rw[g,i,bS,iN dc,Qy]⟩
def X7(a b:FX):G_ a b = - G_ b a:=by
 unfold G_;rw[AFC a.var b.var,de,de,X5 a.key b.key];split<;>split<;>omega
def qj{a b c:FX}(h:G_ b c=0):G_ a b=G_ a c:=by
 obtain⟨g,i⟩:=lT.1 h;unfold G_;rw[g,i]
def AIe{a b:FX}:G_ a b<0↔PB a.var b.var=true\/(a.var=b.var/\KR a.key b.key<0):=by
 unfold G_;by_cases g:PT a.var b.var=0
 ·have i:=bR g;rw[iN (by simpa using g),de];rw[i,Og];simp
 ·rw[iP g,AIf];constructor
  ·exact .inl
  ·rintro (h|⟨h,_⟩)
   ·exact h
   ·rw[h,bS]at g;exact absurd rfl g
def Ou{a b c:FX}(g:G_ a b<0)(i:G_ b c<0):G_ a c<0:=by
 rw[AIe]at g i ⊢;rcases g with g|⟨g,j⟩<;>rcases i with i|⟨i,o⟩
 ·exact .inl (cc g i)
 ·exact .inl (by rw[<- i];exact g)
 ·exact .inl (by rw[g];exact i)
 ·exact .inr ⟨g.trans i,SM j o⟩
def KJ(l:List FX):Prop:=l.Pairwise λa b=>G_ a b<0
def so{l:List FX}(h:KJ l){i j:Nat}{x y:FX}(o:l[i]? =some x)(p:l[j]? =some y)(g:i<j):G_ x y<0:=by
 obtain⟨r,rfl⟩:=AD.1 o;obtain⟨t,rfl⟩:=AD.1 p;exact List.pairwise_iff_getElem.1 h i j r t g
def Ui{l:List FX}(C:KJ l)(x:FX): ∀ (f i j:Nat),i<=j->j<=l.length->j - i<f->(∀ (k:Nat) (y:FX),k<i->l[k]? =some y->G_ y x<0)->(∀ (k:Nat) (y:FX),j<=k->l[k]? =some y->0<=G_ y x) ->
  (∀(k:Nat) (y:FX),k<YK l x f i j->l[k]? =some y->G_ y x<0)/\(∀(k:Nat) (y:FX),YK l x f i j<=k->l[k]? =some y->0<=G_ y x)
 | 0,i,j,_,_,P,_,_=>Fj
 | f+1,i,j,U,R,P,J,O=>by
  rw[YK];by_cases r:i<j
  ·rw[iP r];have hm:(i+j) / 2<l.length:=Fj;obtain⟨m,g⟩:∃m,l[(i+j) / 2]? =some m:=⟨_,AL hm⟩;rw[g];dsimp only;split
   ·rename_i t;refine Ui C x f _ _ Fj R Fj (λk y T o=>?_) O;by_cases p:k=(i+j) / 2
    ·subst p;rw[g]at o;cases o;exact t
    ·exact Ou (so C o g Fj) t
   ·rename_i I;refine Ui C x f _ _ Fj Fj  Fj J (λk y T o=>?_);by_cases p:k=(i+j) / 2
    ·subst p;rw[g]at o;cases o;omega
    ·have h3:=so C g o Fj;by_cases h4:G_ y x<0
     ·exact absurd (Ou h3 h4) I
     ·omega
  ·rw[iN r];have:i=j:=Fj;subst this;exact⟨J,O⟩
def AAy{l:List FX}(j:KJ l)(x:FX):(∀y∈l.take (SO l x),G_ y x<0)/\(∀y∈l.drop (SO l x),0<=G_ y x):=by
 obtain⟨o,p⟩:=Ui j x (l.length+1) 0 l.length (BS _) (AS _) Fj (λk y g=>Fj) (λk y g i=>by
  have:=(AD.1 i).1;omega)
 refine⟨λy i=>?_,λy i=>?_⟩
 ·obtain⟨k,g⟩:=Ab i;rw[Ak]at g;split at g
  ·exact o k y (by assumption) g
  ·cases g
 ·obtain⟨k,g⟩:=Ab i;rw[A4]at g;exact p _ y (Eb _ _) g
def Uh{l:List FX}(t:KJ l)(x:FX): ∃ A B,l=A++B/\A.length=SO l x/\(∀ y∈A,G_ y x<0) /\
  ((uM l x=false /\ ∀y∈B,0<G_ y x) \/ ∃z C,B=z::C/\uM l x=true/\G_ z x=0 /\ ∀y∈C,0<G_ y x):=by
 obtain⟨I,o⟩:=AAy t x;have J:=rI l x;refine⟨l.take (SO l x),l.drop (SO l x),(List.take_append_drop _ _).symm,by rw[BB];omega,I, ?_⟩;have O:l[SO l x]? =(l.drop (SO l x))[0]?:=by rw[A4,Nat.add_zero]
 have i:KJ (l.drop (SO l x)):=List.Pairwise.drop t;have p:uM l x=match (l.drop (SO l x))[0]? with|some y=>G_ y x==0|none=>false:=by unfold uM;rw[O];rfl
 generalize l.drop (SO l x)=B at o p i;cases B with
 |nil=>exact .inl ⟨p,F3⟩
 | cons z C =>
  have P:∀y∈C,G_ z y<0:=λy g=>(BM.1 i).1 y g;have j:∀y∈C,0<G_ y x:=λy g=>by
   have T:=P y g;have U:=o z (Bh ..);by_cases V:G_ x y<0
   ·rw[X7];omega
   ·have g4:G_ y x = - G_ x y:=X7 y x;have g5:=o y (BX _ g);have R:G_ y x=0:=Fj;have g7:G_ z y=G_ z x:=qj R;omega
  by_cases r:G_ z x=0
  ·exact .inr ⟨z,C,rfl,by rw[p];simpa using r,r,j⟩
  ·refine .inl ⟨by rw[p];simpa using r,λy g=>?_⟩;rcases AY.1 g with rfl|g
   ·have:=o y (Bh ..);omega
   ·exact j y g
def KM(e:FX):Bool->List FX->List FX
 |d,[]=>if d=true then[]else[e]
 |d,y::r=>(if 0<=G_ y e/\d=false then[e]else[])++(if G_ y e≠0 then[y]else[])++KM e (d||decide (0<=G_ y e)) r
def T2{e:FX}: ∀{A:List FX} (B:List FX),(∀y∈A,G_ y e<0)->KM e false (A++B)=A++KM e false B
 |[],B,_=>rfl
 |y::A,B,h=>by
  have i:=h y (Bh ..);have d0:decide (0<=G_ y e)=false:=decide_eq_false Fj;rw[List.cons_append,KM,iN Fj,iP Fj,d0,Bool.or_false,T2 B λz g=>h z (BX _ g)];rfl
def T3{e:FX}: ∀{C:List FX},(∀y∈C,0<G_ y e)->KM e true C=C
 |[],_=>rfl
 |y::C,h=>by
  have i:=h y (Bh ..);rw[KM,iN F3,iP Fj,Bool.true_or,T3 λz g=>h z (BX _ g)];rfl
def AHW{l:List FX}(t:KJ l)(e:FX):KM e false l=Lp l e:=by
 obtain⟨A,B,j,o,p,g⟩:=Uh t e;unfold Lp UT;rcases g with⟨i,g⟩|⟨z,C,rfl,i,r,g⟩
 ·rw[i,iN dc,<- o];subst j;rw[T2 B p,DI,Cv];congr 1;cases B with
  |nil=>rfl
  |cons y B =>
   have h3:=g y (Bh ..);rw[KM,iP ⟨Fj,rfl⟩,iP Fj,decide_eq_true (by omega:(0:Int)<=G_ y e),BC,T3 λz r=>g z (BX _ r)];rfl
 ·rw[i,iP rfl,<- o];subst j;rw[T2 _ p,KM,iP ⟨Fj,rfl⟩,iN Fj,decide_eq_true (by omega:(0:Int)<=G_ z e),BC,T3 g];simp
def hO{A C:List FX}{e:FX}(o:KJ A)(p:KJ C)(i:∀y∈A,G_ y e<0)(r:∀y∈C,0<G_ y e):KJ (A++e::C):=by
 have h3:∀y∈C,G_ e y<0:=λy t=>by have:=r y t;rw[X7] ; omega
 refine D6.2 ⟨o,BM.2 ⟨h3,p⟩,λa j b g=>?_⟩;rcases AY.1 g with rfl|g
 ·exact i a j
 ·exact Ou (i a j) (h3 b g)
def ACw{l:List FX}(i:KJ l)(e:FX):KJ (Lp l e):=by
 obtain⟨A,B,r,t,I,g⟩:=Uh i e;unfold Lp UT;rcases g with⟨j,g⟩|⟨z,C,rfl,j,J,g⟩
 ·rw[j,iN dc,<- t];subst r;rw[DI,Cv];obtain⟨o,p,_⟩:=D6.1 i;exact hO o p I g
 ·rw[j,iP rfl,<- t];subst r;obtain⟨o,p,_⟩:=D6.1 i;have:(A++z::C).set A.length e=A++e::C:=F3;rw[this];exact hO o (BM.1 p).2 I g
def Vj(v:ByteArray)(g:List Int)(e:FX):Bool:=decide (e.var=v)&&Kg e.key g==0
def AEE(v:ByteArray)(g:List Int)(e:FX):Vj v g e=(G_ e ⟨v,g,0,0⟩==0):=by
 rw[Bool.eq_iff_iff,beq_iff_eq,lT];unfold Vj;rw[AQ,decide_eq_true_eq,beq_iff_eq];exact⟨λ⟨i,j⟩=>⟨i,Qx j⟩,λ⟨i,j⟩=>⟨i,by rw[j,Qy]⟩⟩
def bK{l:List FX}(I:KJ l)(v:ByteArray)(g:List Int):l.find? (Vj v g)=Hj l v g:=by
 obtain⟨A,B,r,J,t,j⟩:=Uh I ⟨v,g,0,0⟩;have O:(Vj v g)=λe=>G_ e ⟨v,g,0,0⟩==0:=funext (AEE v g);unfold Hj;rw[O];have o:A.find? (λe=>G_ e ⟨v,g,0,0⟩==0)=none:=D7.2 λy i=>by
  have:=t y i;simp;omega
 rcases j with⟨p,j⟩|⟨z,C,rfl,p,P,j⟩
 ·rw[p,iN dc];refine D7.2 λy i=>?_;rw[r]at i;rcases Ar.1 i with i|i
  ·have:=t y i;simp;omega
  ·have:=j y i;simp;omega
 ·rw[p,iP rfl,<- J];subst r;rw[List.find?_append,o,List.find?_cons,P];simp
def AH1{a:AV}(h:Rd AA 32 a): ∃l,a = .sl none (Gp l)/\True:=by
 obtain⟨l,g,_,_⟩:=IU (f:=λ(x:List FX)=>AV.sl none (Fs x)) (ok:=λx=>Qo x) (P:=AA) (t:=32) (e:=98) kr (λx hx=>Ls hx) h;exact⟨l,g,trivial⟩
def AH2{l:List (List FX)}{B:Nat}(h:Fo (Gp l)<=B):l.length<=B /\ ∀st∈l,st.length<=B /\ ∀e∈st,e.key.length<=B:=by
 refine⟨AJ (Hr (f:=λ(x:List FX)=>AV.sl none (Fs x)) (λx=>by simp[AV.bulk]) l) h,λst g=>?_⟩;have i:Fo (Fs st)<=B:=Gv (o:=none) (AN.2 ⟨st,g,rfl⟩) h;refine⟨wW i,λe j=>?_⟩;have p:=wX i j;have h3:Fo e.c<=B:=by simpa only[AV.bulk]using p
 exact AH7 (gD h3)
def AH_{a:AV}(h:Rd AA 33 a): ∃l,a = .sl none (N1 l)/\True:=by
 obtain⟨l,g,_,_⟩:=IU (f:=λ(x:FZ)=>AV.agg x.c) (ok:=λx=>x.ok) (P:=AA) (t:=33) (e:=43) kr (λx hx=>Arrival.rd hx) h;exact⟨l,g,trivial⟩
def AH'{l:List FZ}{B:Nat}(h:Fo (N1 l)<=B):l.length<=B :=
 AJ (Hr (f:=λ(x:FZ)=>AV.agg x.c) (λx=>by simpa only[AV.bulk]using nX x) l) h
def jD(x:Int×List FY):Outcome:=⟨x.1,x.2⟩
def PN(l:List (Int×List FY)):List AV:=l.map λx => .agg (jD x).c
@[go_sem] def AD4(l:List (Int×List FY)):(PN l).length=l.length:=by simp[PN]
def jw{l:List (Int×List FY)}{i:Nat}{x:Int×List FY}(h:l[i]? =some x):(PN l)[i]? =some (.agg (jD x).c):=by simp[PN,h]
@[go_sem] def AbR(l:List (Int×List FY)):Fq (PN l)=true:=by
 induction l with
 |nil=>rfl
 |cons x i g=>simpa [PN,Fq,AV.pure]using⟨Yj (jD x),g⟩
def AAs(l:List (Int×List FY))(O:l.length<=1073741824)(p:∀x∈l,x.2.length<=1073741824 /\ ∀d∈x.2,d.chain.length<=1073741824):Fm AA 12 [.sl none (PN l),.sl none (PN l)] (.bool true):=by
 have i:(PN l).length=l.length:=AD4 l;have r:((l.length:Int) !=(l.length:Int))=false:=F3;refine pC AhE rfl ?_;simp only[f12,go_sem,i,r];refine F6 l (λ(_:Unit) _=>()) (λ_ _=>True) (λk _=>[(0,.sl none (PN l)),(1,.sl none (PN l)),(5,.int .i64 k)]) (λ_ _=>[]) () Fj trivial rfl rfl ?_ ?_
 ·intro k _ x P R hx _ _ j o t;have g:=p x (AB hx);have C:=bY x.2 g.1 g.2;have I:((jD x).e !=(jD x).e)=false:=F3;have J:(jD x).l=x.2:=rfl;simp only[go_sem,j,o,jw hx,i,J];apply pK C;simp only[go_sem,j,o,jw hx,i,I,t,Ax];exact⟨(),trivial⟩
 ·intro _ _ _;simp only[go_sem,AR,dF,i]
def qF:Hint:={ gU with pc:=[32],mt:=[13],fz:=[(7,[(6,none,true)])] }
@[go_sem] def AlK(k:Nat):qF.lv k=gU.lv k:=AH rfl rfl
@[go_sem] def AlM(k:Nat):qF.ct k=gU.ct k:=AH rfl rfl
@[go_sem] def AlL(k:Nat):qF.dn k=gU.dn k:=AH rfl rfl
@[go_sem] def AlN:qF.at 0=[]/\qF.at 1=[]/\qF.at 2=[]/\qF.at 3=[]/\qF.at 4=[]/\qF.at 5=[]/\qF.at 6=[]/\qF.at 7=[(6,none,true)]:=⟨rfl,rfl,rfl,rfl,rfl,rfl,rfl,rfl⟩
@[go_sem] def AmB:qF.tk=[14,27,41,42]/\qF.mt=[13]/\qF.pc=[32]:=⟨rfl,rfl,rfl⟩
def AdS:FK AA 10 f10 qF:=⟨kr,kr,func10,kr⟩
def gk{s:FR}(g:R19 s){sts:List (List FX)}{a:FZ}:(Ir s sts a).1.2.length<=153600 /\ ∀d∈(Ir s sts a).1.2,d.chain.length<=s.tenants.length:=by
 unfold Ir;cases e:J0 s sts a.head a.tick with
 |none=>exact⟨F3,F3⟩
 |some o =>
  refine⟨?_,rG g e⟩;have:=uK 600 0 (show TM s a.tick 600 0 (L_ a.head 0 s.tenants) sts []=some o from e);simpa using this
def ae(s:FR): ∀(l:List FZ) (g:List (List FX)),(Ip s g l).1.length=l.length
 |[],_=>rfl
 |a::l,g=>by rw[Ip,AC,AC,ae s l]
def T8{s:FR}(i:R19 s): ∀(l:List FZ) (g:List (List FX)),∀x∈(Ip s g l).1,x.2.length<=153600 /\ ∀d∈x.2,d.chain.length<=s.tenants.length
 |[],_,x,h=>by cases h
 |a::l,g,x,h=>by
  rw[Ip]at h;rcases AY.1 h with rfl|h
  ·exact gk i
  ·exact T8 i l _ x h
def ik{s:FR}(j:R19 s)(o:Id s=true)(p:Fo s.c<=1048576): ∀(l:List FZ) {g:List (List FX)} {N:Nat},Lq s g N->N+l.length*1228800<=268435456->(∀a∈l,Fr a.head=true/\0<=a.tick/\a.tick<=1073741824)->Lq s (Ip s g l).2 (N+l.length*1228800)
 |[],g,N,i,_,_=>by simpa [Ip]using i
 |a::l,g,N,i,C,r=>by
  rw[AC]at C ⊢;have t:=r a (Bh ..);have I:=WB j o p i Fj t.1 t.2;have h3:=ik j o p l I Fj λx hx=>r x (BX _ hx);rw[Ip];exact h3.mono Fj
def KY(x:(Int×List FY)×Option Nat):List AV:=[.int .i64 x.1.1,.sl x.2 (F5 x.1.2)]
def Pr(out:List (Int×List FY))(m:Nat):List ((Int×List FY)×Option Nat):=out.map (λx=>(x,none))++As m ((0,[]),some 12)
def ADg(out:List (Int×List FY))(m:Nat)(x:Int×List FY):splice (splice ((Pr out (m+1)).flatMap KY) (out.length*2+1) [.sl none (F5 x.2)]) (out.length*2) [.int .i64 x.1]=(Pr (out++[x]) m).flatMap KY:=by
 have i:(Pr out (m+1)).flatMap KY=(out.map λx=>(x,none)).flatMap KY++(.int .i64 0 :: .sl (some 12) (F5 [])::(As m (((0:Int),([]:List FY)),some 12)).flatMap KY):=by
  rw[Pr,List.replicate_succ,C9,BA];rfl
 have j:(Pr (out++[x]) m).flatMap KY=(out.map λx=>(x,none)).flatMap KY++(.int .i64 x.1 :: .sl none (F5 x.2)::(As m (((0:Int),([]:List FY)),some 12)).flatMap KY):=by
  rw[Pr,Aq,AF,C9];rfl
 have g:((out.map λx=>((x,none):(Int×List FY)×Option Nat)).flatMap KY).length=out.length*2:=by
  rw[jg (n:=2) (λ_=>rfl),Ap]
 rw[i,j];generalize ((out.map λx=>((x,none):(Int×List FY)×Option Nat)).flatMap KY)=A at g;generalize (As m (((0:Int),([]:List FY)),some 12)).flatMap KY=Z;rw[<- g];have o:splice (A++(.int .i64 0 :: .sl (some 12) (F5 [])::Z)) (A.length+1) [.sl none (F5 x.2)]=A++(.int .i64 0 :: .sl none (F5 x.2)::Z):=by
  unfold splice;rw[C_,Be Fj,Ed,C4 IG];have:A.length+1 - A.length=1:=Fj;rw[this];have:A.length+1+1 - A.length=2:=Fj;simp[this]
 rw[o];unfold splice;rw[C_,Be Fj,Ed,C4 F3];have:A.length+1 - A.length=1:=Fj;simp[this]
def jS(out:List (Int×List FY))(m:Nat):((Pr out m).flatMap KY).length=(out.length+m)*2:=by
 rw[jg (n:=2) (λ_=>rfl),Pr,AE,Ap,List.length_replicate]
def ALR(s:FR)(hR:R19 s)(hf:Id s=true)(hb:Fo s.c<=1048576)(i:List (List FX))(hs:Lq s i 60)(l:List FZ)(hl:l.length<=12)(hr : ∀ a∈l,Fr a.head=true/\0<=a.tick/\a.tick<=1073741824):
  Fm AA 10 [.agg s.c,.sl none (Gp i),.sl none (N1 l)] (.tup [.sl none (PN (Ip s i l).1),.sl none (Gp (Ip s i l).2)]):=by
 have el:(N1 l).length=l.length:=S2 l;refine pB AdS rfl ?_;simp only[f10,go_sem,el];refine⟨Fj,Fj,Fj, ?_⟩;refine F6 l (λ(w:List (Int×List FY)×List (List FX)×Fl) (r:List FZ)=>(w.1++(Ip s w.2.1 r).1,(Ip s w.2.1 r).2)) (λk w=>w.1.length=k/\Lq s w.2.1 (60+k*1228800))
  (λk w=>[(1,.sl none (Gp w.2.1)),(3,.ptr 0 0),(8,.msl 1 0 l.length 2),(14,.sl none (N1 l)),(15,.int .i64 l.length),(16,.int .i64 k)]) (λk w=>some s.c::some ((Pr w.1 (l.length - k)).flatMap KY)::w.2.2) ([],i,[]) Fj ⟨rfl,by simpa using hs⟩ rfl (by rw[Pr,List.map_nil,List.nil_append,List.flatMap_replicate];rfl) ?_ ?_
 ·rintro k ⟨out,g,J⟩ a ar hd hx ⟨C,I⟩ U h0 h1 hw;dsimp only at C I U ⊢;have hkl:=(AD.1 hx).1;have O:=hr a (AB hx);have R:=UF hR hf hb I Fj O.1 O.2;have c1:=ADH s g a.head a.tick O.1 R;have h3:=WB hR hf hb I Fj O.1 O.2;have gN:∀a b (L:Fl) z,(a::b::(L++[z]))[List.length (a::b::L)]? =some z:=λa b L z=>by
   have:a::b::(L++[z])=(a::b::L)++[z]:=F3;rw[this];exact BT
  have sN:∀a b (L:Fl) z V,(a::b::(L++[z])).set (List.length (a::b::L)) V=a::b::(L++[V]):=λa b L z V=>by
   have:a::b::(L++[z])=(a::b::L)++[z]:=F3;rw[this];simp
  simp only[go_sem,h0,h1,J_ hx,gN,sN];have o:=ADg out (l.length - (k+1)) (Ir s g a).1;have hm1:l.length - k=l.length - (k+1)+1:=Fj;have hk0:(0:Int)<=(k:Int):=Fj;have hk1:(k:Int)<(l.length:Int):=Fj;have j:((Pr out (l.length - (k+1)+1)).flatMap KY).length=(out.length+(l.length - (k+1)+1))*2:=jS _ _;have P:k*2+1+1<=((Pr out (l.length - (k+1)+1)).flatMap KY).length:=by rw[j];omega
  have p:k*2+1<=((Pr out (l.length - (k+1)+1)).flatMap KY).length:=by rw[j];omega
  rw[C]at o;have eS:iS g (J0 s g a.head a.tick) = .tup [.sl none (F5 (Ir s g a).1.2),.sl none (Gp (Ir s g a).2),.int .i64 (Ir s g a).1.1]:=by
   unfold Ir;cases J0 s g a.head a.tick<;>rfl
  rw[eS]at c1;rw[hm1];apply pK c1;have hsp:∀(R:List AV) (v:AV),k*2+2<=R.length->(splice R (k*2+1) [v]).length=R.length:=λR v h=>by
   unfold splice;simp;omega
  have T:k*2+1<=(splice ((Pr out (l.length - (k+1)+1)).flatMap KY) (k*2+1) [AV.sl none (F5 (Ir s g a).1.2)]).length:=by
   rw[hsp _ _ Fj];exact p
  simp only[go_sem,hk0,hk1,p,P,T,o,gN,sN,hw];refine⟨(out++[(Ir s g a).1],(Ir s g a).2,J++[some a.c]),by rw[Ip];simp[AF],⟨by rw[AE,BQ];omega, ?_⟩,rfl,rfl⟩;have e1:60+k*1228800+1228800=60+(k+1)*1228800:=by rw[Nat.add_mul];omega
  rw[e1]at h3;exact h3
 ·rintro ⟨out,g,J⟩ ⟨C,I⟩ U;dsimp only at C I U ⊢;have j:l.length*2<=((Pr out (l.length - l.length)).flatMap KY).length:=by rw[jS];omega
  have hch:IX true 2 l.length (((Pr out (l.length - l.length)).flatMap KY).map borrow1)=PN out:=by
   have e1:∀q:List (Int×List FY),((q.map λx=>((x,none):(Int×List FY)×Option Nat)).flatMap KY).map borrow1=q.flatMap λx=>(jD x).c:=λq=>by
    induction q with
    |nil=>rfl
    |cons x q ih=>rw[List.map_cons,BA,Aq,ih];rfl
   rw[AP,Pr,List.replicate_zero,List.append_nil,e1];exact AAc (n:=2) (f:=λx=>(jD x).c) (λ_=>rfl) C.symm
  have t:(Ip s i l).1=out/\(Ip s i l).2=g:=by simpa [Ip]using U
  rw[t.1,t.2];simp only[go_sem,AR,dF,j,if_true,hch]
end Go.AI
