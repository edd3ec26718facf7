/- What the specification of layer 19 checks,in plain Lean. -/
import Derived.Test.YtfohpcndcpadgaaGreatDoorMy
set_option linter.unusedSimpArgs false
set_option linter.unusedVariables false
set_option maxHeartbeats 4000000
open Go.Proofs.Tryz
open Go.AI renaming Setup->FD,Tenant->FE,Contract->FF
open Bool renaming and_eq_true->AQ
open Int renaming lt_irrefl->AR
open List renaming all_cons->Am,all_nil->A3,any_cons->Av,filter_cons->C3,getElem?_append_left->Aa,getElem?_cons_zero->A7,getElem?_eq_getElem->AL,getElem?_eq_some_iff->AD,getElem?_of_mem->Ab,getElem?_set->Az,getElem?_take->Ak,length_cons->AC,mem_append->Ar,mem_cons->AY,mem_of_getElem?->AB,mem_singleton->Ag,replicate->As,replicate_succ->CE,take_add_one->BF,take_length->BL
open Nat renaming le_trans->AJ,sub_self->AP,zero_add->AX
open Go.Proofs.Tryz renaming prog->AA
namespace Go.AI
section
variable{P:Program}{t:TypeId}{x y:ByteArray}{d:Tmp}{K:Kt}{e:GO}{H:Fl}
@[go_sem] theorem AcJ:JA P .geq t (.str x) (.str y) d K e H=K ((d,.bool !(Op.bytesLess x.toList y.toList))::e) H:=by rw[QJ];simp[K5]
@[go_sem] theorem AcI:JA P .gtr t (.str x) (.str y) d K e H=K ((d,.bool !(Op.bytesLess x.toList y.toList||x.toList==y.toList))::e) H:=by rw[QJ];simp[K5]
end
def Id(s:FD):Bool :=
 qa s.network 20 40 20&&(decide ((s.fields.length:Int)<=20)&&(decide ((s.tenants.length:Int)<=8)&&(decide ((s.contracts.length:Int)<=12)&&(s.tenants.all Mx&&s.contracts.all λc=>ZW c.pred))))
def Gu(s:FD)(g:ByteArray):Int:=IS (λt:FE=>decide (t.name=g)) s.tenants
def IN(s:FD)(k:Int):FE:=(s.tenants[k.toNat]?).getD Tenant.z
theorem kL{α:Type}(p:α->Bool): ∀(l:List α) (i:Nat),Hb p i l = -1 \/ ∃j x,l[j]? =some x/\p x=true/\Hb p i l=((i+j:Nat):Int) /\ ∀m y,m<j->l[m]? =some y->p y=false
 |[],i => .inl rfl
 | x::l,i=>by
  rw[Hb];cases h:p x with
  |true=>exact .inr ⟨0,x,rfl,h,F3,λm y hm=>Fj⟩
  | false =>
   rcases kL p l (i+1)with g|⟨j,y,g,r,h3,h4⟩
   ·exact .inl (by simpa using g)
   ·refine .inr ⟨j+1,y,g,r,by rw[iN F3,h3];congr 1;omega,λm z hm o=>?_⟩;cases m with
    |zero=>simp at o;subst o;exact h
    |succ m=>exact h4 m z Fj (by simpa using o)
theorem qD{α:Type}(p:α->Bool)(l:List α):(IS p l = -1 /\ ∀y∈l,p y=false) \/ ∃(j:Nat) (x:α),j<l.length/\l[j]? =some x/\p x=true/\IS p l=(j:Int) /\ ∀(m:Nat) (y:α),m<j->l[m]? =some y->p y=false:=by
 rcases kL p l 0 with h|⟨j,x,i,g,h3,h4⟩
 ·refine .inl ⟨h,λy o=>?_⟩;have g:=Qq p l 0;rw[h]at g;have h3:l.any p=false:=by rw[<- g];rfl
  rw[List.any_eq_false]at h3;simpa using h3 y o
 ·exact .inr ⟨j,x,(AD.1 i).1,i,g,by unfold IS;rw[h3];simp,h4⟩
def KF(s:FD)(k:Nat)(t:FE):Bool:=t.ports.any λp=>(s.tenants.take k).any λu=>decide (0<=p.edge)&&decide (0<=IH u p.edge)
def ab(s:FD)(k:Nat)(t:FE):Bool:=decide (0<k) && !PB (IN s ((k:Int) - 1)).name t.name
def Rn(s:FD)(k:Nat)(t:FE):Int :=
 if Jz s t≠0 then Jz s t else if(Gc t).2≠0 then(Gc t).2 else if ab s k t=true then 4 else if KF s k t=true then 10 else 0
def LC(s:FD):Nat->List FE->Option (Int×Int)
 |_,[]=>none
 |k,t::r=>if Rn s k t≠0 then some ((k:Int),Rn s k t)else LC s (k+1) r
def jE(t:FE)(n:Int):Bool:=decide (0<=n)&&(decide (n<(t.ports.length:Int))&&decide (0<=QB t n))
def AFe(s:FD)(n:Int):Bool:=((s.network.nodes[n.toNat]?).map (·.box)).getD false
def AK4(s:FD)(c:FF):Bool :=
 decide (-1<=c.via)&&(decide (c.via<(s.network.nodes.length:Int))&&((decide (c.via<0)||AFe s c.via)&&(decide (0<=c.capacity)&&(decide (c.capacity<=1048576)&&(decide (0<=c.price)&&decide (c.price<=1000))))))
def Ub(s:FD)(c:FF):Int :=
 if Gu s c.src<0\/Gu s c.dst<0 then 9
 else if Gu s c.src=Gu s c.dst\/jE (IN s (Gu s c.src)) c.fromPort=false\/jE (IN s (Gu s c.dst)) c.toPort=false then 1
 else if Vn s.fields c.pred≠0 then Vn s.fields c.pred
 else if AK4 s c=false then 1 else 0
def LW(s:FD):Nat->List FF->Option (Int×Int)
 |_,[]=>none
 |k,c::r=>if Ub s c≠0 then some ((k:Int),Ub s c)else LW s (k+1) r
def Lo(s:FD)(g:ByteArray):List FF->List Bool×List Int->List Bool×List Int
 |[],x=>x
 |c::r,x=>Lo s g r (if c.src=g/\(x.1[(Gu s c.dst).toNat]?).getD true=false then(x.1.set (Gu s c.dst).toNat true,x.2++[Q_ (Gu s c.dst) 0])else x)
def Nm(s:FD):Nat->Nat->List Bool×List Int->List Bool
 | 0,_,x=>x.1
 |f+1,i,x=>match x.2[i]? with
  |none=>x.1
  |some a=>Nm s f (i+1) (Lo s (IN s a).name s.contracts x)
def oO(s:FD)(k:Int):List Bool:=Nm s (s.tenants.length+2) 0 (As s.tenants.length false,[k])
def JT(s:FD):Nat->List FE->Option (Int×Int)
 |_,[]=>none
 |k,_::r=>if((oO s k)[k]?).getD true=true then some (0,21)else JT s (k+1) r
def Vo(s:FD):Int×Int :=
 if Jv s.network≠0 then(0,Jv s.network)else if PU s.fields≠0 then(0,PU s.fields)
 else if 64<s.tenants.length\/100<s.contracts.length then(0,2)
 else match LC s 0 s.tenants with
  |some x=>x
  |none=>match LW s 0 s.contracts with
   |some x=>x
   |none=>(JT s 0 s.tenants).getD (0,0)
def Kk(s:FD):Bool:=Id s&&(Vo s).2==0
end Go.AI
namespace Go.AI
open Go.Proofs
set_option maxRecDepth 50000
theorem Vd{H:Fl}(l:List FF)(U:l.length<=9223372036854775807)(g:FuncId)(o t:List AV)(p:FF->Bool)
  (h:∀x∈l,Gq AA g (o.map AV.borrow++(.agg x.c::t.map AV.borrow)) H (.bool (p x))):
  Gq AA 44 [.sl none (HA l),.fn (.func g) o t] H (.int .i64 (IS p l)):=by
 unfold Gq;refine aC Afo rfl ?_;simp only[f44,go_sem];refine F0 l (λr=>Hb p (l.length - r.length) r) (λk=>[(0,.sl none (HA l)),(1,.fn (.func g) o t),(7,.int .i64 l.length),(8,.int .i64 k)]) U rfl ?_ ?_
 ·intro k x R V hx i C I T;have hk2:=GI V;have j:l.length - (R.length+1)=k:=Fj;have J:l.length - R.length=k+1:=Fj;simp only[AC,j,AP]at i;simp only[go_sem,C,I,GT hx,j,J];repeat' (first|(refine aS (h x (AB hx)) ?_;simp only[go_sem,C,I,T,GT hx,j,J])|apply Pz<;>intro O<;>simp only[go_sem,O,C,I,T,GT hx,j,J])
  ·rw[IS,i,Hb,iP O]
  ·rw[Hb,iN (by rw[O];decide)]
 ·intro i P;simp only[go_sem,P,dF];rw[AP]at i;rw[IS,i];rfl
theorem ZB{H:Fl}(l:List FE)(U:l.length<=9223372036854775807)(g:FuncId)(o t:List AV)(p:FE->Bool)
  (h:∀x∈l,Gq AA g (o.map AV.borrow++(.agg x.c::t.map AV.borrow)) H (.bool (p x))):
  Gq AA 67 [.sl none (H6 l),.fn (.func g) o t] H (.int .i64 (IS p l)):=by
 unfold Gq;refine aC Aew rfl ?_;simp only[f67,go_sem];refine F0 l (λr=>Hb p (l.length - r.length) r) (λk=>[(0,.sl none (H6 l)),(1,.fn (.func g) o t),(7,.int .i64 l.length),(8,.int .i64 k)]) U rfl ?_ ?_
 ·intro k x R V hx i C I T;have hk2:=GI V;have j:l.length - (R.length+1)=k:=Fj;have J:l.length - R.length=k+1:=Fj;simp only[AC,j,AP]at i;simp only[go_sem,C,I,F7 hx,j,J];repeat' (first|(refine aS (h x (AB hx)) ?_;simp only[go_sem,C,I,T,F7 hx,j,J])|apply Pz<;>intro O<;>simp only[go_sem,O,C,I,T,F7 hx,j,J])
  ·rw[IS,i,Hb,iP O]
  ·rw[Hb,iN (by rw[O];decide)]
 ·intro i P;simp only[go_sem,P,dF];rw[AP]at i;rw[IS,i];rfl
theorem AIq(s:FD):Fm AA 48 [.agg s.c] (.bool (Id s)):=by
 refine Fm.fit AJ'.c λJ=>?_;have t:=TY (TB J);have C:=RF (TB J);refine pC AJ' rfl ?_;simp only[f48,go_sem];repeat' (first|(apply pK (AaB _ _ _ _);simp only[go_sem])|apply Pz<;>intro g<;>simp only[go_sem,g])
 all_goals first
  |rfl
  |(simp only[Id];rfl)
  |grind[Id]
  |(simp only[Id];grind)
  |(simp[Id, *];done)
  |(simp_all[Id];done)
  |skip
 all_goals
  refine F0 s.tenants (λr=>r.all Mx) (λk=>[(1,.ptr 0 0),(4,.int .i64 k)]) t rfl ?_ ?_
  ·intro k y P R hx O i j o;simp only[go_sem,i,j,F7 hx];repeat' (first|(apply pK (AZ' _);simp only[go_sem,i,j,o,F7 hx])|apply Pz<;>intro g<;>simp only[go_sem,g,i,j,o,F7 hx])
   all_goals first
    |rfl
    |(simp only[Id,Am,A3];rfl)
    |grind[Id]
    |(simp only[Id,Am,A3];grind)
    |(simp[Id,Am,A3, *];done)
    |(simp_all[Id,Am,A3];done)
    |skip
  ·intro O I;simp only[go_sem,I,dF];refine F0 s.contracts (λr=>r.all λx=>ZW x.pred) (λk=>[(1,.ptr 0 0),(6,.int .i64 k)]) C rfl ?_ ?_
   ·intro k y P R hx O i j o;simp only[go_sem,i,j,GT hx];repeat' (first|(apply pK (AFP _);simp only[go_sem,i,j,o,GT hx])|apply Pz<;>intro g<;>simp only[go_sem,g,i,j,o,GT hx])
    all_goals first
     |rfl
     |(simp only[Id,Am,A3];rfl)
     |grind[Id]
     |(simp only[Id,Am,A3];grind)
     |(simp[Id,Am,A3, *];done)
     |(simp_all[Id,Am,A3];done)
     |skip
   ·intro T p;simp only[go_sem,p,dF];repeat' (first|apply Pz<;>intro g<;>simp only[go_sem,g])
    all_goals first
     |rfl
     |(simp only[Id,Am,A3];rfl)
     |grind[Id]
     |(simp only[Id,Am,A3];grind)
     |(simp[Id,Am,A3, *];done)
     |(simp_all[Id,Am,A3];done)
     |skip
def bw(k:Int):AV:=.tup [.int .i64 (Q_ k 0),.bool (decide (0<=k))]
theorem WU(s:FD)(g:ByteArray)(V:s.tenants.length<=1073741824):Fm AA 42 [.agg s.c,.str g] (bw (Gu s g)):=by
 refine pC Afw rfl ?_;simp only[f42,go_sem,Fk];refine F0 s.tenants (λr=>Hb (λt:FE=>decide (t.name=g)) (s.tenants.length - r.length) r) (λk=>[(1,.str g),(2,.ptr 0 0),(6,.int .i64 k)]) Fj rfl ?_ ?_
 ·intro k y J R hx i j O T;have U:=GI R;have o:s.tenants.length - (J.length+1)=k:=Fj;have P:s.tenants.length - J.length=k+1:=Fj;simp only[AC,o,AP]at i;simp only[go_sem,j,O,F7 hx,Fk,o,P];repeat' (first|apply Pz<;>intro p<;>simp only[go_sem,p,j,O,T,F7 hx,Fk,o,P])
  ·have C:Gu s g=(k:Int):=by rw[Gu,IS,i,Hb,iP p]
   rw[C];have h3:Q_ (k:Int) 0=k:=by unfold Q_;split<;>omega
   rw[bw,h3,decide_eq_true j]
  ·rw[Hb,iN (by rw[p];decide)]
 ·intro i I;simp only[go_sem,I,dF];rw[AP]at i;have C:Gu s g = -1:=by rw[Gu,IS,i];rfl
  rw[C];rfl
theorem uD(t:FE)(n:Int):Fm AA 180 [.agg t.c,.int .i64 n] (.bool (jE t n)):=by
 refine pC AT3 rfl ?_;by_cases h:0<=n/\n<(t.ports.length:Int)
 ·obtain⟨g,i⟩:=h;obtain⟨x,hx⟩:∃x,t.ports[n.toNat]? =some x:=⟨_,AL Fj⟩;have o:=G6 hx;have p:QB t n=x.edge:=by simp[QB,hx]
  simp only[f180,go_sem,g,i,o];repeat' (first|apply Pz<;>intro j<;>simp only[go_sem,j,g,i,o])
  all_goals (rw[jE,p];simp[g,i])
 ·simp only[f180,go_sem];repeat' (first|apply Pz<;>intro j<;>simp only[go_sem,j])
  all_goals first|(simp only[jE];grind)|skip
theorem uw{s:FD}{k:Nat}{t:FE}(h:s.tenants[k]? =some t):IN s (k:Int)=t:=by simp[IN,h]
theorem AZ6(s:FD)(k:Nat)(t:FE)(hk:s.tenants[k]? =some t)(hl:okF s.fields)(hs:Fo s.c<=1073741824)(hb:Fo t.c<=1048576)(hn:s.tenants.length<=1073741824):Fm AA 85 [.agg s.c,.int .i64 k] (.int .i64 (Rn s k t)) := by
  have hkl:k<s.tenants.length := (AD.1 hk).1;have hw1:t.wires.length<=1073741824 := AJ (Mr (IK hb)) dc;have hp1:t.ports.length<=1048576 := jt (PG hb);have g := F7 hk;have o:(k:Int)<(s.tenants.length:Int) := by omega
  have C:(0:Int)<=(k:Int) := by omega
  have hbw:∀x∈t.program,Fo (Ht t x.policy).c<=1073741824 := λx hx=>Ul (by
    have h1 := KZ (HV hb) hx;have h2:Fo x.c<=1048576 := by simpa only[AV.bulk]using h1
    exact IL h2) (AJ (Mr (IK hb)) (Nat.le_refl _))
  have hpg:t.program.length<=1073741824 := AJ (Mc (HV hb)) dc;have q1 := AaJ s t hl hs (AJ hb dc);have q2 := s7 t hw1 hpg hbw;have htk:(s.tenants.take k).length=k := by rw[List.length_take];omega
  refine pC Adq rfl ?_;cases O:(Jz s t !=0)with
  | true =>
    simp only[f85,go_sem,g,o,C];repeat' (first|((first|apply pK q1|apply pK q2);simp only[go_sem,g,o,C,O])|apply Pz<;>intro hc<;>simp only[go_sem,hc,g,o,C,O])
    rw[Rn,iP (by simpa using O)]
  |false =>
  cases V:((Gc t).2 !=0)with
  | true =>
    simp only[f85,go_sem,g,o,C];repeat' (first|((first|apply pK q1|apply pK q2);simp only[go_sem,g,o,C,O,V])|apply Pz<;>intro hc<;>simp only[go_sem,hc,g,o,C,O,V])
    rw[Rn,iN (by simpa using O),iP (by simpa using V)]
  |false =>
  rcases Nat.eq_zero_or_pos k with hz|hz
  · have P:decide ((0:Int)<(k:Int))=false := decide_eq_false Fj
    have q5:ab s k t=false := by unfold ab;simp[hz]
    simp only[f85,go_sem,g,o,C];repeat' (first|((first|apply pK q1|apply pK q2);simp only[go_sem,g,o,C,O,V,P])|apply Pz<;>intro hc<;>simp only[go_sem,hc,g,o,C,O,V,P])
    refine F0 t.ports (λr=>r.any λp=>(s.tenants.take k).any λu=>decide (0<=p.edge)&&decide (0<=IH u p.edge)) (λi=>[(1,.int .i64 k),(2,.ptr 0 0),(5,.ptr 1 0),(9,.int .i64 i)]) Fj rfl ?_ ?_
    · intro i y ys hd hy hF h0 h1 hw
      have J := G6 hy;simp only[go_sem,h0,h1,J];refine F0 (s.tenants.take k) (λr=>r.any λu=>decide (0<=y.edge)&&decide (0<=IH u y.edge)) (λj=>[(1,.int .i64 k),(2,.ptr 0 0),(5,.ptr 1 0),(9,.int .i64 i),(10,.int .i64 j)]) Fj rfl ?_ ?_
      · intro j u us hd3 I R g0 g1 gw
        have T:(j:Int)<(k:Int) := by omega
        have hu4:s.tenants[j]? =some u := by
          rw[Ak]at I;split at I
          · exact I
          · cases I
        have U := F7 hu4;simp only[go_sem,g0,T,J,h0,U];repeat' (first|(apply pK (TL u y.edge);simp only[go_sem,h0,h1,J,g0,T,gw,U])|apply Pz<;>intro hc<;>simp only[go_sem,hc,h0,h1,J,g0,T,gw,U])
        all_goals first
          | (have e1:KF s k t=true := by
               unfold KF;rw[hF,Av,R,Av];simp_all
             simp only[decide_eq_true_eq]at *;rw[Rn,iN (by simpa using O),iN (by simpa using V),iN (by rw[q5];decide),iP e1])
          |(rw[Av];simp_all;done)
          |skip
      · intro R hlt
        have hlt2:¬((s.tenants.take k).length:Int)<(k:Int) := by omega
        simp only[go_sem,hlt2,dF,hw];have hF4:((s.tenants.take k).any λu=>decide (0<=y.edge)&&decide (0<=IH u y.edge))=false := R;rw[hF4];rfl
    · intro hF hlt
      simp only[go_sem,hlt,dF];have e1:KF s k t=false := by unfold KF;rw[hF];rfl
      rw[Rn,iN (by simpa using O),iN (by simpa using V),iN (by rw[q5];decide),iN (by rw[e1];decide)]
  · obtain ⟨u,hu⟩ : ∃ u,s.tenants[k - 1]? =some u := ⟨_,AL Fj⟩
    have P:decide ((0:Int)<(k:Int))=true := decide_eq_true Fj;have hw1:IntKind.i64.wrap ((k:Int) - 1)=((k - 1:Nat):Int) := by rw[Mg Fj Fj];omega
    have hw0:(0:Int)<=((k - 1:Nat):Int) := by omega
    have hu2 := F7 hu;have I:IN s ((k:Int) - 1)=u := by
      have:((k:Int) - 1)=((k - 1:Nat):Int) := by omega
      rw[this];exact uw hu
    cases q5:ab s k t with
    | true =>
      have q6:(!Op.bytesLess u.name.toList t.name.toList)=true := by
        unfold ab at q5;rw[I]at q5;simp only[AQ]at q5;exact q5.2
      simp only[f85,go_sem,g,o,C];repeat' (first|((first|apply pK q1|apply pK q2);simp only[go_sem,g,o,C,O,V,P,hw1,hw0,hu2,q6])|apply Pz<;>intro hc<;>simp only[go_sem,hc,g,o,C,O,V,P,hw1,hw0,hu2,q6])
      all_goals first|(rw[Rn,iN (by simpa using O),iN (by simpa using V),iP q5])|skip
    | false =>
      have q6:(!Op.bytesLess u.name.toList t.name.toList)=false := by
        unfold ab at q5;rw[I]at q5;simp only[Bool.and_eq_false_iff,decide_eq_false_iff_not]at q5;exact q5.resolve_left Fj
      simp only[f85,go_sem,g,o,C];repeat' (first|((first|apply pK q1|apply pK q2);simp only[go_sem,g,o,C,O,V,P,hw1,hw0,hu2,q6])|apply Pz<;>intro hc<;>simp only[go_sem,hc,g,o,C,O,V,P,hw1,hw0,hu2,q6])
      refine F0 t.ports (λr=>r.any λp=>(s.tenants.take k).any λu=>decide (0<=p.edge)&&decide (0<=IH u p.edge)) (λi=>[(1,.int .i64 k),(2,.ptr 0 0),(5,.ptr 1 0),(9,.int .i64 i)]) Fj rfl ?_ ?_
      · intro i y ys hd hy hF h0 h1 hw
        have J := G6 hy;simp only[go_sem,h0,h1,J];refine F0 (s.tenants.take k) (λr=>r.any λu=>decide (0<=y.edge)&&decide (0<=IH u y.edge)) (λj=>[(1,.int .i64 k),(2,.ptr 0 0),(5,.ptr 1 0),(9,.int .i64 i),(10,.int .i64 j)]) Fj rfl ?_ ?_
        · intro j u us hd3 I R g0 g1 gw
          have T:(j:Int)<(k:Int) := by omega
          have hu4:s.tenants[j]? =some u := by
            rw[Ak]at I;split at I
            · exact I
            · cases I
          have U := F7 hu4;simp only[go_sem,g0,T,J,h0,U];repeat' (first|(apply pK (TL u y.edge);simp only[go_sem,h0,h1,J,g0,T,gw,U])|apply Pz<;>intro hc<;>simp only[go_sem,hc,h0,h1,J,g0,T,gw,U])
          all_goals first
            | (have e1:KF s k t=true := by
                 unfold KF;rw[hF,Av,R,Av];simp_all
               simp only[decide_eq_true_eq]at *;rw[Rn,iN (by simpa using O),iN (by simpa using V),iN (by rw[q5];decide),iP e1])
            |(rw[Av];simp_all;done)
            |skip
        · intro R hlt
          have hlt2:¬((s.tenants.take k).length:Int)<(k:Int) := by omega
          simp only[go_sem,hlt2,dF,hw];have hF4:((s.tenants.take k).any λu=>decide (0<=y.edge)&&decide (0<=IH u y.edge))=false := R;rw[hF4];rfl
      · intro hF hlt
        simp only[go_sem,hlt,dF];have e1:KF s k t=false := by unfold KF;rw[hF];rfl
        rw[Rn,iN (by simpa using O),iN (by simpa using V),iN (by rw[q5];decide),iN (by rw[e1];decide)]
theorem Mk{s:FD}{g:ByteArray}(h:0<=Gu s g): ∃t,s.tenants[(Gu s g).toNat]? =some t/\t.name=g/\IN s (Gu s g)=t/\Gu s g<(s.tenants.length:Int):=by
 rcases qD (λt:FE=>decide (t.name=g)) s.tenants with⟨o,_⟩|⟨j,x,o,i,h3,h4,_⟩
 ·unfold Gu at h;omega
 ·have h5:Gu s g=(j:Int):=h4;rw[h5];exact⟨x,by simpa using i,by simpa using h3,by simp[IN,i],Fj⟩
theorem kI{k:Int}(h:0<=k):Q_ k 0=k:=by unfold Q_;split<;>omega
theorem AaD(s:FD)(c:FF)(hl:okF s.fields)(hb:Fo c.c<=1073741824)(hn:s.tenants.length<=1073741824):Fm AA 86 [.agg s.c,.agg c.c] (.int .i64 (Ub s c)):=by
 have r:=WU s c.src hn;have t:=WU s c.dst hn;simp only[bw]at r t;refine pC Adm rfl ?_;by_cases j:0<=Gu s c.src
 ·by_cases o:0<=Gu s c.dst
  ·obtain⟨a,O,_,P,ha3⟩:=Mk j;obtain⟨b,R,_,T,hb3⟩:=Mk o;have g:=F7 O;have i:=F7 R;rw[kI j,decide_eq_true j]at r;rw[kI o,decide_eq_true o]at t;have q3:=uD a c.fromPort;have q4:=uD b c.toPort;have q5:=AFT s.fields c.pred hl (U1 hb);have e0:¬(Gu s c.src<0\/Gu s c.dst<0):=Fj;rw[Ub,iN e0,P,T];by_cases hv:0<=c.via/\c.via<(s.network.nodes.length:Int)
   ·obtain⟨U,I⟩:∃U,s.network.nodes[c.via.toNat]? =some U:=⟨_,AL Fj⟩;have p:=Nw I;have V:AFe s c.via=U.box:=by simp[AFe,I]
    have J:=hv.1;simp only[f86,go_sem];repeat' (first|((first|apply pK r|apply pK t|apply pK q3|apply pK q4|apply pK q5);simp only[go_sem,j,o,g,i,p,J])|apply Pz<;>intro C<;>simp only[go_sem,C,j,o,g,i,p,J])
    all_goals first|(simp only[AK4,V];grind)|skip
   ·simp only[f86,go_sem];repeat' (first|((first|apply pK r|apply pK t|apply pK q3|apply pK q4|apply pK q5);simp only[go_sem,j,o,g,i])|apply Pz<;>intro C<;>simp only[go_sem,C,j,o,g,i])
    all_goals first|(simp only[AK4];grind)|skip
  ·rw[decide_eq_false o]at t;simp only[f86,go_sem];repeat' (first|((first|apply pK r|apply pK t);simp only[go_sem])|apply Pz<;>intro C<;>simp only[go_sem,C])
   all_goals first|(rw[Ub,iP Fj])|skip
 ·rw[decide_eq_false j]at r;simp only[f86,go_sem];repeat' (first|((first|apply pK r|apply pK t);simp only[go_sem])|apply Pz<;>intro C<;>simp only[go_sem,C])
  all_goals first|(rw[Ub,iP Fj])|skip
def O0(l:List Bool):List AV:=l.map .bool
theorem YM(l:List Bool):(O0 l).length=l.length:=by simp[O0]
theorem ly{l:List Bool}{i:Nat}{b:Bool}(h:l[i]? =some b):(O0 l)[i]? =some (.bool b):=by simp[O0,h]
theorem AF0{l:List Bool}{i:Nat}(h:i<l.length)(b:Bool):splice (O0 l) i [.bool b]=O0 (l.set i b):=by
 apply List.ext_getElem?;intro j;have o:=YM l;rw[KK IG];simp only[O0,List.getElem?_map,Az,List.length_singleton];by_cases g:i<=j/\j<i+1
 ·have:j=i:=Fj;subst this;rw[iP g,iP rfl,iP h];simp
 ·rw[iN g,iN Fj]
@[go_sem] theorem AcM(l:List Bool):Fq (O0 l)=true:=by
 induction l with
 |nil=>rfl
 |cons b l g=>exact g
theorem rU(l:List Bool):IX false 1 l.length ((O0 l).map borrow1)=O0 l:=by
 induction l with
 |nil=>rfl
 |cons b l g =>
  show AV.bool b::IX false 1 l.length ((O0 l).map borrow1)=AV.bool b::O0 l;rw[g]
theorem AF1(n:Nat):(As n [AV.bool false]).flatten=O0 (As n false):=by
 induction n with
 |zero=>rfl
 |succ n g=>rw[CE,List.flatten_cons,g];rfl
def PS(l:List Bool):Nat:=(l.filter id).length
theorem db(l:List Bool):PS l<=l.length:=List.length_filter_le _ _
theorem lR{l:List Bool}{i:Nat}(h:l[i]? =some false):PS (l.set i true)=PS l+1:=by
 induction l generalizing i with
 |nil=>simp at h
 | cons b l g =>
  cases i with
  |zero=>simp at h;subst h;simp[PS]
  |succ i =>
   have:=g (i:=i) (by simpa using h);simp only[List.set_cons_succ,PS,C3]at this ⊢;split<;>simp_all
theorem lS(n:Nat):PS (As n false)=0:=by
 induction n with
 |zero=>rfl
 |succ n g=>rw[CE];exact g
def rOk(s:FD)(x:List Bool×List Int):Prop:=x.1.length=s.tenants.length/\x.2.length=1+PS x.1 /\ ∀a∈x.2,0<=a/\a<(s.tenants.length:Int)
theorem AAp(s:FD)(k:Nat)(hk:k<s.tenants.length)(hn:s.tenants.length<=1048576)(hc:s.contracts.length<=1048576)(hf:∀c∈s.contracts,0<=Gu s c.dst):Fm AA 87 [.agg s.c,.int .i64 k] (.sl none (O0 (oO s k))):=by
 refine pB Adh rfl ?_;have hz:F8 AA 4=some (.bool false):=kr;have n0:(s.tenants.length:Int)*((1:Nat):Int)<=140737488355328:=Fj;simp only[f87,go_sem];refine⟨Fj,n0,Fj, ?_⟩;refine JB (σ:=Nat×List Bool×List Int) (λx=>[(2,.ptr 0 0),(5,.msl 1 0 s.tenants.length 1),(6,.sl (some 1) (Gi x.2.2)),(7,.int .i64 x.1)]) (λx=>[some s.c,some (O0 x.2.1)])
  (λx=>x.1<=x.2.2.length/\rOk s x.2/\oO s k=Nm s (s.tenants.length+2 - x.1) x.1 x.2) (λx=>s.tenants.length+2 - x.1) (0,As s.tenants.length false,[(k:Int)])
  ⟨Nat.zero_le _,⟨F3,by rw[lS];rfl,λa ha=>by rcases Ag.1 ha with rfl;omega⟩,rfl⟩ rfl (by rw[AF1]) ?_
 rintro ⟨i,seen,q⟩ ⟨hi,hR,hE⟩;have hq:=hR.2.1;have hcn:=db seen;have hsl:=hR.1;simp only at hi hq hcn hsl;by_cases hlt:i<q.length
 ·obtain⟨a,ha⟩:∃a,q[i]? =some a:=⟨_,AL hlt⟩;obtain⟨O,ha1⟩:=hR.2.2 a (AB ha);obtain⟨u,hu⟩:∃u,s.tenants[a.toNat]? =some u:=⟨_,AL Fj⟩;have P:=F7 hu;have hu3:IN s a=u:=by simp[IN,hu]
  have t:(i:Int)<(q.length:Int):=Fj;have hw:=K_ (k:=i) Fj;have R:(0:Int)<=(i:Int):=Fj;simp only[go_sem,t];refine F6 s.contracts (λx r=>Lo s u.name r x) (λ_ x=>rOk s x/\x.2[i]? =some a) (λj x=>[(2,.ptr 0 0),(5,.msl 1 0 s.tenants.length 1),(6,.sl (some 1) (Gi x.2)),(7,.int .i64 i),(8,.int .i64 j)]) (λj x=>[some s.c,some (O0 x.1)]) (seen,q) Fj ⟨hR,ha⟩ rfl rfl ?_ ?_
  ·rintro j ⟨C,p⟩ c cs hd hcx ⟨g,o⟩ hF g0 g1 gw;have hcm:=AB hcx;have T:=GT hcx;have U:=hf c hcm;obtain⟨v,hv1,_,_,hv4⟩:=Mk U;obtain⟨m,hm⟩:∃m:Nat,Gu s c.dst=(m:Int):=⟨(Gu s c.dst).toNat,Fj⟩;have q1:=WU s c.dst Fj;rw[bw,kI U,decide_eq_true U,hm]at q1;have hm1:m<C.length:=by rw[g.1];omega
   have J:(m:Int)<(s.tenants.length:Int):=Fj;have I:(0:Int)<=(m:Int):=Fj;obtain⟨b,hb⟩:∃b,C[m]? =some b:=⟨_,AL hm1⟩;have V:=ly hb;have hp2:=Gj o;have hst:=AF0 hm1 true;have hpl:(Gi p).length=p.length:=Ho p;have hrl:=YM C;have hq2:=g.2.1;have hcn2:=db C;simp only at hq2 hcn2;have hsn:=g.1;simp only at hsn;have hm3:(m+1<=C.length)=True:=eq_true Fj;simp only[go_sem,g0,g1,T,R,hp2,O,P,I,J,V,hst,hrl,Fk];repeat' (first|(apply pK q1;simp only[go_sem,g0,g1,T,R,hp2,O,P,I,J,V,hst,hrl,Fk,gw,hm3])|apply Pz<;>intro hc<;>simp only[go_sem,hc,g0,g1,T,R,hp2,O,P,I,J,V,hst,hrl,Fk,gw,hm3])
   ·have hb3:b=false:=by simpa using hc
    subst hb3;rename_i hc1;refine⟨Fj,Fj,(C.set m true,p++[(m:Int)]), ?_,⟨⟨by simpa using hsn,by rw[lR hb];simp;omega, ?_⟩, ?_⟩, ?_⟩
    ·rw[Lo,iP ⟨by simpa using hc1,by rw[hm];simp[hb]⟩,hm,kI I];simp
    ·intro z hz;rcases Ar.1 hz with hz|hz
     ·exact g.2.2 z hz
     ·rcases Ag.1 hz with rfl;exact⟨I,J⟩
    ·rw[Aa (AD.1 o).1];exact o
    ·exact⟨rfl,rfl⟩
   ·have hb3:b=true:=by simpa using hc
    subst hb3;exact⟨(C,p),by rw[Lo,iN (by rw[hm];simp[hb])],⟨g,o⟩,rfl,rfl⟩
   ·rename_i hc1;exact⟨(C,p),by rw[Lo,iN (λh=>by simp[h.1]at hc)],⟨g,o⟩,rfl,rfl⟩
  ·rintro ⟨C,p⟩ ⟨g,o⟩ hF;simp only[go_sem,AR,dF,hw];have hF':Lo s u.name s.contracts (seen,q)=(C,p):=hF;have e2:s.tenants.length+2 - i=(s.tenants.length+2 - (i+1))+1:=Fj;have hpi:=(AD.1 o).1;simp only at hpi;refine⟨(i+1,C,p),⟨by simp only;omega,g, ?_⟩,by simp only;omega,rfl,rfl⟩;rw[hE];simp only;rw[e2,Nm];simp only[ha];rw[hu3,hF']
 ·have t:¬(i:Int)<(q.length:Int):=Fj;have hfr:(s.tenants.length<=(O0 seen).length/\(False\/True))=True:=eq_true ⟨by rw[YM];omega,.inr trivial⟩;have hch:IX false 1 s.tenants.length ((O0 seen).map borrow1)=O0 seen:=by rw[<- hsl];exact rU seen
  have e2:s.tenants.length+2 - i=(s.tenants.length+1 - i)+1:=Fj;have hE2:oO s k=seen:=by
   rw[hE];simp only;rw[e2,Nm];simp only[List.getElem?_eq_none (Nat.le_of_not_lt hlt)]
  rw[hE2];simp only[go_sem,t,dF,hfr,hch]
theorem iW(s:FD)(g:ByteArray): ∀(l:List FF) (x:List Bool×List Int),(Lo s g l x).1.length=x.1.length
 |[],x=>rfl
 |c::r,x=>by
  rw[Lo,iW s g r];split<;>simp
theorem aW(s:FD): ∀(f i:Nat) (x:List Bool×List Int),(Nm s f i x).length=x.1.length
 | 0,_,_=>rfl
 |f+1,i,x=>by
  rw[Nm];split
  ·rfl
  ·rw[aW s f,iW]
theorem WF(s:FD)(k:Int):(oO s k).length=s.tenants.length:=by rw[oO,aW];simp
theorem QE{s:FD}: ∀{l:List FF} {i:Nat},LW s i l=none -> ∀c∈l,Ub s c=0
 |[],_,_,c,g=>by cases g
 | x::r,i,h,c,g=>by
  rw[LW]at h;split at h
  ·cases h
  ·rename_i hx;rcases AY.1 g with rfl|g
   ·simpa using hx
   ·exact QE h c g
theorem U7{s:FD}: ∀{l:List FE} {i:Nat},LC s i l=none -> ∀(j:Nat) (t:FE),l[j]? =some t->Rn s (i+j) t=0
 |[],_,_,j,t,g=>by simp at g
 | x::r,i,h,j,t,g=>by
  rw[LC]at h;split at h
  ·cases h
  ·rename_i hx;cases j with
   |zero=>simp at g;subst g;simpa using hx
   |succ j =>
    have:=U7 h j t (by simpa using g)
    rwa [show i+1+j=i+(j+1) by omega]at this
theorem OD{s:FD}{c:FF}(h:Ub s c=0):0<=Gu s c.src/\0<=Gu s c.dst:=by
 unfold Ub at h;split at h
 ·cases h
 ·omega
theorem AaI(s:FD)(V:Fo s.c<=1048576):Fm AA 49 [.agg s.c] (.tup [.int .i64 (Vo s).1,.int .i64 (Vo s).2]):=by
 have hnt:s.tenants.length<=1048576:=XK (IZ V);have hnc:s.contracts.length<=1048576:=I8 (HM V);have O:Fo s.c<=1073741824:=AJ V dc;have q1:=AIs s.network (OK O);have q2:=Aj2 s.fields (JI O);refine pC AfU rfl ?_;by_cases P:Jv s.network=0
 ·by_cases U:PU s.fields=0
  ·have hl:okF s.fields:=λf hf=>Int.le_trans (bU U f hf) dc;have t:(Jv s.network !=0)=false:=by simp[P]
   have R:(PU s.fields !=0)=false:=by simp[U]
   by_cases e5:64<s.tenants.length\/100<s.contracts.length
   ·have C:Vo s=(0,2):=by unfold Vo;rw[iN (by simp[P]),iN (by simp[U]),iP e5]
    rw[C];simp only[f49,go_sem];repeat' (first|((first|apply pK q1|apply pK q2);simp only[go_sem,t,R])|apply Pz<;>intro g<;>simp only[go_sem,g,t,R])
    all_goals first|rfl|(simp only[decide_eq_true_eq,decide_eq_false_iff_not]at *;omega)|skip
   ·have C:Vo s=(match LC s 0 s.tenants with
      |some x=>x
      |none=>match LW s 0 s.contracts with
       |some x=>x
       |none=>(JT s 0 s.tenants).getD (0,0)):=by unfold Vo;rw[iN (by simp[P]),iN (by simp[U]),iN e5]<;>rfl
    have g1:¬(64:Int)<(s.tenants.length:Int):=Fj;have g2:¬(100:Int)<(s.contracts.length:Int):=Fj;simp only[f49,go_sem];repeat' (first|((first|apply pK q1|apply pK q2);simp only[go_sem,t,R,g1,g2,dF])|apply Pz<;>intro g<;>simp only[go_sem,g,t,R,g1,g2,dF])
    refine F0 s.tenants (λr=>LC s (s.tenants.length - r.length) r) (λk=>[(1,.ptr 0 0),(5,.int .i64 k)]) Fj rfl ?_ ?_
    ·intro k y I hd hx hF i j J;have hk2:=GI hd;have d1:s.tenants.length - (I.length+1)=k:=Fj;have d2:s.tenants.length - I.length=k+1:=Fj;simp only[AC,d1,d2,AP]at hF ⊢;have T:Fo y.c<=1048576:=by have:=Oj (IZ V) (AB hx);simpa only[AV.bulk]using this
     simp only[go_sem,i,j];repeat' (first|(apply pK (AZ6 s k y hx hl O T Fj);simp only[go_sem,i,j,J,d1,d2])|apply Pz<;>intro g<;>simp only[go_sem,g,i,j,J,d1,d2])
     ·have h1:LC s 0 s.tenants=some ((k:Int),Rn s k y):=by rw[hF,LC,iP (by simpa using g)]
      rw[C,h1]
     ·rw[LC,iN (by simpa using g)]
    ·intro hF hlt;have hT:LC s 0 s.tenants=none:=by rw[AP]at hF;rw[hF];rfl
     simp only[go_sem,hlt,dF];refine F0 s.contracts (λr=>LW s (s.contracts.length - r.length) r) (λk=>[(1,.ptr 0 0),(6,.int .i64 k)]) Fj rfl ?_ ?_
     ·intro k y I hd hx o i j J;have hk2:=GI hd;have d1:s.contracts.length - (I.length+1)=k:=Fj;have d2:s.contracts.length - I.length=k+1:=Fj;simp only[AC,d1,d2,AP]at o ⊢;have T:Fo y.c<=1073741824:=by
       have h5:=dG (HM V) (AB hx);have h6:Fo y.c<=1048576:=by simpa only[AV.bulk]using h5
       exact AJ h6 dc
      simp only[go_sem,i,j,GT hx];repeat' (first|(apply pK (AaD s y hl T Fj);simp only[go_sem,i,j,J,d1,d2,GT hx])|apply Pz<;>intro g<;>simp only[go_sem,g,i,j,J,d1,d2,GT hx])
      ·have h1:LW s 0 s.contracts=some ((k:Int),Ub s y):=by rw[o,LW,iP (by simpa using g)]
       rw[C,hT,h1]
      ·rw[LW,iN (by simpa using g)]
     ·intro o hlt2;have hC:LW s 0 s.contracts=none:=by rw[AP]at o;rw[o];rfl
      have hdst:∀c∈s.contracts,0<=Gu s c.dst:=λc g=>(OD (QE hC c g)).2;simp only[go_sem,hlt2,dF];refine F0 s.tenants (λr=>JT s (s.tenants.length - r.length) r) (λk=>[(1,.ptr 0 0),(7,.int .i64 k)]) Fj rfl ?_ ?_
      ·intro k y I hd hx p i j J;have hk2:=GI hd;have d1:s.tenants.length - (I.length+1)=k:=Fj;have d2:s.tenants.length - I.length=k+1:=Fj;simp only[AC,d1,d2,AP]at p ⊢;have q3:=AAp s k Fj hnt hnc hdst;have hrl:(oO s k).length=s.tenants.length:=WF s k;obtain⟨b,hb⟩:∃b,(oO s k)[k]? =some b:=⟨_,AL Fj⟩;have hb2:=ly hb;simp only[go_sem,i,j];repeat' (first|(apply pK q3;simp only[go_sem,i,j,J,d1,d2,hb2])|apply Pz<;>intro g<;>simp only[go_sem,g,i,j,J,d1,d2,hb2])
       ·have h1:JT s 0 s.tenants=some (0,21):=by rw[p,JT,iP (by rw[hb];simpa using g)]
        rw[C,hT,hC,h1];rfl
       ·rw[JT,iN (by rw[hb];simpa using g)]
      ·intro p hlt3;have hL:JT s 0 s.tenants=none:=by rw[AP]at p;rw[p];rfl
       simp only[go_sem,hlt3,dF];rw[C,hT,hC,hL];rfl
  ·have t:(Jv s.network !=0)=false:=by simp[P]
   have R:(PU s.fields !=0)=true:=by simp[U]
   have C:Vo s=(0,PU s.fields):=by unfold Vo;rw[iN (by simp[P]),iP U]
   rw[C];simp only[f49,go_sem];repeat' (first|((first|apply pK q1|apply pK q2);simp only[go_sem,t,R])|apply Pz<;>intro g<;>simp only[go_sem,g,t,R])
 ·have t:(Jv s.network !=0)=true:=by simp[P]
  have C:Vo s=(0,Jv s.network):=by unfold Vo;rw[iP P]
  rw[C];simp only[f49,go_sem];repeat' (first|((first|apply pK q1|apply pK q2);simp only[go_sem,t])|apply Pz<;>intro g<;>simp only[go_sem,g,t])
theorem AAo(s:FD)(g:Fo s.c<=1048576):Fm AA 17 [.agg s.c] (.bool (Kk s)):=by
 refine pC Ag0 rfl ?_;simp only[f17,go_sem];repeat' (first|((first|apply pK (AIq s)|apply pK (AaI s g));simp only[go_sem])|apply Pz<;>intro i<;>simp only[go_sem,i])
 all_goals first
  |rfl
  |(simp only[Kk];rfl)
  |grind[Kk]
  |(simp only[Kk];grind)
  |(simp[Kk, *];done)
  |(simp_all[Kk];done)
  |skip
theorem ADB(l:List Fld)(p:Is l)(g:l.length<=9223372036854775807)(x:Pred)(hx:Iq l x)(t:Int)(h:Head)(r:Fr h=true):Fm AA 46 [.sl none (Gf l),.agg x.c,.agg h.c,.int .i64 t] (.bool (hP l t x h)):=by
 have j:Fw AA 76 [.sl none (Gf l),.int .i64 t] [some x.c,some h.c] λv C=>v = .ptr 4 0/\C=[some x.c,some h.c]++[some [.sl none (Gf l)],some [.int .i64 t],some (bp 2),some [.ptr 4 0]]:=Acr l t [some x.c,some h.c];have I:kF l t 3 5 2 4 ([some x.c,some h.c]++[some [.sl none (Gf l)],some [.int .i64 t],some (bp 2),some [.ptr 4 0]]):=⟨rfl,rfl,⟨none,rfl⟩,rfl⟩;have o:QT AA 152 [.agg x.c,.agg h.c,.ptr 3 0,.ptr 5 0,.ptr 2 0] ([some x.c,some h.c]++[some [.sl none (Gf l)],some [.int .i64 t],some (bp 2),some [.ptr 4 0]]) (.bool (hP l t x h)):=λJ O=>ir l p g t 3 5 2 4 x hx h r J (I.view O);have P:∀ops,h46.ord 1 ops=(pD [6,7] ops.size).filterMap λi=>ops[i]?:=λops=>rfl;have R:pD [6,7] 10=[6,7,0,1,2,3,4,5,8,9]:=dc;simp only[bp]at j o;refine pB Aff rfl ?_;simp only[f46,go_sem];rw[QM _ _ _ (by simp only[go_sem]) rfl,P];simp only[List.size_toArray,AC,List.length_nil,Nat.reduceAdd,R,List.filterMap_cons,List.getElem?_toArray,List.getElem?_cons_succ,A7,List.filterMap_nil];simp only[go_sem];refine⟨_,_,j, ?_⟩;simp only[go_sem];repeat' (first|(refine rK (o) ?_;simp only[go_sem])|apply Pz<;>intro T<;>simp only[go_sem,T])
 all_goals first|rfl|skip
def Pd(s:FD)(g:ByteArray)(h:Head)(t:Int)(c:FF):Bool:=decide (c.src=g)&&(c.fromPort==h.h0&&hP s.fields t c.pred h)
theorem ADK{H:Fl}(s:FD)(R:Is s.fields)(j:s.fields.length<=9223372036854775807)(k:Nat)(u:FE)(T:s.tenants[k]? =some u)(h:Head)(U:Fr h=true)(t:Int)(c:FF)(hx:Iq s.fields c.pred)
  (J ok O P:Nat)(V:H[J]? =some (some s.c))(h2:H[ok]? =some (some [.int .i64 k]))(h3:H[O]? =some (some h.c))(h4:H[P]? =some (some [.int .i64 t])):
  Gq AA 45 [.agg c.c,.ptr J 0,.ptr ok 0,.ptr O 0,.ptr P 0] H (.bool (Pd s u.name h t c)):=by
 refine Fw.drop rfl ?_;have o:=Fp V;have p:=Fp h2;have r:=Fp h3;have C:=Fp h4;have I:=q_0 H;have g:=F7 T;have i:(0:Int)<=(k:Int):=Fj;refine aC Afk rfl ?_;simp only[f45,go_sem,o,p,r,C,I,g,i,Fk];repeat' (first|(apply pK (ADB s.fields R j c.pred hx t h U);simp only[go_sem,o,p,r,C,I,g,i,Fk])|apply Pz<;>intro hc<;>simp only[go_sem,hc,o,p,r,C,I,g,i,Fk])
 all_goals first|(simp only[Pd];grind)|skip
theorem tH(s:FD)(o:Is s.fields)(g:s.fields.length<=9223372036854775807)(i:s.contracts.length<=9223372036854775807)(k:Nat)(u:FE)(p:s.tenants[k]? =some u)(h:Head)(r:Fr h=true)(t:Int)(hx:∀c∈s.contracts,Iq s.fields c.pred):
  Fm AA 15 [.agg s.c,.int .i64 k,.agg h.c,.int .i64 t] (.int .i64 (IS (Pd s u.name h t) s.contracts)):=by
 have C:=Vd (H:=[some s.c,some [.int .i64 k],some h.c,some [.int .i64 t]]) s.contracts i 45 [] [.ptr 0 0,.ptr 1 0,.ptr 2 0,.ptr 3 0] (Pd s u.name h t)
  (λc j=>ADK s o g k u p h r t c (hx c j) 0 1 2 3 rfl rfl rfl rfl)
 refine pC Ag8 rfl ?_;simp only[f15,go_sem];repeat' (first|(refine aS (C) ?_;simp only[go_sem])|apply Pz<;>intro j<;>simp only[go_sem,j])
 all_goals first|rfl|skip
theorem AAa{l:List Fld}{x:Pred}(h:Vn l x=0):Iq l x:=by
 unfold Vn at h;split at h
 ·rename_i g;refine⟨?_,(Qt l _).1 h⟩;unfold ckP tf at g;split at g
  ·split at g
   ·assumption
   ·cases g
  ·rename_i i;exact absurd g i
 ·rename_i g;exact absurd h g
structure R19 (s:FD):Prop where
 net:Jv s.network=0
 fld:Is s.fields
 fld0:PU s.fields=0
 ten:∀(k:Nat) (t:FE),s.tenants[k]? =some t->Rn s k t=0
 con:∀c∈s.contracts,Ub s c=0
 loop:JT s 0 s.tenants=none
theorem aR{s:FD}(h:Kk s=true):R19 s:=by
 unfold Kk at h;simp only[AQ,beq_iff_eq]at h;obtain⟨_,h⟩:=h;have J:∀{i:Nat} {r:List FE} {x:Int×Int},LC s i r=some x->x.2≠0:=by
  intro i r;induction r generalizing i with
  |nil=>intro x hx;cases hx
  |cons y r j =>
   intro x hx;rw[LC]at hx;split at hx
   ·rename_i g;cases hx;exact g
   ·exact j hx
 have O:∀{i:Nat} {r:List FF} {x:Int×Int},LW s i r=some x->x.2≠0:=by
  intro i r;induction r generalizing i with
  |nil=>intro x hx;cases hx
  |cons y r j =>
   intro x hx;rw[LW]at hx;split at hx
   ·rename_i g;cases hx;exact g
   ·exact j hx
 have P:∀{i:Nat} {r:List FE} {x:Int×Int},JT s i r=some x->x.2≠0:=by
  intro i r;induction r generalizing i with
  |nil=>intro x hx;cases hx
  |cons y r j =>
   intro x hx;rw[JT]at hx;split at hx
   ·cases hx;decide
   ·exact j hx
 unfold Vo at h;split at h
 ·rename_i g;exact absurd h g
 rename_i R;split at h
 ·rename_i g;exact absurd h g
 rename_i T;split at h
 ·cases h
 have I:PU s.fields=0:=by simpa using T
 cases o:LC s 0 s.tenants with
 |some x=>rw[o]at h;exact absurd h (J o)
 | none =>
  rw[o]at h;cases p:LW s 0 s.contracts with
  |some x=>rw[p]at h;exact absurd h (O p)
  | none =>
   rw[p]at h;cases C:JT s 0 s.tenants with
   |some x=>rw[C]at h;exact absurd h (P C)
   |none =>
    exact⟨by simpa using R,AZ4 I,I,λk t U=>by have:=U7 o k t U;rwa [AX]at this,QE p,C⟩
theorem R19.pred{s:FD}(h:R19 s){c:FF}(j:c∈s.contracts):Iq s.fields c.pred:=by
 have g:=h.con c j;unfold Ub at g;split at g
 ·cases g
 split at g
 ·cases g
 split at g
 ·rename_i i;exact absurd g i
 rename_i i;exact AAa (by simpa using i)
theorem vS{H:Fl}(t:FE)(g:ByteArray)(o:Nat)(j:H[o]? =some (some [.str g])):Gq AA 68 [.agg t.c,.ptr o 0] H (.bool (decide (t.name=g))):=by
 refine Fw.drop rfl ?_;refine aC Aes rfl ?_;have i:∀z,(H++z)[o]? =some (some [.str g]):=λz=>by
  have:=(AD.1 j).1;rw[Aa this];exact j
 simp only[f68,go_sem,i,Fk]
theorem ADJ(s:FD)(g:ByteArray)(o:s.tenants.length<=1073741824):Fm AA 36 [.agg s.c,.str g] (bw (Gu s g)):=by
 have i:=ZB (H:=[some s.c,some [.str g]]) s.tenants Fj 68 [] [.ptr 1 0] (λt=>decide (t.name=g)) (λt _=>vS t g 1 rfl);refine pC AgK rfl ?_;simp only[f36,go_sem];repeat' (first|(refine aS (i) ?_;simp only[go_sem])|apply Pz<;>intro j<;>simp only[go_sem,j])
 all_goals first|rfl|skip
def Pn(e:Int):Nat->List FE->Int×Int
 |_,[]=>(-1,-1)
 |i,t::r=>if 0<=Hn t e then((i:Int),Hn t e)else Pn e (i+1) r
def MD(x:List Bool)(j:Nat):Prop:=x[j]? =some true
theorem AHv{x:List Bool}{m j:Nat}(h:MD x j):MD (x.set m true) j:=by
 unfold MD at *;rw[Az];split
 ·rename_i g;subst g;rw[iP (AD.1 h).1]
 ·exact h
theorem XE{x:List Bool}{m j:Nat}(h:MD (x.set m true) j):j=m\/MD x j:=by
 unfold MD at *;rw[Az]at h;split at h
 ·rename_i g;exact .inl g.symm
 ·exact .inr h
section
variable{s:FD}{nm:ByteArray}
theorem T0:∀{l:List FF} {x:List Bool×List Int} {j:Nat},MD x.1 j->MD (Lo s nm l x).1 j
 |[],_,_,h=>h
 |c::r,x,j,h=>by
  rw[Lo];refine T0 ?_;split
  ·exact AHv h
  ·exact h
theorem iX:∀{l:List FF} {x:List Bool×List Int} {c:FF},c∈l->c.src=nm->(Gu s c.dst).toNat<x.1.length->MD (Lo s nm l x).1 (Gu s c.dst).toNat
 | d::r,x,c,g,j,i=>by
  rw[Lo];rcases AY.1 g with rfl|g
  ·refine T0 ?_;split
   ·show(x.1.set _ true)[_]? =some true;rw[Az,iP rfl,iP i]
   ·rename_i o;have:(x.1[(Gu s c.dst).toNat]?).getD true≠false:=λh=>o ⟨j,h⟩;unfold MD;rw[AL i]at this ⊢;cases hx:x.1[(Gu s c.dst).toNat]<;>simp_all
  ·refine iX g j ?_;split<;>simpa using i
theorem Ws:∀{l:List FF} {x:List Bool×List Int},(∀j,MD x.1 j->(j:Int)∈x.2) -> ∀j,MD (Lo s nm l x).1 j->(j:Int)∈(Lo s nm l x).2
 |[],_,h=>h
 | c::r,x,h=>by
  rw[Lo];refine Ws ?_;split
  ·intro j g;rcases XE g with rfl|g
   ·refine List.mem_append_right _ (Ag.2 ?_);unfold Q_;split<;>omega
   ·exact List.mem_append_left _ (h j g)
  ·exact h
theorem Wt:∀(l:List FF) (x:List Bool×List Int),∃t,(Lo s nm l x).2=x.2++t
 |[],x=>⟨[],by simp[Lo]⟩
 | c::r,x=>by
  rw[Lo];split
  ·obtain⟨t,g⟩:=Wt r (x.1.set (Gu s c.dst).toNat true,x.2++[Q_ (Gu s c.dst) 0]);exact⟨[Q_ (Gu s c.dst) 0]++t,by rw[g];simp⟩
  ·exact Wt r x
theorem iU:∀{l:List FF} {x:List Bool×List Int},∀b∈(Lo s nm l x).2,b∈x.2 \/ ∃c∈l,c.src=nm/\b=((Gu s c.dst).toNat:Int)
 |[],_,b,h => .inl h
 | c::r,x,b,h=>by
  rw[Lo]at h;rcases iU b h with h|⟨d,g,i,rfl⟩
  ·split at h
   ·rename_i j;rcases Ar.1 h with h|h
    ·exact .inl h
    ·rcases Ag.1 h with rfl;exact .inr ⟨c,F3,j.1,by unfold Q_;split<;>omega⟩
   ·exact .inl h
  ·exact .inr ⟨d,by simp[g],i,rfl⟩
theorem iV{M:Nat->Prop}: ∀{l:List FF} {x:List Bool×List Int},(∀c∈l,c.src=nm->M (Gu s c.dst).toNat)->(∀j,MD x.1 j->M j) -> ∀j,MD (Lo s nm l x).1 j->M j
 |[],_,_,h=>h
 | c::r,x,i,h=>by
  rw[Lo];refine iV (λd o=>i d (by simp[o])) ?_;split
  ·rename_i p;intro j g;rcases XE g with rfl|g
   ·exact i c F3 p.1
   ·exact h j g
  ·exact h
theorem iT:∀{l:List FF} {x:List Bool×List Int},(∀c∈l,0<=Gu s c.dst)->rOk s x->rOk s (Lo s nm l x)
 |[],_,_,h=>h
 | c::r,x,i,h=>by
  rw[Lo];refine iT (λd t=>i d (by simp[t])) ?_;split
  ·rename_i C;obtain⟨v,_,_,_,I⟩:=Mk (i c F3);have o:=i c F3;refine⟨by simpa using h.1, ?_, ?_⟩
   ·have j:(Gu s c.dst).toNat<x.1.length:=by rw[h.1];omega
    have J:x.1[(Gu s c.dst).toNat]? =some false:=by
     have p:=C.2;rw[AL j]at p ⊢;simpa using p
    rw[lR J];have:=h.2.1;simp;omega
   ·intro a g;rcases Ar.1 g with g|g
    ·exact h.2.2 a g
    ·rcases Ag.1 g with rfl;rw[kI o];exact⟨o,I⟩
  ·exact h
end
section
variable{s:FD}(hd:∀c∈s.contracts,0<=Gu s c.dst)
include hd
theorem Sj:∀(f i:Nat) (x:List Bool×List Int),rOk s x->(∀j,MD x.1 j->(j:Int)∈x.2)->(∀(j:Nat) (a:Int),j<i->x.2[j]? =some a -> ∀c∈s.contracts,c.src=(IN s a).name->MD x.1 (Gu s c.dst).toNat)->s.tenants.length+2<=f+i ->
  (∀(j:Nat) (a:Int),x.2[j]? =some a -> ∀c∈s.contracts,c.src=(IN s a).name->MD (Nm s f i x) (Gu s c.dst).toNat) /\
  (∀a,MD (Nm s f i x) a -> ∀c∈s.contracts,c.src=(IN s (a:Int)).name->MD (Nm s f i x) (Gu s c.dst).toNat)
 | 0,i,x,r,I,J,U=>by
  have h1:=r.2.1;have h2:=db x.1;have h3:=r.1;have all:∀(j:Nat) (a:Int),x.2[j]? =some a -> ∀c∈s.contracts,c.src=(IN s a).name->MD x.1 (Gu s c.dst).toNat:=λj a g=>J j a (by have:=(AD.1 g).1;omega) g;refine⟨all,λa p c o=>?_⟩;obtain⟨j,g⟩:=Ab (I a p);exact all j a g c o
 | f+1,i,x,r,I,J,U=>by
  rw[Nm];split
  ·rename_i V;have hle:=List.getElem?_eq_none_iff.1 V;have all:∀(j:Nat) (a:Int),x.2[j]? =some a -> ∀c∈s.contracts,c.src=(IN s a).name->MD x.1 (Gu s c.dst).toNat:=λj a g=>J j a (by have:=(AD.1 g).1;omega) g;refine⟨all,λa p c o=>?_⟩;obtain⟨j,g⟩:=Ab (I a p);exact all j a g c o
  ·rename_i a p;obtain⟨t,R⟩:=Wt (s:=s) (nm:=(IN s a).name) s.contracts x;have hi:=(AD.1 p).1;have T:=Sj f (i+1) (Lo s (IN s a).name s.contracts x) (iT hd r) (Ws I) (λj b g O c o P=>by
    rw[R,Aa Fj]at O;rcases Nat.lt_or_ge j i with C|C
    ·exact T0 (J j b C O c o P)
    ·have:j=i:=Fj;subst this;rw[p]at O;cases O;obtain⟨v,_,_,_,hv⟩:=Mk (hd c o);have:=hd c o;exact iX o P (by rw[r.1];omega)) Fj
   refine⟨λj b g c o P=>T.1 j b ?_ c o P,T.2⟩;rw[R,Aa (AD.1 g).1];exact g
omit hd in
theorem aV{M:Nat->Prop}(I:∀a,M a -> ∀c∈s.contracts,c.src=(IN s (a:Int)).name->M (Gu s c.dst).toNat): ∀(f i:Nat) (x:List Bool×List Int),(∀a∈x.2,∀c∈s.contracts,c.src=(IN s a).name->M (Gu s c.dst).toNat)->(∀j,MD x.1 j->M j) -> ∀j,MD (Nm s f i x) j->M j
 | 0,_,_,_,h=>h
 | f+1,i,x,r,h=>by
  rw[Nm];split
  ·exact h
  ·rename_i a J;have g:=AB J;refine aV I f (i+1) _ (λb t c o p=>?_) (iV (λc o p=>r a g c o p) h);rcases iU b t with t|⟨d,hd,C,rfl⟩
   ·exact r b t c o p
   ·exact I _ (r a g d hd C) c o p
theorem oN{k:Nat}(J:k<s.tenants.length):(∀c∈s.contracts,c.src=(IN s (k:Int)).name->MD (oO s k) (Gu s c.dst).toNat)/\(∀a,MD (oO s k) a -> ∀c∈s.contracts,c.src=(IN s (a:Int)).name->MD (oO s k) (Gu s c.dst).toNat):=by
 have i:rOk s (As s.tenants.length false,[(k:Int)]):=⟨F3,by rw[lS];rfl,λa o=>by rcases Ag.1 o with rfl;omega⟩;have p:∀j,MD (As s.tenants.length false) j->(j:Int)∈[(k:Int)]:=λj g=>by
  unfold MD at g;have:=AB g;simp at this
 obtain⟨r,t⟩:=Sj hd (s.tenants.length+2) 0 _ i p (λj a g=>Fj) Fj;exact⟨λc C I=>r 0 (k:Int) rfl c C I,t⟩
omit hd in
theorem AHR{k:Nat}{M:Nat->Prop}(i:∀c∈s.contracts,c.src=(IN s (k:Int)).name->M (Gu s c.dst).toNat)(o:∀a,M a -> ∀c∈s.contracts,c.src=(IN s (a:Int)).name->M (Gu s c.dst).toNat): ∀j,MD (oO s k) j->M j:=by
 refine aV o _ _ _ (λa p=>?_) (λj g=>?_)
 ·rcases Ag.1 p with rfl;exact i
 ·unfold MD at g;have:=AB g;simp at this
end
theorem tz:∀{a b:List Bool} {j:Nat},a.length=b.length->(∀i,MD a i->MD b i)->MD b j -> ¬MD a j->PS a<PS b
 |[],[],j,_,_,g,_=>by simp[MD]at g
 |[],_::_,_,h,_,_,_=>by simp at h
 |_::_,[],_,h,_,_,_=>by simp at h
 | x::a,y::b,j,h,J,g,C=>by
  have le:∀{a b:List Bool},a.length=b.length->(∀i,MD a i->MD b i)->PS a<=PS b:=by
   intro a;induction a with
   |nil=>intro b _ _;simp[PS]
   | cons x a O =>
    intro b o h;cases b with
    |nil=>simp at o
    |cons y b =>
     have p:=O (b:=b) (by simpa using o) (λi I=>by have:=h (i+1) (by simpa [MD]using I);simpa [MD]using this);have r:=h 0;simp only[MD,A7,Option.some.injEq]at r;simp only[PS,C3]at p ⊢;cases x<;>cases y<;>simp at r ⊢ <;> omega
  have r:=J 0;simp only[MD,A7,Option.some.injEq]at r;have t:∀i,MD a i->MD b i:=λi I=>by have:=J (i+1) (by simpa [MD]using I);simpa [MD]using this
  have o:a.length=b.length:=by simpa using h
  cases j with
  |zero =>
   have p:=le o t;simp only[MD,A7,Option.some.injEq]at g C;subst g;simp only[PS,C3]at p ⊢;cases x<;>simp at C ⊢;omega
  |succ j =>
   have p:=tz o t (j:=j) (by simpa [MD]using g) (by simpa [MD]using C);simp only[PS,C3]at p ⊢;cases x<;>cases y<;>simp at r ⊢ <;> omega
def rnk(s:FD)(k:Nat):Nat:=PS (oO s k)
theorem Sr{s:FD}: ∀{l:List FE} {i:Nat},JT s i l=none -> ∀j,j<l.length -> ¬MD (oO s ((i+j:Nat):Int)) (i+j)
 |[],_,_,j,g=>by simp at g
 | x::r,i,h,j,g=>by
  rw[JT]at h;split at h
  ·cases h
  ·rename_i o;cases j with
   |zero =>
    intro hm;unfold MD at hm;apply o;simp at hm ⊢;rw[hm];rfl
   |succ j =>
    have:=Sr h j (by simpa using g)
    rwa [show i+1+j=i+(j+1) by omega]at this
theorem R19.rank{s:FD}(h:R19 s){k:Nat}(C:k<s.tenants.length){c:FF}(g:c∈s.contracts)(I:c.src=(IN s (k:Int)).name):rnk s (Gu s c.dst).toNat<rnk s k:=by
 have i:∀c∈s.contracts,0<=Gu s c.dst:=λc g=>(OD (h.con c g)).2;obtain⟨J,r⟩:=oN i C;obtain⟨v,_,_,_,O⟩:=Mk (i c g);have P:=i c g;have hm:=J c g I;have j:(Gu s c.dst).toNat<s.tenants.length:=Fj;have t:=Sr h.loop (Gu s c.dst).toNat j;rw[AX]at t;exact tz (by rw[WF,WF]) (AHR (λd o p=>r _ hm d o p) r) hm t
end Go.AI
namespace Go.AI
open Go.Proofs
set_option maxRecDepth 50000
theorem ADT(l:List Int)(g:l.length<=1048576):Fm AA 35 [.sl none (Gi l)] (.sl (some 1) (Gi l)):=λH =>
 jA _ (XU l) (by rw[Ho];exact g) H
def lCh(l:List (List Int)):List AV:=l.map λc => .sl none (Gi c)
@[go_sem] theorem AdL(l:List (List Int)):Fq (lCh l)=true:=by
 induction l with
 |nil=>rfl
 |cons c l g=>simp only[lCh,List.map_cons,Fq,AV.pure,JJ,Bool.true_and];exact g
section
variable{P:Program}{t kt et:TypeId}{K:Kt}{e:GO}{H:Fl}{d:Tmp}{o:Nat}{l:List (Int×Int)}
end
@[go_sem] theorem Aj4(k:Nat)(l:List Int):F_ k (Gi l)=true:=Gt.2 λc g=>by
 obtain⟨p,_,rfl⟩:=List.mem_map.1 g;rfl
end Go.AI
namespace Go.AI
open Go.Proofs
set_option maxRecDepth 50000
theorem YA{s:FD}{t:FE}(o:Jz s t=0): ∀x∈t.ports,-1<=x.edge/\x.edge<(s.network.edges.length:Int):=by
 have j:JQ s t=0:=by
  unfold Jz at o;split at o
  ·cases o
  ·split at o
   ·rename_i g;exact absurd o g
   ·rename_i g;simpa using g
 have h3:I4 (Q9 s.network.edges.length) RQ t.ports=true:=by
  unfold JQ at j;split at j
  ·cases j
  split at j
  ·cases j
  split at j
  ·cases j
  ·rename_i g;simpa using g
 have h4:∀(r:List Port) (i:Nat),JE (Q9 s.network.edges.length) RQ t.ports i r=true -> ∀x∈r,-1<=x.edge/\x.edge<(s.network.edges.length:Int):=by
  intro r;induction r with
  |nil=>intro i _ x hx;cases hx
  |cons y r C =>
   intro i p x hx;simp only[JE,AQ]at p;rcases AY.1 hx with rfl|hx
   ·have:=p.1.1;simp only[Q9,AQ,decide_eq_true_eq]at this;exact this
   ·exact C _ p.2 x hx
 exact h4 t.ports 0 h3
theorem R19.ck{s:FD}(h:R19 s){k:Nat}{t:FE}(j:s.tenants[k]? =some t):Jz s t=0/\(Gc t).2=0:=by
 have i:=h.ten k t j;unfold Rn at i;split at i
 ·rename_i g;exact absurd i g
 rename_i o;split at i
 ·rename_i g;exact absurd i g
 rename_i h3;exact⟨by simpa using o,by simpa using h3⟩
theorem AAu(s:FD)(R:Fo s.c<=1048576)(T:R19 s)(e:Int):Fm AA 37 [.agg s.c,.int .i64 e] (.tup [.int .i64 (Pn e 0 s.tenants).1,.int .i64 (Pn e 0 s.tenants).2]):=by
 have U:s.tenants.length<=1048576:=XK (IZ R);refine pC AgG rfl ?_;simp only[f37,go_sem];refine F0 s.tenants (λr=>Pn e (s.tenants.length - r.length) r) (λk=>[(1,.int .i64 e),(2,.ptr 0 0),(6,.int .i64 k)]) Fj rfl ?_ ?_
 ·intro k y J V hx g i j O;have hk2:=GI V;have o:s.tenants.length - (J.length+1)=k:=Fj;have p:s.tenants.length - J.length=k+1:=Fj;simp only[AC,o,p,AP]at g ⊢;have P:Hn y e=IH y e:=ac (λx t=>(YA (T.ck hx).1 x t).1) e;simp only[go_sem,i,j,F7 hx];repeat' (first|(apply pK (TL y e);simp only[go_sem,i,j,O,F7 hx,o,p])|apply Pz<;>intro C<;>simp only[go_sem,C,i,j,O,F7 hx,o,p])
  ·rw[g,Pn,P,iP (by simpa using C)]
  ·rw[Pn,P,iN (by simpa using C)]
 ·intro g I;simp only[go_sem,I,dF];rw[AP]at g;rw[g];rfl
theorem ALa{α:Type}{A B:List α}{k:Nat}{x y:α}(hx:A[k]? =some x)(g:B[k]? =some y)(h:¬x=y): ¬A=B:=by
 rintro rfl;rw[hx]at g;cases g;exact h rfl
theorem AHK{α:Type}{A B:List α}{k:Nat}{x:α}(h:A.take k=B.take k)(hx:A[k]? =some x)(g:B[k]? =some x):A.take (k+1)=B.take (k+1):=by
 rw[BF,BF,h,hx,g]
theorem ACK{α:Type}{A B:List α}(h:A.take A.length=B.take A.length)(g:A.length=B.length):A=B:=by
 rw[BL,g,BL]at h;exact h
theorem AkA{b:Bool}{p:Prop}(g:b=true↔p)(h:¬p):b=false:=by
 cases b with
 |false=>rfl
 |true=>exact absurd (g.1 rfl) h
theorem Aj'{b:Bool}{p:Prop}(g:b=true↔p)(h:p):b=true:=g.2 h
theorem rE(a c:List Int)(b:Bool)(o:b=true↔a=c)(P:a.length<=1073741824):Fm AA 27 [.sl none (Gi a),.sl none (Gi c)] (.bool b):=by
 have j:(Gi a).length=a.length:=Ho a;have t:(Gi c).length=c.length:=Ho c;refine pC Agq rfl ?_;simp only[f27,go_sem,j,t];repeat' (first|apply Pz<;>intro i<;>simp only[go_sem,i,j,t])
 all_goals first
  |(rw[AkA o (by rintro rfl;simp_all)];done)
  |skip
 have R:a.length=c.length:=by simp_all;omega
 refine F6 a (λ(_:Unit) (_:List Int)=>()) (λk _=>a.take k=c.take k) (λk _=>[(0,.sl none (Gi a)),(1,.sl none (Gi c)),(5,.int .i64 k)]) (λ_ _=>[]) () Fj rfl rfl rfl ?_ ?_
 ·intro k _ x T U hx p _ C I J;obtain⟨y,r⟩:∃y,c[k]? =some y:=⟨_,AL (by have:=(AD.1 hx).1;omega)⟩;simp only[go_sem,C,I,j,Gj hx,Gj r];repeat' (first|apply Pz<;>intro i<;>simp only[go_sem,i,J])
  ·have g:¬x=y:=by simpa using i
   rw[AkA o (λe=>ALa hx r g (by rw[e]))]
  ·have g:x=y:=by simpa using i
   subst g;exact⟨(),AHK p hx r⟩
 ·intro _ p _;have O:=ACK p Fj;simp only[go_sem,j,AR,dF];rw[Aj' o O]
end Go.AI
