/- A part. -/
import Derived.Test.YtmejnbhofjcibaaGreatDoorMz
set_option linter.unusedSimpArgs false
set_option linter.unusedVariables false
set_option maxHeartbeats 4000000
open Go.Proofs.Tryz
open Go.AI renaming Setup->E1,Tenant->E3,Contract->E4,Port->E5,Edge->E6
open Bool renaming and_eq_false_iff->Cu,and_eq_true->AM,eq_false_iff->Ds,true_and->Be
open Int renaming lt_irrefl->AQ
open List renaming all_cons->Al,all_nil->A8,any_append->C_,any_cons->Au,ext_getElem?->A3,filter_cons->DR,getElem?_append_left->AX,getElem?_cons_zero->A7,getElem?_eq_getElem->AH,getElem?_eq_none->Av,getElem?_eq_some_iff->AC,getElem?_of_mem->Ae,getElem?_set->Ax,getElem?_take->Aj,length_append->AF,length_cons->AD,mem_append->Ar,mem_cons->AY,mem_of_getElem?->AB,mem_singleton->Ab,replicate->A0,replicate_succ->Cj,take_add_one->BD,take_length->BI
open Nat renaming le_refl->AT,le_trans->AL,sub_self->AP,zero_add->AU
open Go.Proofs.Tryz renaming prog->AA
namespace Go.AI
section
variable{P:Program}{t:TypeId}{x y:ByteArray}{d:Tmp}{K:Kt}{e:Fs}{H:cj}
@[go_sem] theorem AW7:IC P .geq t (.str x) (.str y) d K e H=K ((d,.bool !(Op.bytesLess x.toList y.toList))::e) H:=by rw[PH];simp[KJ]
@[go_sem] theorem AW6:IC P .gtr t (.str x) (.str y) d K e H=K ((d,.bool !(Op.bytesLess x.toList y.toList||x.toList==y.toList))::e) H:=by rw[PH];simp[KJ]
end
def IQ(s:E1):Bool :=
 ng s.network 20 40 20&&(decide ((s.fields.length:Int)<=20)&&(decide ((s.tenants.length:Int)<=8)&&(decide ((s.contracts.length:Int)<=12)&&(s.tenants.all MC&&s.contracts.all λc=>Xj c.pred))))
def GY(s:E1)(nm:ByteArray):Int:=H8 (λt:E3=>decide (t.name=nm)) s.tenants
def Hd(s:E1)(k:Int):E3:=(s.tenants[k.toNat]?).getD Tenant.z
theorem gd{α:Type}(p:α->Bool): ∀(l:List α) (i:Nat),G9 p i l = -1 \/ ∃j x,l[j]? =some x/\p x=true/\G9 p i l=((i+j:Nat):Int) /\ ∀m y,m<j->l[m]? =some y->p y=false
 |[],i => .inl rfl
 | x::l,i=>by
  rw[G9]
  cases h:p x with
  |true=>exact .inr ⟨0,x,rfl,h,sm,λm y hm=>FR⟩
  | false =>
   rcases gd p l (i+1)with h1|⟨j,y,h1,h2,h3,h4⟩
   ·exact .inl (by simpa using h1)
   ·refine .inr ⟨j+1,y,h1,h2,by rw[iN sm,h3];congr 1;omega,λm z hm hz=>?_⟩
    cases m with
    |zero=>simp at hz;subst hz;exact h
    |succ m=>exact h4 m z FR (by simpa using hz)
theorem nK{α:Type}(p:α->Bool)(l:List α):(H8 p l = -1 /\ ∀y∈l,p y=false) \/ ∃(j:Nat) (x:α),j<l.length/\l[j]? =some x/\p x=true/\H8 p l=(j:Int) /\ ∀(m:Nat) (y:α),m<j->l[m]? =some y->p y=false:=by
 rcases gd p l 0 with h|⟨j,x,h1,h2,h3,h4⟩
 ·refine .inl ⟨h,λy hy=>?_⟩
  have h2:=Pj p l 0
  rw[h]at h2
  have h3:l.any p=false:=by rw[<- h2];rfl
  rw[List.any_eq_false]at h3
  simpa using h3 y hy
 ·exact .inr ⟨j,x,(AC.1 h1).1,h1,h2,by unfold H8;rw[h3];simp,h4⟩
def Ja(s:E1)(k:Nat)(t:E3):Bool:=t.ports.any λp=>(s.tenants.take k).any λu=>decide (0<=p.edge)&&decide (0<=IS u p.edge)
def Ym(s:E1)(k:Nat)(t:E3):Bool:=decide (0<k) && !TY (Hd s ((k:Int) - 1)).name t.name
def Qd(s:E1)(k:Nat)(t:E3):Int :=
 if JK s t≠0 then JK s t else if(GE t).2≠0 then(GE t).2 else if Ym s k t=true then 4 else if Ja s k t=true then 10 else 0
def KR(s:E1):Nat->List E3->Option (Int×Int)
 |_,[]=>none
 |k,t::r=>if Qd s k t≠0 then some ((k:Int),Qd s k t)else KR s (k+1) r
def e_(t:E3)(n:Int):Bool:=decide (0<=n)&&(decide (n<(t.ports.length:Int))&&decide (0<=O_ t n))
def ACu(s:E1)(n:Int):Bool:=((s.network.nodes[n.toNat]?).map (·.box)).getD false
def AHx(s:E1)(c:E4):Bool :=
 decide (-1<=c.via)&&(decide (c.via<(s.network.nodes.length:Int))&&((decide (c.via<0)||ACu s c.via)&&(decide (0<=c.capacity)&&(decide (c.capacity<=1048576)&&(decide (0<=c.price)&&decide (c.price<=1000))))))
def S5(s:E1)(c:E4):Int :=
 if GY s c.src<0\/GY s c.dst<0 then 9
 else if GY s c.src=GY s c.dst\/e_ (Hd s (GY s c.src)) c.fromPort=false\/e_ (Hd s (GY s c.dst)) c.toPort=false then 1
 else if UA s.fields c.pred≠0 then UA s.fields c.pred
 else if AHx s c=false then 1 else 0
def Kl(s:E1):Nat->List E4->Option (Int×Int)
 |_,[]=>none
 |k,c::r=>if S5 s c≠0 then some ((k:Int),S5 s c)else Kl s (k+1) r
def K4(s:E1)(nm:ByteArray):List E4->List Bool×List Int->List Bool×List Int
 |[],x=>x
 |c::r,x=>K4 s nm r (if c.src=nm/\(x.1[(GY s c.dst).toNat]?).getD true=false then(x.1.set (GY s c.dst).toNat true,x.2++[Qx (GY s c.dst) 0])else x)
def M6(s:E1):Nat->Nat->List Bool×List Int->List Bool
 | 0,_,x=>x.1
 |f+1,i,x=>match x.2[i]? with
  |none=>x.1
  |some a=>M6 s f (i+1) (K4 s (Hd s a).name s.contracts x)
def qQ(s:E1)(k:Int):List Bool:=M6 s (s.tenants.length+2) 0 (A0 s.tenants.length false,[k])
def In(s:E1):Nat->List E3->Option (Int×Int)
 |_,[]=>none
 |k,_::r=>if((qQ s k)[k]?).getD true=true then some (0,21)else In s (k+1) r
def UB(s:E1):Int×Int :=
 if JE s.network≠0 then(0,JE s.network)else if PB s.fields≠0 then(0,PB s.fields)
 else if 64<s.tenants.length\/100<s.contracts.length then(0,2)
 else match KR s 0 s.tenants with
  |some x=>x
  |none=>match Kl s 0 s.contracts with
   |some x=>x
   |none=>(In s 0 s.tenants).getD (0,0)
def JX(s:E1):Bool:=IQ s&&(UB s).2==0
end Go.AI
namespace Go.AI
open Go.Proofs
set_option maxRecDepth 50000
theorem T0{H:cj}(l:List E4)(hl:l.length<=9223372036854775807)(g:FuncId)(fi ca:List AV)(p:E4->Bool)
  (h:∀x∈l,GM AA g (fi.map AV.borrow++(.agg x.c::ca.map AV.borrow)) H (.bool (p x))):
  GM AA 43 [.sl none (F8 l),.fn (.func g) fi ca] H (.int .i64 (H8 p l)):=by
 unfold GM
 refine aC Aa2 rfl ?_
 simp only[f43,go_sem]
 refine Fe l (λr=>G9 p (l.length - r.length) r) (λk=>[(0,.sl none (F8 l)),(1,.fn (.func g) fi ca),(7,.int .i64 l.length),(8,.int .i64 k)]) hl rfl ?_ ?_
 ·intro k x xs hd hx hF h0 h1 hw
  have hk2:=Fq hd
  have e1:l.length - (xs.length+1)=k:=FR
  have e2:l.length - xs.length=k+1:=FR
  simp only[AD,e1,AP]at hF
  simp only[go_sem,h0,h1,Gi hx]
  repeat' (first|(refine aS (h x (AB hx)) ?_;simp only[go_sem])|apply cg<;>intro hc<;>simp only[go_sem,hc,hw,e1,e2])
  ·rw[H8,hF,G9,iP hc]
  ·rw[G9,iN (by rw[hc];decide)]
 ·intro hF hlt
  simp only[go_sem,hlt,dF]
  rw[AP]at hF
  rw[H8,hF];rfl
theorem XJ{H:cj}(l:List E3)(hl:l.length<=9223372036854775807)(g:FuncId)(fi ca:List AV)(p:E3->Bool)
  (h:∀x∈l,GM AA g (fi.map AV.borrow++(.agg x.c::ca.map AV.borrow)) H (.bool (p x))):
  GM AA 88 [.sl none (HX l),.fn (.func g) fi ca] H (.int .i64 (H8 p l)):=by
 unfold GM
 refine aC AYv rfl ?_
 simp only[f88,go_sem]
 refine Fe l (λr=>G9 p (l.length - r.length) r) (λk=>[(0,.sl none (HX l)),(1,.fn (.func g) fi ca),(7,.int .i64 l.length),(8,.int .i64 k)]) hl rfl ?_ ?_
 ·intro k x xs hd hx hF h0 h1 hw
  have hk2:=Fq hd
  have e1:l.length - (xs.length+1)=k:=FR
  have e2:l.length - xs.length=k+1:=FR
  simp only[AD,e1,AP]at hF
  simp only[go_sem,h0,h1,F5 hx]
  repeat' (first|(refine aS (h x (AB hx)) ?_;simp only[go_sem])|apply cg<;>intro hc<;>simp only[go_sem,hc,hw,e1,e2])
  ·rw[H8,hF,G9,iP hc]
  ·rw[G9,iN (by rw[hc];decide)]
 ·intro hF hlt
  simp only[go_sem,hlt,dF]
  rw[AP]at hF
  rw[H8,hF];rfl
theorem AFy(s:E1):FT AA 51 [.agg s.c] (.bool (IQ s)):=by
 refine FT.fit AHA.c λhf=>?_
 have hl1:=SB (P4 hf)
 have hl2:=P9 (P4 hf)
 refine pC AHA rfl ?_
 simp only[f51,go_sem]
 repeat' (first|(apply pK (AU7 _ _ _ _);simp only[go_sem])|apply cg<;>intro hc<;>simp only[go_sem,hc])
 all_goals first
  |rfl
  |(simp only[IQ];rfl)
  |grind[IQ]
  |(simp only[IQ];grind)
  |(simp[IQ, *];done)
  |(simp_all[IQ];done)
  |skip
 all_goals
  refine Fe s.tenants (λr=>r.all MC) (λk=>[(1,.ptr 0 0),(4,.int .i64 k)]) hl1 rfl ?_ ?_
  ·intro k y ys hd hx hF h0 h1 hw
   simp only[go_sem,h0,h1,F5 hx]
   repeat' (first|(apply pK (AU5 _);simp only[go_sem])|apply cg<;>intro hc<;>simp only[go_sem,hc,hw])
   all_goals first
    |rfl
    |(simp only[IQ,Al];rfl)
    |grind[IQ]
    |(simp only[IQ,Al,A8];grind)
    |(simp[IQ,Al,A8, *];done)
    |(simp_all[IQ,Al,A8];done)
    |skip
  ·intro hF hlt
   simp only[go_sem,hlt,dF]
   refine Fe s.contracts (λr=>r.all λx=>Xj x.pred) (λk=>[(1,.ptr 0 0),(6,.int .i64 k)]) hl2 rfl ?_ ?_
   ·intro k y ys hd hx hF h0 h1 hw
    simp only[go_sem,h0,h1,Gi hx]
    repeat' (first|(apply pK (ACi _);simp only[go_sem])|apply cg<;>intro hc<;>simp only[go_sem,hc,hw])
    all_goals first
     |rfl
     |(simp only[IQ,Al];rfl)
     |grind[IQ]
     |(simp only[IQ,Al,A8];grind)
     |(simp[IQ,Al,A8, *];done)
     |(simp_all[IQ,Al,A8];done)
     |skip
   ·intro hF2 hlt2
    simp only[go_sem,hlt2,dF]
    repeat' (first|apply cg<;>intro hc<;>simp only[go_sem,hc])
    all_goals first
     |rfl
     |(simp only[IQ];rfl)
     |grind[IQ]
     |(simp only[IQ,Al,A8];grind)
     |(simp[IQ,Al,A8, *];done)
     |(simp_all[IQ,Al,A8];done)
     |skip
def lX(k:Int):AV:=.tup [.int .i64 (Qx k 0),.bool (decide (0<=k))]
theorem bD(s:E1)(nm:ByteArray)(hl:s.tenants.length<=1073741824):FT AA 172 [.agg s.c,.str nm] (lX (GY s nm)):=by
 refine pC AP7 rfl ?_
 simp only[f172,go_sem]
 refine Fe s.tenants (λr=>G9 (λt:E3=>decide (t.name=nm)) (s.tenants.length - r.length) r) (λk=>[(1,.str nm),(2,.ptr 0 0),(6,.int .i64 k)]) FR rfl ?_ ?_
 ·intro k y ys hd hx hF h0 h1 hw
  have hk2:=Fq hd
  have e1:s.tenants.length - (ys.length+1)=k:=FR
  have e2:s.tenants.length - ys.length=k+1:=FR
  simp only[AD,e1,AP]at hF
  simp only[go_sem,h0,h1,F5 hx,FV]
  repeat' (first|apply cg<;>intro hc<;>simp only[go_sem,hc,hw,e1,e2])
  ·have h2:GY s nm=(k:Int):=by rw[GY,H8,hF,G9,iP hc]
   rw[h2]
   have h3:Qx (k:Int) 0=k:=by unfold Qx;split<;>omega
   rw[lX,h3,decide_eq_true h0]
  ·rw[G9,iN (by rw[hc];decide)]
 ·intro hF hlt
  simp only[go_sem,hlt,dF]
  rw[AP]at hF
  have h2:GY s nm = -1:=by rw[GY,H8,hF];rfl
  rw[h2];rfl
theorem rF(t:E3)(n:Int):FT AA 173 [.agg t.c,.int .i64 n] (.bool (e_ t n)):=by
 refine pC AP3 rfl ?_
 by_cases h:0<=n/\n<(t.ports.length:Int)
 ·obtain⟨h0,h1⟩:=h
  obtain⟨x,hx⟩:∃x,t.ports[n.toNat]? =some x:=⟨_,AH FR⟩
  have hg:=HY hx
  have he:O_ t n=x.edge:=by simp[O_,hx]
  simp only[f173,go_sem,h0,h1,hg]
  repeat' (first|apply cg<;>intro hc<;>simp only[go_sem,hc,h0,h1,hg])
  all_goals (rw[e_,he];simp[h0,h1])
 ·simp only[f173,go_sem]
  repeat' (first|apply cg<;>intro hc<;>simp only[go_sem,hc])
  all_goals first|(simp only[e_];grind)|skip
theorem rx{s:E1}{k:Nat}{t:E3}(h:s.tenants[k]? =some t):Hd s (k:Int)=t:=by simp[Hd,h]
theorem AU0(s:E1)(k:Nat)(t:E3)(hk:s.tenants[k]? =some t)(hl:yo s.fields)(hs:FU s.c<=1073741824)(hb:FU t.c<=1048576)(hn:s.tenants.length<=1073741824):FT AA 95 [.agg s.c,.int .i64 k] (.int .i64 (Qd s k t)) := by
  have hkl:k<s.tenants.length := (AC.1 hk).1
  have hw1:t.wires.length<=1073741824 := AL (NA (Ht hb)) dc
  have hp1:t.ports.length<=1048576 := Rk (Jc hb)
  have hk1 := F5 hk
  have hk2:(k:Int)<(s.tenants.length:Int) := by omega
  have hk3:(0:Int)<=(k:Int) := by omega
  have hbw:∀x∈t.program,FU (HI t x.policy).c<=1073741824 := λx hx=>ZS (by
    have h1 := Ka (HE hb) hx
    have h2:FU x.c<=1048576 := by simpa only[AV.bulk]using h1
    exact Hu h2) (AL (NA (Ht hb)) (AT _))
  have hpg:t.program.length<=1073741824 := AL (Lm (HE hb)) dc
  have q1 := AVD s t hl hs (AL hb dc)
  have q2 := AEh t hw1 hpg hbw
  have htk:(s.tenants.take k).length=k := by rw[List.length_take];omega
  refine pC AYS rfl ?_
  cases q3:(JK s t !=0)with
  | true =>
    simp only[f95,go_sem,hk1,hk3]
    repeat' (first|((first|apply pK q1|apply pK q2);simp only[go_sem,q3])|apply cg<;>intro hc<;>simp only[go_sem,hc,hk1,hk2,hk3,q3])
    rw[Qd,iP (by simpa using q3)]
  |false =>
  cases q4:((GE t).2 !=0)with
  | true =>
    simp only[f95,go_sem,hk1,hk3]
    repeat' (first|((first|apply pK q1|apply pK q2);simp only[go_sem,q3,q4])|apply cg<;>intro hc<;>simp only[go_sem,hc,hk1,hk2,hk3,q3,q4])
    rw[Qd,iN (by simpa using q3),iP (by simpa using q4)]
  |false =>
  rcases Nat.eq_zero_or_pos k with hz|hz
  · have hgt:decide ((0:Int)<(k:Int))=false := decide_eq_false FR
    have q5:Ym s k t=false := by unfold Ym;simp[hz]
    simp only[f95,go_sem,hk1,hk3]
    repeat' (first|((first|apply pK q1|apply pK q2);simp only[go_sem,q3,q4,hgt])|apply cg<;>intro hc<;>simp only[go_sem,hc,hk1,hk2,hk3,q3,q4,hgt])
    refine Fe t.ports (λr=>r.any λp=>(s.tenants.take k).any λu=>decide (0<=p.edge)&&decide (0<=IS u p.edge)) (λi=>[(1,.int .i64 k),(2,.ptr 0 0),(5,.ptr 1 0),(9,.int .i64 i)]) FR rfl ?_ ?_
    · intro i y ys hd hy hF h0 h1 hw
      have hy2 := HY hy
      simp only[go_sem,h1]
      refine Fe (s.tenants.take k) (λr=>r.any λu=>decide (0<=y.edge)&&decide (0<=IS u y.edge)) (λj=>[(1,.int .i64 k),(2,.ptr 0 0),(5,.ptr 1 0),(9,.int .i64 i),(10,.int .i64 j)]) FR rfl ?_ ?_
      · intro j u us hd3 hu3 hF3 g0 g1 gw
        have g1':(j:Int)<(k:Int) := by omega
        have hu4:s.tenants[j]? =some u := by
          rw[Aj]at hu3
          split at hu3
          · exact hu3
          · cases hu3
        have hu5 := F5 hu4
        simp only[go_sem,g1',hy2,h0]
        repeat' (first|(apply pK (jE u y.edge);simp only[go_sem])|apply cg<;>intro hc<;>simp only[go_sem,hc,h0,hy2,g0,gw,hu5])
        all_goals first
          | (have e1:Ja s k t=true := by
               unfold Ja;rw[hF,Au,hF3,Au]
               simp_all
             simp only[decide_eq_true_eq]at *
             rw[Qd,iN (by simpa using q3),iN (by simpa using q4),iN (by rw[q5];decide),iP e1])
          |(rw[Au];simp_all;done)
          |skip
      · intro hF3 hlt
        have hlt2:¬((s.tenants.take k).length:Int)<(k:Int) := by omega
        simp only[go_sem,hlt2,dF,hw]
        have hF4:((s.tenants.take k).any λu=>decide (0<=y.edge)&&decide (0<=IS u y.edge))=false := hF3
        rw[hF4];rfl
    · intro hF hlt
      simp only[go_sem,hlt,dF]
      have e1:Ja s k t=false := by unfold Ja;rw[hF];rfl
      rw[Qd,iN (by simpa using q3),iN (by simpa using q4),iN (by rw[q5];decide),iN (by rw[e1];decide)]
  · obtain ⟨u,hu⟩ : ∃ u,s.tenants[k - 1]? =some u := ⟨_,AH FR⟩
    have hgt:decide ((0:Int)<(k:Int))=true := decide_eq_true FR
    have hw1:IntKind.i64.wrap ((k:Int) - 1)=((k - 1:Nat):Int) := by rw[OY FR FR];omega
    have hw0:(0:Int)<=((k - 1:Nat):Int) := by omega
    have hu2 := F5 hu
    have hu3:Hd s ((k:Int) - 1)=u := by
      have:((k:Int) - 1)=((k - 1:Nat):Int) := by omega
      rw[this];exact rx hu
    cases q5:Ym s k t with
    | true =>
      have q6:(!Op.bytesLess u.name.toList t.name.toList)=true := by
        unfold Ym at q5;rw[hu3]at q5;simp only[AM]at q5;exact q5.2
      simp only[f95,go_sem,hk1,hk3]
      repeat' (first|((first|apply pK q1|apply pK q2);simp only[go_sem,q3,q4,hgt,hw1,hw0,hu2,q6])|apply cg<;>intro hc<;>simp only[go_sem,hc,hk1,hk2,hk3,q3,q4,hgt,hw1,hw0,hu2,q6])
      all_goals first|(rw[Qd,iN (by simpa using q3),iN (by simpa using q4),iP q5])|skip
    | false =>
      have q6:(!Op.bytesLess u.name.toList t.name.toList)=false := by
        unfold Ym at q5;rw[hu3]at q5;simp only[Cu,decide_eq_false_iff_not]at q5
        exact q5.resolve_left FR
      simp only[f95,go_sem,hk1,hk3]
      repeat' (first|((first|apply pK q1|apply pK q2);simp only[go_sem,q3,q4,hgt,hw1,hw0,hu2,q6])|apply cg<;>intro hc<;>simp only[go_sem,hc,hk1,hk2,hk3,q3,q4,hgt,hw1,hw0,hu2,q6])
      refine Fe t.ports (λr=>r.any λp=>(s.tenants.take k).any λu=>decide (0<=p.edge)&&decide (0<=IS u p.edge)) (λi=>[(1,.int .i64 k),(2,.ptr 0 0),(5,.ptr 1 0),(9,.int .i64 i)]) FR rfl ?_ ?_
      · intro i y ys hd hy hF h0 h1 hw
        have hy2 := HY hy
        simp only[go_sem,h1]
        refine Fe (s.tenants.take k) (λr=>r.any λu=>decide (0<=y.edge)&&decide (0<=IS u y.edge)) (λj=>[(1,.int .i64 k),(2,.ptr 0 0),(5,.ptr 1 0),(9,.int .i64 i),(10,.int .i64 j)]) FR rfl ?_ ?_
        · intro j u us hd3 hu3 hF3 g0 g1 gw
          have g1':(j:Int)<(k:Int) := by omega
          have hu4:s.tenants[j]? =some u := by
            rw[Aj]at hu3
            split at hu3
            · exact hu3
            · cases hu3
          have hu5 := F5 hu4
          simp only[go_sem,g1',hy2,h0]
          repeat' (first|(apply pK (jE u y.edge);simp only[go_sem])|apply cg<;>intro hc<;>simp only[go_sem,hc,h0,hy2,g0,gw,hu5])
          all_goals first
            | (have e1:Ja s k t=true := by
                 unfold Ja;rw[hF,Au,hF3,Au]
                 simp_all
               simp only[decide_eq_true_eq]at *
               rw[Qd,iN (by simpa using q3),iN (by simpa using q4),iN (by rw[q5];decide),iP e1])
            |(rw[Au];simp_all;done)
            |skip
        · intro hF3 hlt
          have hlt2:¬((s.tenants.take k).length:Int)<(k:Int) := by omega
          simp only[go_sem,hlt2,dF,hw]
          have hF4:((s.tenants.take k).any λu=>decide (0<=y.edge)&&decide (0<=IS u y.edge))=false := hF3
          rw[hF4];rfl
      · intro hF hlt
        simp only[go_sem,hlt,dF]
        have e1:Ja s k t=false := by unfold Ja;rw[hF];rfl
        rw[Qd,iN (by simpa using q3),iN (by simpa using q4),iN (by rw[q5];decide),iN (by rw[e1];decide)]
theorem Lx{s:E1}{nm:ByteArray}(h:0<=GY s nm): ∃t,s.tenants[(GY s nm).toNat]? =some t/\t.name=nm/\Hd s (GY s nm)=t/\GY s nm<(s.tenants.length:Int):=by
 rcases nK (λt:E3=>decide (t.name=nm)) s.tenants with⟨h1,_⟩|⟨j,x,h1,h2,h3,h4,_⟩
 ·unfold GY at h;omega
 ·have h5:GY s nm=(j:Int):=h4
  rw[h5]
  exact⟨x,by simpa using h2,by simpa using h3,by simp[Hd,h2],FR⟩
theorem gX{k:Int}(h:0<=k):Qx k 0=k:=by unfold Qx;split<;>omega
theorem AU9(s:E1)(c:E4)(hl:yo s.fields)(hb:FU c.c<=1073741824)(hn:s.tenants.length<=1073741824):FT AA 96 [.agg s.c,.agg c.c] (.int .i64 (S5 s c)):=by
 have q1:=bD s c.src hn
 have q2:=bD s c.dst hn
 simp only[lX]at q1 q2
 refine pC AYO rfl ?_
 by_cases ha:0<=GY s c.src
 ·by_cases hd:0<=GY s c.dst
  ·obtain⟨a,ha1,_,ha2,ha3⟩:=Lx ha
   obtain⟨b,hb1,_,hb2,hb3⟩:=Lx hd
   have ha4:=F5 ha1
   have hb4:=F5 hb1
   rw[gX ha,decide_eq_true ha]at q1
   rw[gX hd,decide_eq_true hd]at q2
   have q3:=rF a c.fromPort
   have q4:=rF b c.toPort
   have q5:=ACm s.fields c.pred hl (TK hb)
   have e0:¬(GY s c.src<0\/GY s c.dst<0):=FR
   rw[S5,iN e0,ha2,hb2]
   by_cases hv:0<=c.via/\c.via<(s.network.nodes.length:Int)
   ·obtain⟨nd,hnd⟩:∃nd,s.network.nodes[c.via.toNat]? =some nd:=⟨_,AH FR⟩
    have hnd2:=Ln hnd
    have hbx:ACu s c.via=nd.box:=by simp[ACu,hnd]
    have hv0:=hv.1
    simp only[f96,go_sem]
    repeat' (first|((first|apply pK q1|apply pK q2|apply pK q3|apply pK q4|apply pK q5);simp only[go_sem,ha,hd,ha4,hb4])|apply cg<;>intro hc<;>simp only[go_sem,hc,hnd2,hv0])
    all_goals first|(simp only[AHx,hbx];grind)|skip
   ·simp only[f96,go_sem]
    repeat' (first|((first|apply pK q1|apply pK q2|apply pK q3|apply pK q4|apply pK q5);simp only[go_sem,ha,hd,ha4,hb4])|apply cg<;>intro hc<;>simp only[go_sem,hc])
    all_goals first|(simp only[AHx];grind)|skip
  ·rw[decide_eq_false hd]at q2
   simp only[f96,go_sem]
   repeat' (first|((first|apply pK q1|apply pK q2);simp only[go_sem])|apply cg<;>intro hc<;>simp only[go_sem,hc])
   all_goals first|(rw[S5,iP FR])|skip
 ·rw[decide_eq_false ha]at q1
  simp only[f96,go_sem]
  repeat' (first|((first|apply pK q1|apply pK q2);simp only[go_sem])|apply cg<;>intro hc<;>simp only[go_sem,hc])
  all_goals first|(rw[S5,iP FR])|skip
def N5(l:List Bool):List AV:=l.map .bool
theorem Wb(l:List Bool):(N5 l).length=l.length:=by simp[N5]
theorem jS{l:List Bool}{i:Nat}{b:Bool}(h:l[i]? =some b):(N5 l)[i]? =some (.bool b):=by simp[N5,h]
theorem ADD{l:List Bool}{i:Nat}(h:i<l.length)(b:Bool):splice (N5 l) i [.bool b]=N5 (l.set i b):=by
 apply A3
 intro j
 have hl:=Wb l
 rw[Je Hy]
 simp only[N5,List.getElem?_map,Ax,List.length_singleton]
 by_cases hj:i<=j/\j<i+1
 ·have:j=i:=FR
  subst this
  rw[iP hj,iP rfl,iP h];simp
 ·rw[iN hj,iN FR]
@[go_sem] theorem AW_(l:List Bool):FW (N5 l)=true:=by
 induction l with
 |nil=>rfl
 |cons b l ih=>exact ih
theorem oo(l:List Bool):Ho false 1 l.length ((N5 l).map borrow1)=N5 l:=by
 induction l with
 |nil=>rfl
 |cons b l ih =>
  show AV.bool b::Ho false 1 l.length ((N5 l).map borrow1)=AV.bool b::N5 l
  rw[ih]
theorem ADE(n:Nat):(A0 n [AV.bool false]).flatten=N5 (A0 n false):=by
 induction n with
 |zero=>rfl
 |succ n ih=>rw[Cj,List.flatten_cons,ih];rfl
def P5(l:List Bool):Nat:=(l.filter id).length
theorem ay(l:List Bool):P5 l<=l.length:=List.length_filter_le _ _
theorem ir{l:List Bool}{i:Nat}(h:l[i]? =some false):P5 (l.set i true)=P5 l+1:=by
 induction l generalizing i with
 |nil=>simp at h
 | cons b l ih =>
  cases i with
  |zero=>simp at h;subst h;simp[P5]
  |succ i =>
   have:=ih (i:=i) (by simpa using h)
   simp only[List.set_cons_succ,P5,DR]at this ⊢
   split<;>simp_all
theorem iu(n:Nat):P5 (A0 n false)=0:=by
 induction n with
 |zero=>rfl
 |succ n ih=>rw[Cj];exact ih
def rOk(s:E1)(x:List Bool×List Int):Prop:=x.1.length=s.tenants.length/\x.2.length=1+P5 x.1 /\ ∀a∈x.2,0<=a/\a<(s.tenants.length:Int)
theorem xf(s:E1)(k:Nat)(hk:k<s.tenants.length)(hn:s.tenants.length<=1048576)(hc:s.contracts.length<=1048576)(hf:∀c∈s.contracts,0<=GY s c.dst):FT AA 97 [.agg s.c,.int .i64 k] (.sl none (N5 (qQ s k))):=by
 refine pB AYJ rfl ?_
 have hz:Fk AA 4=some (.bool false):=kr
 have n0:(s.tenants.length:Int)*((1:Nat):Int)<=140737488355328:=FR
 simp only[f97,go_sem]
 refine⟨FR,n0,FR, ?_⟩
 refine Ku (σ:=Nat×List Bool×List Int) (λx=>[(2,.ptr 0 0),(5,.msl 1 0 s.tenants.length 1),(6,.sl (some 1) (GK x.2.2)),(7,.int .i64 x.1)]) (λx=>[some s.c,some (N5 x.2.1)])
  (λx=>x.1<=x.2.2.length/\rOk s x.2/\qQ s k=M6 s (s.tenants.length+2 - x.1) x.1 x.2) (λx=>s.tenants.length+2 - x.1) (0,A0 s.tenants.length false,[(k:Int)])
  ⟨Nat.zero_le _,⟨sm,by rw[iu];rfl,λa ha=>by rcases Ab.1 ha with rfl;omega⟩,rfl⟩ rfl (by rw[ADE]) ?_
 rintro ⟨i,seen,q⟩ ⟨hi,hR,hE⟩
 have hq:=hR.2.1
 have hcn:=ay seen
 have hsl:=hR.1
 simp only at hi hq hcn hsl
 by_cases hlt:i<q.length
 ·obtain⟨a,ha⟩:∃a,q[i]? =some a:=⟨_,AH hlt⟩
  obtain⟨ha0,ha1⟩:=hR.2.2 a (AB ha)
  obtain⟨u,hu⟩:∃u,s.tenants[a.toNat]? =some u:=⟨_,AH FR⟩
  have hu2:=F5 hu
  have hu3:Hd s a=u:=by simp[Hd,hu]
  have hlt2:(i:Int)<(q.length:Int):=FR
  have hw:=Mg (k:=i) FR
  have hi0:(0:Int)<=(i:Int):=FR
  simp only[go_sem,hlt2]
  refine Fg s.contracts (λx r=>K4 s u.name r x) (λ_ x=>rOk s x/\x.2[i]? =some a) (λj x=>[(2,.ptr 0 0),(5,.msl 1 0 s.tenants.length 1),(6,.sl (some 1) (GK x.2)),(7,.int .i64 i),(8,.int .i64 j)]) (λj x=>[some s.c,some (N5 x.1)]) (seen,q) FR ⟨hR,ha⟩ rfl rfl ?_ ?_
  ·rintro j ⟨sn,p⟩ c cs hd hcx ⟨hRx,hax⟩ hF g0 g1 gw
   have hcm:=AB hcx
   have hc2:=Gi hcx
   have ht0:=hf c hcm
   obtain⟨v,hv1,_,_,hv4⟩:=Lx ht0
   obtain⟨m,hm⟩:∃m:Nat,GY s c.dst=(m:Int):=⟨(GY s c.dst).toNat,FR⟩
   have q1:=bD s c.dst FR
   rw[lX,gX ht0,decide_eq_true ht0,hm]at q1
   have hm1:m<sn.length:=by rw[hRx.1];omega
   have hm2:(m:Int)<(s.tenants.length:Int):=FR
   have hm0:(0:Int)<=(m:Int):=FR
   obtain⟨b,hb⟩:∃b,sn[m]? =some b:=⟨_,AH hm1⟩
   have hb2:=jS hb
   have hp2:=Gl hax
   have hst:=ADD hm1 true
   have hpl:(GK p).length=p.length:=HR p
   have hrl:=Wb sn
   have hq2:=hRx.2.1
   have hcn2:=ay sn
   simp only at hq2 hcn2
   have hsn:=hRx.1
   simp only at hsn
   have hm3:(m+1<=sn.length)=True:=eq_true FR
   simp only[go_sem,g0,g1,hc2]
   repeat' (first|(apply pK q1;simp only[go_sem,g0,hc2,hi0,hp2,ha0,hu2,FV])|apply cg<;>intro hc<;>simp only[go_sem,hc,hm0,hm2,hb2,hst,hrl,gw,hm3])
   ·have hb3:b=false:=by simpa using hc
    subst hb3
    rename_i hc1
    refine⟨FR,FR,(sn.set m true,p++[(m:Int)]), ?_,⟨⟨by simpa using hsn,by rw[ir hb];simp;omega, ?_⟩, ?_⟩, ?_⟩
    ·rw[K4,iP ⟨by simpa using hc1,by rw[hm];simp[hb]⟩,hm,gX hm0];simp
    ·intro z hz
     rcases Ar.1 hz with hz|hz
     ·exact hRx.2.2 z hz
     ·rcases Ab.1 hz with rfl;exact⟨hm0,hm2⟩
    ·rw[AX (AC.1 hax).1];exact hax
    ·exact⟨rfl,rfl⟩
   ·have hb3:b=true:=by simpa using hc
    subst hb3
    exact⟨(sn,p),by rw[K4,iN (by rw[hm];simp[hb])],⟨hRx,hax⟩,rfl,rfl⟩
   ·rename_i hc1
    exact⟨(sn,p),by rw[K4,iN (λh=>by simp[h.1]at hc)],⟨hRx,hax⟩,rfl,rfl⟩
  ·rintro ⟨sn,p⟩ ⟨hRx,hax⟩ hF
   simp only[go_sem,AQ,dF,hw]
   have hF':K4 s u.name s.contracts (seen,q)=(sn,p):=hF
   have e2:s.tenants.length+2 - i=(s.tenants.length+2 - (i+1))+1:=FR
   have hpi:=(AC.1 hax).1
   simp only at hpi
   refine⟨(i+1,sn,p),⟨by simp only;omega,hRx, ?_⟩,by simp only;omega,rfl,rfl⟩
   rw[hE]
   simp only
   rw[e2,M6]
   simp only[ha]
   rw[hu3,hF']
 ·have hlt2:¬(i:Int)<(q.length:Int):=FR
  have hfr:(s.tenants.length<=(N5 seen).length/\(False\/True))=True:=eq_true ⟨by rw[Wb];omega,.inr trivial⟩
  have hch:Ho false 1 s.tenants.length ((N5 seen).map borrow1)=N5 seen:=by rw[<- hsl];exact oo seen
  have e2:s.tenants.length+2 - i=(s.tenants.length+1 - i)+1:=FR
  have hE2:qQ s k=seen:=by
   rw[hE]
   simp only
   rw[e2,M6]
   simp only[Av (Nat.le_of_not_lt hlt)]
  rw[hE2]
  simp only[go_sem,hlt2,dF,hfr,hch]
theorem d8(s:E1)(nm:ByteArray): ∀(l:List E4) (x:List Bool×List Int),(K4 s nm l x).1.length=x.1.length
 |[],x=>rfl
 |c::r,x=>by
  rw[K4,d8 s nm r]
  split<;>simp
theorem Yg(s:E1): ∀(f i:Nat) (x:List Bool×List Int),(M6 s f i x).length=x.1.length
 | 0,_,_=>rfl
 |f+1,i,x=>by
  rw[M6]
  split
  ·rfl
  ·rw[Yg s f,d8]
theorem Zt(s:E1)(k:Int):(qQ s k).length=s.tenants.length:=by rw[qQ,Yg];simp
theorem PA{s:E1}: ∀{l:List E4} {i:Nat},Kl s i l=none -> ∀c∈l,S5 s c=0
 |[],_,_,c,hc=>by cases hc
 | x::r,i,h,c,hc=>by
  rw[Kl]at h
  split at h
  ·cases h
  ·rename_i hx
   rcases AY.1 hc with rfl|hc
   ·simpa using hx
   ·exact PA h c hc
theorem TQ{s:E1}: ∀{l:List E3} {i:Nat},KR s i l=none -> ∀(j:Nat) (t:E3),l[j]? =some t->Qd s (i+j) t=0
 |[],_,_,j,t,hc=>by simp at hc
 | x::r,i,h,j,t,hc=>by
  rw[KR]at h
  split at h
  ·cases h
  ·rename_i hx
   cases j with
   |zero=>simp at hc;subst hc;simpa using hx
   |succ j =>
    have:=TQ h j t (by simpa using hc)
    rwa [show i+1+j=i+(j+1) by omega]at this
theorem NP{s:E1}{c:E4}(h:S5 s c=0):0<=GY s c.src/\0<=GY s c.dst:=by
 unfold S5 at h
 split at h
 ·cases h
 ·omega
theorem AVC(s:E1)(hs:FU s.c<=1048576):FT AA 52 [.agg s.c] (.tup [.int .i64 (UB s).1,.int .i64 (UB s).2]):=by
 have hnt:s.tenants.length<=1048576:=mj (Hk hs)
 have hnc:s.contracts.length<=1048576:=I8 (G5 hs)
 have hs2:FU s.c<=1073741824:=AL hs dc
 have q1:=AF1 s.network (NV hs2)
 have q2:=AfD s.fields (Hv hs2)
 refine pC AaT rfl ?_
 by_cases e1:JE s.network=0
 ·by_cases e2:PB s.fields=0
  ·have hl:yo s.fields:=λf hf=>Int.le_trans (ZN e2 f hf) dc
   have e3:(JE s.network !=0)=false:=by simp[e1]
   have e4:(PB s.fields !=0)=false:=by simp[e2]
   by_cases e5:64<s.tenants.length\/100<s.contracts.length
   ·have h0:UB s=(0,2):=by unfold UB;rw[iN (by simp[e1]),iN (by simp[e2]),iP e5]
    rw[h0]
    simp only[f52,go_sem]
    repeat' (first|((first|apply pK q1|apply pK q2);simp only[go_sem,e3,e4])|apply cg<;>intro hc<;>simp only[go_sem,hc])
    all_goals first|rfl|(simp only[decide_eq_false_iff_not]at *;omega)|skip
   ·have h0:UB s=(match KR s 0 s.tenants with
      |some x=>x
      |none=>match Kl s 0 s.contracts with
       |some x=>x
       |none=>(In s 0 s.tenants).getD (0,0)):=by unfold UB;rw[iN (by simp[e1]),iN (by simp[e2]),iN e5]<;>rfl
    have g1:¬(64:Int)<(s.tenants.length:Int):=FR
    have g2:¬(100:Int)<(s.contracts.length:Int):=FR
    simp only[f52,go_sem]
    repeat' (first|((first|apply pK q1|apply pK q2);simp only[go_sem,e3,e4,g1,g2,dF])|apply cg<;>intro hc<;>simp only[go_sem,hc,e3,e4,g1,g2,dF])
    refine Fe s.tenants (λr=>KR s (s.tenants.length - r.length) r) (λk=>[(1,.ptr 0 0),(5,.int .i64 k)]) FR rfl ?_ ?_
    ·intro k y ys hd hx hF k0 k1 hw
     have hk2:=Fq hd
     have d1:s.tenants.length - (ys.length+1)=k:=FR
     have d2:s.tenants.length - ys.length=k+1:=FR
     simp only[AD,d1,AP]at hF ⊢
     have hby:FU y.c<=1048576:=by have:=L6 (Hk hs) (AB hx);simpa only[AV.bulk]using this
     simp only[go_sem,k1]
     repeat' (first|(apply pK (AU0 s k y hx hl hs2 hby FR);simp only[go_sem])|apply cg<;>intro hc<;>simp only[go_sem,hc,hw,d1,d2])
     ·have h1:KR s 0 s.tenants=some ((k:Int),Qd s k y):=by rw[hF,KR,iP (by simpa using hc)]
      rw[h0,h1]
     ·rw[KR,iN (by simpa using hc)]
    ·intro hF hlt
     have hT:KR s 0 s.tenants=none:=by rw[AP]at hF;rw[hF];rfl
     simp only[go_sem,hlt,dF]
     refine Fe s.contracts (λr=>Kl s (s.contracts.length - r.length) r) (λk=>[(1,.ptr 0 0),(6,.int .i64 k)]) FR rfl ?_ ?_
     ·intro k y ys hd hx hF2 k0 k1 hw
      have hk2:=Fq hd
      have d1:s.contracts.length - (ys.length+1)=k:=FR
      have d2:s.contracts.length - ys.length=k+1:=FR
      simp only[AD,d1,AP]at hF2 ⊢
      have hby:FU y.c<=1073741824:=by
       have h5:=aW (G5 hs) (AB hx)
       have h6:FU y.c<=1048576:=by simpa only[AV.bulk]using h5
       exact AL h6 dc
      simp only[go_sem,k0,k1,Gi hx]
      repeat' (first|(apply pK (AU9 s y hl hby FR);simp only[go_sem])|apply cg<;>intro hc<;>simp only[go_sem,hc,hw,d1,d2])
      ·have h1:Kl s 0 s.contracts=some ((k:Int),S5 s y):=by rw[hF2,Kl,iP (by simpa using hc)]
       rw[h0,hT,h1]
      ·rw[Kl,iN (by simpa using hc)]
     ·intro hF2 hlt2
      have hC:Kl s 0 s.contracts=none:=by rw[AP]at hF2;rw[hF2];rfl
      have hdst:∀c∈s.contracts,0<=GY s c.dst:=λc hc=>(NP (PA hC c hc)).2
      simp only[go_sem,hlt2,dF]
      refine Fe s.tenants (λr=>In s (s.tenants.length - r.length) r) (λk=>[(1,.ptr 0 0),(7,.int .i64 k)]) FR rfl ?_ ?_
      ·intro k y ys hd hx hF3 k0 k1 hw
       have hk2:=Fq hd
       have d1:s.tenants.length - (ys.length+1)=k:=FR
       have d2:s.tenants.length - ys.length=k+1:=FR
       simp only[AD,d1,AP]at hF3 ⊢
       have q3:=xf s k FR hnt hnc hdst
       have hrl:(qQ s k).length=s.tenants.length:=Zt s k
       obtain⟨b,hb⟩:∃b,(qQ s k)[k]? =some b:=⟨_,AH FR⟩
       have hb2:=jS hb
       simp only[go_sem,k1]
       repeat' (first|(apply pK q3;simp only[go_sem,k0,hb2])|apply cg<;>intro hc<;>simp only[go_sem,hc,hw,d1,d2])
       ·have h1:In s 0 s.tenants=some (0,21):=by rw[hF3,In,iP (by rw[hb];simpa using hc)]
        rw[h0,hT,hC,h1];rfl
       ·rw[In,iN (by rw[hb];simpa using hc)]
      ·intro hF3 hlt3
       have hL:In s 0 s.tenants=none:=by rw[AP]at hF3;rw[hF3];rfl
       simp only[go_sem,hlt3,dF]
       rw[h0,hT,hC,hL];rfl
  ·have e3:(JE s.network !=0)=false:=by simp[e1]
   have e4:(PB s.fields !=0)=true:=by simp[e2]
   have h0:UB s=(0,PB s.fields):=by unfold UB;rw[iN (by simp[e1]),iP e2]
   rw[h0]
   simp only[f52,go_sem]
   repeat' (first|((first|apply pK q1|apply pK q2);simp only[go_sem,e3,e4])|apply cg<;>intro hc<;>simp only[go_sem,hc,e3,e4])
 ·have e3:(JE s.network !=0)=true:=by simp[e1]
  have h0:UB s=(0,JE s.network):=by unfold UB;rw[iP e1]
  rw[h0]
  simp only[f52,go_sem]
  repeat' (first|((first|apply pK q1|apply pK q2);simp only[go_sem,e3])|apply cg<;>intro hc<;>simp only[go_sem,hc,e3])
theorem xe(s:E1)(hs:FU s.c<=1048576):FT AA 19 [.agg s.c] (.bool (JX s)):=by
 refine pC Ab3 rfl ?_
 simp only[f19,go_sem]
 repeat' (first|((first|apply pK (AFy s)|apply pK (AVC s hs));simp only[go_sem])|apply cg<;>intro hc<;>simp only[go_sem,hc])
 all_goals first
  |rfl
  |(simp only[JX];rfl)
  |grind[JX]
  |(simp only[JX];grind)
  |(simp[JX, *];done)
  |(simp_all[JX];done)
  |skip
theorem AAU(l:List Fld)(hl:Iq l)(hln:l.length<=9223372036854775807)(x:Pred)(hx:IP l x)(t:Int)(h:Head)(hr:FZ h=true):FT AA 45 [.sl none (GL l),.agg x.c,.agg h.c,.int .i64 t] (.bool (hP l t x h)):=by
 have c1:Fa AA 79 [.sl none (GL l),.int .i64 t] [some x.c,some h.c] λv H'=>v = .ptr 4 0/\H'=[some x.c,some h.c]++[some [.sl none (GL l)],some [.int .i64 t],some (Zc 2),some [.ptr 4 0]]:=AXZ l t [some x.c,some h.c]
 have hW:gT l t 3 5 2 4 ([some x.c,some h.c]++[some [.sl none (GL l)],some [.int .i64 t],some (Zc 2),some [.ptr 4 0]]):=⟨rfl,rfl,⟨none,rfl⟩,rfl⟩
 have c2:PP AA 139 [.agg x.c,.agg h.c,.ptr 3 0,.ptr 5 0,.ptr 2 0] ([some x.c,some h.c]++[some [.sl none (GL l)],some [.int .i64 t],some (Zc 2),some [.ptr 4 0]]) (.bool (hP l t x h)):=λH2 hv=>eU l hl hln t 3 5 2 4 x hx h hr H2 (hW.view hv)
 have ho:∀ops,h45.ord 1 ops=(mP [6,7] ops.size).filterMap λi=>ops[i]?:=λops=>rfl
 have hI:mP [6,7] 10=[6,7,0,1,2,3,4,5,8,9]:=dc
 simp only[Zc]at c1 c2
 refine pB Aat rfl ?_
 simp only[f45,go_sem]
 rw[PK _ _ _ (by simp only[go_sem]) rfl,ho]
 simp only[List.size_toArray,AD,List.length_nil,Nat.reduceAdd,hI,List.filterMap_cons,List.getElem?_toArray,List.getElem?_cons_succ,A7,List.filterMap_nil]
 simp only[go_sem]
 refine⟨_,_,c1, ?_⟩
 simp only[go_sem]
 repeat' (first|(refine rK (c2) ?_;simp only[go_sem])|apply cg<;>intro hc<;>simp only[go_sem,hc])
 all_goals first|rfl|skip
def LV(s:E1)(nm:ByteArray)(h:Head)(t:Int)(c:E4):Bool:=decide (c.src=nm)&&(c.fromPort==h.h0&&hP s.fields t c.pred h)
theorem AAc{H:cj}(s:E1)(hl:Iq s.fields)(hln:s.fields.length<=9223372036854775807)(k:Nat)(u:E3)(hu:s.tenants[k]? =some u)(h:Head)(hr:FZ h=true)(t:Int)(c:E4)(hx:IP s.fields c.pred)
  (os ok oh ot:Nat)(h1:H[os]? =some (some s.c))(h2:H[ok]? =some (some [.int .i64 k]))(h3:H[oh]? =some (some h.c))(h4:H[ot]? =some (some [.int .i64 t])):
  GM AA 44 [.agg c.c,.ptr os 0,.ptr ok 0,.ptr oh 0,.ptr ot 0] H (.bool (LV s u.name h t c)):=by
 refine Fa.drop rfl ?_
 have g1:=FY h1
 have g2:=FY h2
 have g3:=FY h3
 have g4:=FY h4
 have q0:=q_0 H
 have hu2:=F5 hu
 have hk0:(0:Int)<=(k:Int):=FR
 refine aC Aay rfl ?_
 simp only[f44,go_sem,g1,g2,q0,hu2,hk0,FV]
 repeat' (first|(apply pK (AAU s.fields hl hln c.pred hx t h hr);simp only[go_sem])|apply cg<;>intro hc<;>simp only[go_sem,hc,g1,g3,g4,q0])
 all_goals first|(simp only[LV];grind)|skip
theorem qa(s:E1)(hl:Iq s.fields)(hln:s.fields.length<=9223372036854775807)(hcl:s.contracts.length<=9223372036854775807)(k:Nat)(u:E3)(hu:s.tenants[k]? =some u)(h:Head)(hr:FZ h=true)(t:Int)(hx:∀c∈s.contracts,IP s.fields c.pred):
  FT AA 15 [.agg s.c,.int .i64 k,.agg h.c,.int .i64 t] (.int .i64 (H8 (LV s u.name h t) s.contracts)):=by
 have c1:=T0 (H:=[some s.c,some [.int .i64 k],some h.c,some [.int .i64 t]]) s.contracts hcl 44 [] [.ptr 0 0,.ptr 1 0,.ptr 2 0,.ptr 3 0] (LV s u.name h t)
  (λc hc=>AAc s hl hln k u hu h hr t c (hx c hc) 0 1 2 3 rfl rfl rfl rfl)
 refine pC AcF rfl ?_
 simp only[f15,go_sem]
 repeat' (first|(refine aS (c1) ?_;simp only[go_sem])|apply cg<;>intro hc<;>simp only[go_sem,hc])
 all_goals first|rfl|skip
theorem xS{l:List Fld}{x:Pred}(h:UA l x=0):IP l x:=by
 unfold UA at h
 split at h
 ·rename_i h1
  refine⟨?_,(Po l _).1 h⟩
  unfold ckP qt at h1
  split at h1
  ·split at h1
   ·assumption
   ·cases h1
  ·rename_i h2;exact absurd h1 h2
 ·rename_i h1;exact absurd h h1
structure R19 (s:E1):Prop where
 net:JE s.network=0
 fld:Iq s.fields
 fld0:PB s.fields=0
 ten:∀(k:Nat) (t:E3),s.tenants[k]? =some t->Qd s k t=0
 con:∀c∈s.contracts,S5 s c=0
 loop:In s 0 s.tenants=none
theorem SY{s:E1}(h:JX s=true):R19 s:=by
 unfold JX at h
 simp only[AM,beq_iff_eq]at h
 obtain⟨_,h⟩:=h
 have l1:∀{i:Nat} {r:List E3} {x:Int×Int},KR s i r=some x->x.2≠0:=by
  intro i r
  induction r generalizing i with
  |nil=>intro x hx;cases hx
  |cons y r ih =>
   intro x hx
   rw[KR]at hx
   split at hx
   ·rename_i hne;cases hx;exact hne
   ·exact ih hx
 have l2:∀{i:Nat} {r:List E4} {x:Int×Int},Kl s i r=some x->x.2≠0:=by
  intro i r
  induction r generalizing i with
  |nil=>intro x hx;cases hx
  |cons y r ih =>
   intro x hx
   rw[Kl]at hx
   split at hx
   ·rename_i hne;cases hx;exact hne
   ·exact ih hx
 have l3:∀{i:Nat} {r:List E3} {x:Int×Int},In s i r=some x->x.2≠0:=by
  intro i r
  induction r generalizing i with
  |nil=>intro x hx;cases hx
  |cons y r ih =>
   intro x hx
   rw[In]at hx
   split at hx
   ·cases hx;decide
   ·exact ih hx
 unfold UB at h
 split at h
 ·rename_i hne;exact absurd h hne
 rename_i h1
 split at h
 ·rename_i hne;exact absurd h hne
 rename_i h2
 split at h
 ·cases h
 have hF:PB s.fields=0:=by simpa using h2
 cases hT:KR s 0 s.tenants with
 |some x=>rw[hT]at h;exact absurd h (l1 hT)
 | none =>
  rw[hT]at h
  cases hC:Kl s 0 s.contracts with
  |some x=>rw[hC]at h;exact absurd h (l2 hC)
  | none =>
   rw[hC]at h
   cases hL:In s 0 s.tenants with
   |some x=>rw[hL]at h;exact absurd h (l3 hL)
   |none =>
    exact⟨by simpa using h1,AUz hF,hF,λk t ht=>by have:=TQ hT k t ht;rwa [AU]at this,PA hC,hL⟩
theorem R19.pred{s:E1}(h:R19 s){c:E4}(hc:c∈s.contracts):IP s.fields c.pred:=by
 have h1:=h.con c hc
 unfold S5 at h1
 split at h1
 ·cases h1
 split at h1
 ·cases h1
 split at h1
 ·rename_i h2;exact absurd h1 h2
 rename_i h2
 exact xS (by simpa using h2)
theorem sW{H:cj}(t:E3)(nm:ByteArray)(o:Nat)(ho:H[o]? =some (some [.str nm])):GM AA 89 [.agg t.c,.ptr o 0] H (.bool (decide (t.name=nm))):=by
 refine Fa.drop rfl ?_
 refine aC AYr rfl ?_
 have ho':∀z,(H++z)[o]? =some (some [.str nm]):=λz=>by
  have:=(AC.1 ho).1
  rw[AX this];exact ho
 simp only[f89,go_sem,ho',FV]
theorem AAb(s:E1)(nm:ByteArray)(hl:s.tenants.length<=1073741824):FT AA 50 [.agg s.c,.str nm] (lX (GY s nm)):=by
 have c1:=XJ (H:=[some s.c,some [.str nm]]) s.tenants FR 89 [] [.ptr 1 0] (λt=>decide (t.name=nm)) (λt _=>sW t nm 1 rfl)
 refine pC Aaa rfl ?_
 simp only[f50,go_sem]
 repeat' (first|(refine aS (c1) ?_;simp only[go_sem])|apply cg<;>intro hc<;>simp only[go_sem,hc])
 all_goals first|rfl|skip
def LQ(x:List Bool)(j:Nat):Prop:=x[j]? =some true
theorem AE9{x:List Bool}{m j:Nat}(h:LQ x j):LQ (x.set m true) j:=by
 unfold LQ at *
 rw[Ax]
 split
 ·rename_i he;subst he;rw[iP (AC.1 h).1]
 ·exact h
theorem VV{x:List Bool}{m j:Nat}(h:LQ (x.set m true) j):j=m\/LQ x j:=by
 unfold LQ at *
 rw[Ax]at h
 split at h
 ·rename_i he;exact .inl he.symm
 ·exact .inr h
section
variable{s:E1}{nm:ByteArray}
theorem Sb:∀{l:List E4} {x:List Bool×List Int} {j:Nat},LQ x.1 j->LQ (K4 s nm l x).1 j
 |[],_,_,h=>h
 |c::r,x,j,h=>by
  rw[K4]
  refine Sb ?_
  split
  ·exact AE9 h
  ·exact h
theorem d9:∀{l:List E4} {x:List Bool×List Int} {c:E4},c∈l->c.src=nm->(GY s c.dst).toNat<x.1.length->LQ (K4 s nm l x).1 (GY s c.dst).toNat
 | d::r,x,c,hc,hs,hl=>by
  rw[K4]
  rcases AY.1 hc with rfl|hc
  ·refine Sb ?_
   split
   ·show(x.1.set _ true)[_]? =some true
    rw[Ax,iP rfl,iP hl]
   ·rename_i hn
    have:(x.1[(GY s c.dst).toNat]?).getD true≠false:=λh=>hn ⟨hs,h⟩
    unfold LQ
    rw[AH hl]at this ⊢
    cases hx:x.1[(GY s c.dst).toNat]<;>simp_all
  ·refine d9 hc hs ?_
   split<;>simpa using hl
theorem U':∀{l:List E4} {x:List Bool×List Int},(∀j,LQ x.1 j->(j:Int)∈x.2) -> ∀j,LQ (K4 s nm l x).1 j->(j:Int)∈(K4 s nm l x).2
 |[],_,h=>h
 | c::r,x,h=>by
  rw[K4]
  refine U' ?_
  split
  ·intro j hj
   rcases VV hj with rfl|hj
   ·refine List.mem_append_right _ (Ab.2 ?_)
    unfold Qx;split<;>omega
   ·exact List.mem_append_left _ (h j hj)
  ·exact h
theorem VA:∀(l:List E4) (x:List Bool×List Int),∃t,(K4 s nm l x).2=x.2++t
 |[],x=>⟨[],by simp[K4]⟩
 | c::r,x=>by
  rw[K4]
  split
  ·obtain⟨t,ht⟩:=VA r (x.1.set (GY s c.dst).toNat true,x.2++[Qx (GY s c.dst) 0])
   exact⟨[Qx (GY s c.dst) 0]++t,by rw[ht];simp⟩
  ·exact VA r x
theorem d6:∀{l:List E4} {x:List Bool×List Int},∀b∈(K4 s nm l x).2,b∈x.2 \/ ∃c∈l,c.src=nm/\b=((GY s c.dst).toNat:Int)
 |[],_,b,h => .inl h
 | c::r,x,b,h=>by
  rw[K4]at h
  rcases d6 b h with h|⟨d,hd,hs,rfl⟩
  ·split at h
   ·rename_i he
    rcases Ar.1 h with h|h
    ·exact .inl h
    ·rcases Ab.1 h with rfl
     exact .inr ⟨c,sm,he.1,by unfold Qx;split<;>omega⟩
   ·exact .inl h
  ·exact .inr ⟨d,by simp[hd],hs,rfl⟩
theorem d7{M:Nat->Prop}: ∀{l:List E4} {x:List Bool×List Int},(∀c∈l,c.src=nm->M (GY s c.dst).toNat)->(∀j,LQ x.1 j->M j) -> ∀j,LQ (K4 s nm l x).1 j->M j
 |[],_,_,h=>h
 | c::r,x,hc,h=>by
  rw[K4]
  refine d7 (λd hd=>hc d (by simp[hd])) ?_
  split
  ·rename_i he
   intro j hj
   rcases VV hj with rfl|hj
   ·exact hc c sm he.1
   ·exact h j hj
  ·exact h
theorem dz:∀{l:List E4} {x:List Bool×List Int},(∀c∈l,0<=GY s c.dst)->rOk s x->rOk s (K4 s nm l x)
 |[],_,_,h=>h
 | c::r,x,hc,h=>by
  rw[K4]
  refine dz (λd hd=>hc d (by simp[hd])) ?_
  split
  ·rename_i he
   obtain⟨v,_,_,_,hv⟩:=Lx (hc c sm)
   have h0:=hc c sm
   refine⟨by simpa using h.1, ?_, ?_⟩
   ·have hlt:(GY s c.dst).toNat<x.1.length:=by rw[h.1];omega
    have hb:x.1[(GY s c.dst).toNat]? =some false:=by
     have h2:=he.2
     rw[AH hlt]at h2 ⊢
     simpa using h2
    rw[ir hb]
    have:=h.2.1
    simp;omega
   ·intro a ha
    rcases Ar.1 ha with ha|ha
    ·exact h.2.2 a ha
    ·rcases Ab.1 ha with rfl
     rw[gX h0];exact⟨h0,hv⟩
  ·exact h
end
section
variable{s:E1}(hd:∀c∈s.contracts,0<=GY s c.dst)
include hd
theorem RV:∀(f i:Nat) (x:List Bool×List Int),rOk s x->(∀j,LQ x.1 j->(j:Int)∈x.2)->(∀(j:Nat) (a:Int),j<i->x.2[j]? =some a -> ∀c∈s.contracts,c.src=(Hd s a).name->LQ x.1 (GY s c.dst).toNat)->s.tenants.length+2<=f+i ->
  (∀(j:Nat) (a:Int),x.2[j]? =some a -> ∀c∈s.contracts,c.src=(Hd s a).name->LQ (M6 s f i x) (GY s c.dst).toNat) /\
  (∀a,LQ (M6 s f i x) a -> ∀c∈s.contracts,c.src=(Hd s (a:Int)).name->LQ (M6 s f i x) (GY s c.dst).toNat)
 | 0,i,x,hr,hq,hp,hf=>by
  have h1:=hr.2.1
  have h2:=ay x.1
  have h3:=hr.1
  have all:∀(j:Nat) (a:Int),x.2[j]? =some a -> ∀c∈s.contracts,c.src=(Hd s a).name->LQ x.1 (GY s c.dst).toNat:=λj a hj=>hp j a (by have:=(AC.1 hj).1;omega) hj
  refine⟨all,λa ha c hc=>?_⟩
  obtain⟨j,hj⟩:=Ae (hq a ha)
  exact all j a hj c hc
 | f+1,i,x,hr,hq,hp,hf=>by
  rw[M6]
  split
  ·rename_i hn
   have hle:=List.getElem?_eq_none_iff.1 hn
   have all:∀(j:Nat) (a:Int),x.2[j]? =some a -> ∀c∈s.contracts,c.src=(Hd s a).name->LQ x.1 (GY s c.dst).toNat:=λj a hj=>hp j a (by have:=(AC.1 hj).1;omega) hj
   refine⟨all,λa ha c hc=>?_⟩
   obtain⟨j,hj⟩:=Ae (hq a ha)
   exact all j a hj c hc
  ·rename_i a ha
   obtain⟨t,ht⟩:=VA (s:=s) (nm:=(Hd s a).name) s.contracts x
   have hi:=(AC.1 ha).1
   have ih:=RV f (i+1) (K4 s (Hd s a).name s.contracts x) (dz hd hr) (U' hq) (λj b hj hb c hc hs=>by
    rw[ht,AX FR]at hb
    rcases Nat.lt_or_ge j i with hji|hji
    ·exact Sb (hp j b hji hb c hc hs)
    ·have:j=i:=FR
     subst this
     rw[ha]at hb;cases hb
     obtain⟨v,_,_,_,hv⟩:=Lx (hd c hc)
     have:=hd c hc
     exact d9 hc hs (by rw[hr.1];omega)) FR
   refine⟨λj b hj c hc hs=>ih.1 j b ?_ c hc hs,ih.2⟩
   rw[ht,AX (AC.1 hj).1];exact hj
omit hd in
theorem Yf{M:Nat->Prop}(hM:∀a,M a -> ∀c∈s.contracts,c.src=(Hd s (a:Int)).name->M (GY s c.dst).toNat): ∀(f i:Nat) (x:List Bool×List Int),(∀a∈x.2,∀c∈s.contracts,c.src=(Hd s a).name->M (GY s c.dst).toNat)->(∀j,LQ x.1 j->M j) -> ∀j,LQ (M6 s f i x) j->M j
 | 0,_,_,_,h=>h
 | f+1,i,x,hq,h=>by
  rw[M6]
  split
  ·exact h
  ·rename_i a ha
   have hma:=AB ha
   refine Yf hM f (i+1) _ (λb hb c hc hs=>?_) (d7 (λc hc hs=>hq a hma c hc hs) h)
   rcases d6 b hb with hb|⟨d,hd,hds,rfl⟩
   ·exact hq b hb c hc hs
   ·exact hM _ (hq a hma d hd hds) c hc hs
theorem lr{k:Nat}(hk:k<s.tenants.length):(∀c∈s.contracts,c.src=(Hd s (k:Int)).name->LQ (qQ s k) (GY s c.dst).toNat)/\(∀a,LQ (qQ s k) a -> ∀c∈s.contracts,c.src=(Hd s (a:Int)).name->LQ (qQ s k) (GY s c.dst).toNat):=by
 have h0:rOk s (A0 s.tenants.length false,[(k:Int)]):=⟨sm,by rw[iu];rfl,λa ha=>by rcases Ab.1 ha with rfl;omega⟩
 have h1:∀j,LQ (A0 s.tenants.length false) j->(j:Int)∈[(k:Int)]:=λj hj=>by
  unfold LQ at hj
  have:=AB hj
  simp at this
 obtain⟨g1,g2⟩:=RV hd (s.tenants.length+2) 0 _ h0 h1 (λj a hj=>FR) FR
 exact⟨λc hc hs=>g1 0 (k:Int) rfl c hc hs,g2⟩
omit hd in
theorem AEe{k:Nat}{M:Nat->Prop}(h0:∀c∈s.contracts,c.src=(Hd s (k:Int)).name->M (GY s c.dst).toNat)(hM:∀a,M a -> ∀c∈s.contracts,c.src=(Hd s (a:Int)).name->M (GY s c.dst).toNat): ∀j,LQ (qQ s k) j->M j:=by
 refine Yf hM _ _ _ (λa ha=>?_) (λj hj=>?_)
 ·rcases Ab.1 ha with rfl;exact h0
 ·unfold LQ at hj
  have:=AB hj
  simp at this
end
theorem rA:∀{a b:List Bool} {j:Nat},a.length=b.length->(∀i,LQ a i->LQ b i)->LQ b j -> ¬LQ a j->P5 a<P5 b
 |[],[],j,_,_,hb,_=>by simp[LQ]at hb
 |[],_::_,_,h,_,_,_=>by simp at h
 |_::_,[],_,h,_,_,_=>by simp at h
 | x::a,y::b,j,h,hs,hb,ha=>by
  have le:∀{a b:List Bool},a.length=b.length->(∀i,LQ a i->LQ b i)->P5 a<=P5 b:=by
   intro a
   induction a with
   |nil=>intro b _ _;simp[P5]
   | cons x a ih =>
    intro b hl h
    cases b with
    |nil=>simp at hl
    |cons y b =>
     have h1:=ih (b:=b) (by simpa using hl) (λi hi=>by have:=h (i+1) (by simpa [LQ]using hi);simpa [LQ]using this)
     have h0:=h 0
     simp only[LQ,A7,Option.some.injEq]at h0
     simp only[P5,DR]at h1 ⊢
     cases x<;>cases y<;>simp at h0 ⊢ <;> omega
  have h0:=hs 0
  simp only[LQ,A7,Option.some.injEq]at h0
  have hs1:∀i,LQ a i->LQ b i:=λi hi=>by have:=hs (i+1) (by simpa [LQ]using hi);simpa [LQ]using this
  have hl:a.length=b.length:=by simpa using h
  cases j with
  |zero =>
   have h1:=le hl hs1
   simp only[LQ,A7,Option.some.injEq]at hb ha
   subst hb
   simp only[P5,DR]at h1 ⊢
   cases x<;>simp at ha ⊢
   omega
  |succ j =>
   have h1:=rA hl hs1 (j:=j) (by simpa [LQ]using hb) (by simpa [LQ]using ha)
   simp only[P5,DR]at h1 ⊢
   cases x<;>cases y<;>simp at h0 ⊢ <;> omega
def rnk(s:E1)(k:Nat):Nat:=P5 (qQ s k)
theorem Re{s:E1}: ∀{l:List E3} {i:Nat},In s i l=none -> ∀j,j<l.length -> ¬LQ (qQ s ((i+j:Nat):Int)) (i+j)
 |[],_,_,j,hj=>by simp at hj
 | x::r,i,h,j,hj=>by
  rw[In]at h
  split at h
  ·cases h
  ·rename_i hn
   cases j with
   |zero =>
    intro hm
    unfold LQ at hm
    apply hn
    simp at hm ⊢
    rw[hm];rfl
   |succ j =>
    have:=Re h j (by simpa using hj)
    rwa [show i+1+j=i+(j+1) by omega]at this
theorem R19.rank{s:E1}(h:R19 s){k:Nat}(hk:k<s.tenants.length){c:E4}(hc:c∈s.contracts)(hs:c.src=(Hd s (k:Int)).name):rnk s (GY s c.dst).toNat<rnk s k:=by
 have hd:∀c∈s.contracts,0<=GY s c.dst:=λc hc=>(NP (h.con c hc)).2
 obtain⟨g1,g2⟩:=lr hd hk
 obtain⟨v,_,_,_,hv⟩:=Lx (hd c hc)
 have h0:=hd c hc
 have hm:=g1 c hc hs
 have hlt:(GY s c.dst).toNat<s.tenants.length:=FR
 have hn:=Re h.loop (GY s c.dst).toNat hlt
 rw[AU]at hn
 exact rA (by rw[Zt,Zt]) (AEe (λd hd2 hs2=>g2 _ hm d hd2 hs2) g2) hm hn
end Go.AI
namespace Go.AI
open Go.Proofs
set_option maxRecDepth 50000
theorem AAl(l:List Int)(hl:l.length<=1048576):FT AA 49 [.sl none (GK l)] (.sl (some 1) (GK l)):=λH =>
 ej _ (Vl l) (by rw[HR];exact hl) H
def lCh(l:List (List Int)):List AV:=l.map λc => .sl none (GK c)
@[go_sem] theorem AX3(l:List (List Int)):FW (lCh l)=true:=by
 induction l with
 |nil=>rfl
 |cons c l ih=>simp only[lCh,List.map_cons,FW,AV.pure,Jp,Be];exact ih
section
variable{P:Program}{t kt et:TypeId}{K:Kt}{e:Fs}{H:cj}{d:Tmp}{o:Nat}{l:List (Int×Int)}
end
@[go_sem] theorem AfF(k:Nat)(l:List Int):Fo k (GK l)=true:=GO.2 λc hc=>by
 obtain⟨p,_,rfl⟩:=List.mem_map.1 hc;rfl
end Go.AI
namespace Go.AI
open Go.Proofs
set_option maxRecDepth 50000
theorem nz{s:E1}{t:E3}(h1:JK s t=0): ∀x∈t.ports,-1<=x.edge/\x.edge<(s.network.edges.length:Int):=by
 have h2:Ii s t=0:=by
  unfold JK at h1
  split at h1
  ·cases h1
  ·split at h1
   ·rename_i hne;exact absurd h1 hne
   ·rename_i hne;simpa using hne
 have h3:IN (P1 s.network.edges.length) QG t.ports=true:=by
  unfold Ii at h2
  split at h2
  ·cases h2
  split at h2
  ·cases h2
  split at h2
  ·cases h2
  ·rename_i hne;simpa using hne
 have h4:∀(r:List E5) (i:Nat),IY (P1 s.network.edges.length) QG t.ports i r=true -> ∀x∈r,-1<=x.edge/\x.edge<(s.network.edges.length:Int):=by
  intro r
  induction r with
  |nil=>intro i _ x hx;cases hx
  |cons y r ih =>
   intro i hi x hx
   simp only[IY,AM]at hi
   rcases AY.1 hx with rfl|hx
   ·have:=hi.1.1;simp only[P1,AM,decide_eq_true_eq]at this;exact this
   ·exact ih _ hi.2 x hx
 exact h4 t.ports 0 h3
theorem R19.ck{s:E1}(h:R19 s){k:Nat}{t:E3}(ht:s.tenants[k]? =some t):JK s t=0/\(GE t).2=0:=by
 have h1:=h.ten k t ht
 unfold Qd at h1
 split at h1
 ·rename_i hne;exact absurd h1 hne
 rename_i h2
 split at h1
 ·rename_i hne;exact absurd h1 hne
 rename_i h3
 exact⟨by simpa using h2,by simpa using h3⟩
theorem exB(p:Prop): ∃b:Bool,b=true↔p:=⟨@decide p (Classical.propDecidable p),sm⟩
theorem J4{α:Type}{A B:List α}{k:Nat}{x y:α}(hx:A[k]? =some x)(hy:B[k]? =some y)(h:¬x=y): ¬A=B:=by
 rintro rfl
 rw[hx]at hy;cases hy;exact h rfl
theorem Ij{α:Type}{A B:List α}{k:Nat}{x:α}(h:A.take k=B.take k)(hx:A[k]? =some x)(hy:B[k]? =some x):A.take (k+1)=B.take (k+1):=by
 rw[BD,BD,h,hx,hy]
theorem Hx{α:Type}{A B:List α}(h:A.take A.length=B.take A.length)(hl:A.length=B.length):A=B:=by
 rw[BI,hl,BI]at h;exact h
theorem MM{b:Bool}{p:Prop}(hb:b=true↔p)(h:¬p):b=false:=by
 cases b with
 |false=>rfl
 |true=>exact absurd (hb.1 rfl) h
theorem Wa{b:Bool}{p:Prop}(hb:b=true↔p)(h:p):b=true:=hb.2 h
theorem Ul:∀x y:Pred,ZD x y=true↔x=y:=by
 refine I2 _ λx ih y=>?_
 have hl:∀(a b:List Pred),(∀z∈a,∀w,ZD z w=true↔z=w)->a.length=b.length->(S3 a b=true↔a=b):=by
  intro a
  induction a with
  |nil=>intro b _ hb;rw[MD];cases b<;>simp_all
  |cons z a iha =>
   intro b h hb
   cases b with
   |nil=>simp at hb
   |cons w b=>rw[I9,AM,h z sm w,iha b (λz hz=>h z (by simp[hz])) (by simpa using hb),List.cons.injEq]
 rw[Ih]
 simp only[AM,beq_iff_eq,decide_eq_true_eq]
 constructor
 ·rintro ⟨⟨h1,h2,h3,h4,h5⟩,h6⟩
  have:=(hl _ _ ih h5).1 h6
  cases x;cases y;simp_all
 ·rintro rfl
  exact⟨⟨rfl,rfl,rfl,rfl,rfl⟩,(hl _ _ ih rfl).2 rfl⟩
theorem qx:∀x y:Policy,eqO x y=true↔x=y:=by
 refine HM _ λx ih y=>?_
 have hl:∀(a b:List Policy),(∀z∈a,∀w,eqO z w=true↔z=w)->a.length=b.length->(Xl a b=true↔a=b):=by
  intro a
  induction a with
  |nil=>intro b _ hb;rw[O8];cases b<;>simp_all
  |cons z a iha =>
   intro b h hb
   cases b with
   |nil=>simp at hb
   |cons w b=>rw[Lq,AM,h z sm w,iha b (λz hz=>h z (by simp[hz])) (by simpa using hb),List.cons.injEq]
 rw[JJ,AM,Ul]
 simp only[AM,beq_iff_eq,decide_eq_true_eq]
 constructor
 ·rintro ⟨h0,⟨h1,h2,h3,h5⟩,h6⟩
  have:=(hl _ _ ih h5).1 h6
  cases x;cases y;simp_all
 ·rintro rfl
  exact⟨rfl,⟨rfl,rfl,rfl,rfl⟩,(hl _ _ ih rfl).2 rfl⟩
theorem Vu:∀(a b:List ByteArray),a.length=b.length->(Nt a b=true↔a=b):=by
 intro a
 induction a with
 |nil=>intro b hb;rw[L9];cases b<;>simp_all
 |cons z a iha =>
  intro b hb
  cases b with
  |nil=>simp at hb
  |cons w b=>rw[Jr,AM,iha b (by simpa using hb),List.cons.injEq,decide_eq_true_eq]
theorem qw(x y:Stp):Xk x y=true↔x=y:=by
 unfold Xk
 simp only[AM,beq_iff_eq,decide_eq_true_eq]
 constructor
 ·rintro ⟨⟨h1,h2,h3,h4,h5,h6⟩,h7⟩
  have:=(Vu _ _ h6).1 h7
  cases x;cases y;simp_all
 ·rintro rfl
  exact⟨⟨rfl,rfl,rfl,rfl,rfl,rfl⟩,(Vu _ _ rfl).2 rfl⟩
theorem xj(a c:Network)(b:Bool)(hb:b=true↔a=c)(k0:a.nodes.length<=1073741824)(k1:a.links.length<=1073741824)(k2:a.edges.length<=1073741824):FT AA 30 [.agg a.c,.agg c.c] (.bool b):=by
 refine pC Abt rfl ?_
 simp only[f30,go_sem]
 repeat' (first|apply cg<;>intro hc<;>simp only[go_sem,hc])
 all_goals first
  |(rw[MM hb (by rintro rfl;simp_all)];done)
  |skip
 have l0:a.nodes.length=c.nodes.length:=by simp_all;omega
 have l1:a.links.length=c.links.length:=by simp_all;omega
 have l2:a.edges.length=c.edges.length:=by simp_all;omega
 refine Fg a.nodes (λ(_:Unit) (_:List Node)=>()) (λk _=>a.nodes.take k=c.nodes.take k) (λk _=>[(2,.ptr 0 0),(3,.ptr 1 0),(5,.int .i64 k)]) (λ_ _=>[some a.c,some c.c]) () FR rfl rfl rfl ?_ ?_
 ·intro k _ x xs hd hx hI _ h0 h1 hw
  obtain⟨y,hy⟩:∃y,c.nodes[k]? =some y:=⟨_,AH (by have:=(AC.1 hx).1;omega)⟩
  simp only[go_sem,h0,h1,Ln hx,Ln hy]
  by_cases hxy:x=y
  ·subst hxy
   simp only[go_sem,hw,dT]
   exact⟨(),Ij hI hx hy⟩
  ·simp only[go_sem,decide_eq_false hxy]
   rw[MM hb (λe=>J4 hx hy hxy (by rw[e]))]
 ·intro _ hI _
  have hnodes:=Hx hI FR
  simp only[go_sem,AQ,dF]
  refine Fg a.links (λ(_:Unit) (_:List Link)=>()) (λk _=>a.links.take k=c.links.take k) (λk _=>[(2,.ptr 0 0),(3,.ptr 1 0),(6,.int .i64 k)]) (λ_ _=>[some a.c,some c.c]) () FR rfl rfl rfl ?_ ?_
  ·intro k _ x xs hd hx hI _ h0 h1 hw
   obtain⟨y,hy⟩:∃y,c.links[k]? =some y:=⟨_,AH (by have:=(AC.1 hx).1;omega)⟩
   simp only[go_sem,h0,h1,Su hx,Su hy]
   by_cases hxy:x=y
   ·subst hxy
    simp only[go_sem,hw,dT]
    exact⟨(),Ij hI hx hy⟩
   ·simp only[go_sem,decide_eq_false hxy]
    rw[MM hb (λe=>J4 hx hy hxy (by rw[e]))]
  ·intro _ hI _
   have hlinks:=Hx hI FR
   simp only[go_sem,AQ,dF]
   refine Fg a.edges (λ(_:Unit) (_:List E6)=>()) (λk _=>a.edges.take k=c.edges.take k) (λk _=>[(2,.ptr 0 0),(3,.ptr 1 0),(7,.int .i64 k)]) (λ_ _=>[some a.c,some c.c]) () FR rfl rfl rfl ?_ ?_
   ·intro k _ x xs hd hx hI _ h0 h1 hw
    obtain⟨y,hy⟩:∃y,c.edges[k]? =some y:=⟨_,AH (by have:=(AC.1 hx).1;omega)⟩
    simp only[go_sem,h0,h1,Lo hx,Lo hy]
    by_cases hxy:x=y
    ·subst hxy
     simp only[go_sem,hw,dT]
     exact⟨(),Ij hI hx hy⟩
    ·simp only[go_sem,decide_eq_false hxy]
     rw[MM hb (λe=>J4 hx hy hxy (by rw[e]))]
   ·intro _ hI _
    have hedges:=Hx hI FR
    simp only[go_sem,AQ,dF]
    rw[Wa hb (by cases a;cases c;simp_all)]
theorem oQ(a c:List Stage)(b:Bool)(hb:b=true↔a=c)(ha:a.length<=1073741824):FT AA 63 [.sl none (F4 a),.sl none (F4 c)] (.bool b):=by
 have ea:(F4 a).length=a.length:=KZ a
 have ec:(F4 c).length=c.length:=KZ c
 refine pC AaJ rfl ?_
 simp only[f63,go_sem]
 repeat' (first|apply cg<;>intro hc<;>simp only[go_sem,hc])
 all_goals first
  |(rw[MM hb (by rintro rfl;simp_all)];done)
  |skip
 have l0:a.length=c.length:=by simp_all;omega
 refine Fg a (λ(_:Unit) (_:List Stage)=>()) (λk _=>a.take k=c.take k) (λk _=>[(0,.sl none (F4 a)),(1,.sl none (F4 c)),(5,.int .i64 k)]) (λ_ _=>[]) () FR rfl rfl rfl ?_ ?_
 ·intro k _ x xs hd hx hI _ h0 h1 hw
  obtain⟨y,hy⟩:∃y,c[k]? =some y:=⟨_,AH (by have:=(AC.1 hx).1;omega)⟩
  simp only[go_sem,h0,h1,F7 hx,F7 hy]
  apply pK (Ae_ _ _)
  simp only[go_sem,h0,F7 hx,F7 hy]
  apply pK (AHO _ _)
  simp only[go_sem]
  by_cases hxy:x=y
  ·subst hxy
   simp only[go_sem,(qx _ _).2 rfl,(qw _ _).2 rfl,hw]
   exact⟨(),Ij hI hx hy⟩
  ·have hne:(eqO x.policy y.policy&&Xk x.step y.step)=false:=by
    rw[Cu]
    by_cases hp:x.policy=y.policy
    ·right
     rw[Ds]
     intro h;exact hxy (by have:=(qw _ _).1 h;cases x;cases y;simp_all)
    ·left
     rw[Ds]
     intro h;exact hp ((qx _ _).1 h)
   have hfin:b=false:=MM hb (λe=>J4 hx hy hxy (by rw[e]))
   cases hp:eqO x.policy y.policy with
   |false =>
    simp only[go_sem]
    rw[hfin]
   |true =>
    rw[hp,Be]at hne
    simp only[go_sem,hne]
    rw[hfin]
 ·intro _ hI _
  have hA:=Hx hI FR
  simp only[go_sem,ea,AQ,dF]
  rw[Wa hb hA]
theorem xi:∀(a c:Regex) (b:Bool),(b=true↔a=c)->FT AA 65 [.agg a.c,.agg c.c] (.bool b):=by
 refine Pz _ λa ih=>λc b hb=>?_
 refine FT.fit AG_.c λhf=>?_
 have hl:=MQ (P4 hf)
 refine pC AG_ rfl ?_
 simp only[f65,go_sem]
 repeat' (first|apply cg<;>intro hc<;>simp only[go_sem,hc,FV])
 all_goals first
  |(rw[MM hb (by rintro rfl;simp_all)];done)
  |skip
 have l0:a.args.length=c.args.length:=by simp_all;omega
 have l1:a.kind=c.kind:=by simp_all
 have l2:a.node=c.node:=by simp_all
 refine Fg a.args (λ(_:Unit) (_:List Regex)=>()) (λk _=>a.args.take k=c.args.take k) (λk _=>[(2,.ptr 0 0),(3,.ptr 1 0),(5,.int .i64 k)]) (λ_ _=>[some a.c,some c.c]) () FR rfl rfl rfl ?_ ?_
 ·intro k _ x xs hd hx hI _ h0 h1 hw
  obtain⟨y,hy⟩:∃y,c.args[k]? =some y:=⟨_,AH (by have:=(AC.1 hx).1;omega)⟩
  simp only[go_sem,h0,h1,Kb hx,Kb hy]
  obtain⟨br,hbr⟩:=exB (x=y)
  apply pK (ih x (AB hx) y br hbr)
  simp only[go_sem]
  cases br with
  |true =>
   have hxy:=hbr.1 rfl
   subst hxy
   simp only[go_sem,hw]
   exact⟨(),Ij hI hx hy⟩
  |false =>
   have hxy:¬x=y:=λe=>by have:=hbr.2 e;cases this
   simp only[go_sem]
   rw[MM hb (λe=>J4 hx hy hxy (by rw[e]))]
 ·intro _ hI _
  have hargs:=Hx hI FR
  simp only[go_sem,AQ,dF]
  rw[Wa hb (by cases a;cases c;simp_all)]
theorem xl(a c:E4)(b:Bool)(hb:b=true↔a=c):FT AA 32 [.agg a.c,.agg c.c] (.bool b):=by
 have he:b=(ZD a.pred c.pred&&(decide (a.src=c.src)&&(decide (a.dst=c.dst)&&(a.fromPort==c.fromPort&&(a.toPort==c.toPort&&(a.via==c.via&&(a.capacity==c.capacity&&a.price==c.price))))))):=by
  rw[Bool.eq_iff_iff,hb]
  simp only[AM,beq_iff_eq,decide_eq_true_eq,Ul]
  constructor
  ·rintro rfl;simp
  ·intro h;cases a;cases c;simp_all
 refine pC Abl rfl ?_
 simp only[f32,go_sem]
 repeat' (first|(apply pK (rH _ _);simp only[go_sem])|apply cg<;>intro hc<;>simp only[go_sem,hc,FV])
 all_goals first|(rw[he];simp_all;done)|skip
theorem xh(a c:E3)(b:Bool)(hb:b=true↔a=c)(ha:FU a.c<=1073741824):FT AA 31 [.agg a.c,.agg c.c] (.bool b):=by
 have k0:a.ports.length<=1073741824:=Rk (Jc ha)
 have k1:a.wires.length<=1073741824:=NA (Ht ha)
 have k2:a.routes.length<=1073741824:=Yw (NU ha)
 have k3:a.demands.length<=1073741824:=Vp (Mf ha)
 have k4:a.program.length<=1073741824:=Lm (HE ha)
 obtain⟨bp,hbp⟩:=exB (a.program=c.program)
 refine pC Abp rfl ?_
 simp only[f31,go_sem]
 repeat' (first|(apply pK (oQ a.program c.program bp hbp k4);simp only[go_sem])|apply cg<;>intro hc<;>simp only[go_sem,hc,FV])
 all_goals first
  |(rw[MM hb (by rintro rfl;simp_all)];done)
  |skip
 have l0:a.ports.length=c.ports.length:=by simp_all;omega
 have l1:a.wires.length=c.wires.length:=by simp_all;omega
 have l2:a.routes.length=c.routes.length:=by simp_all;omega
 have l3:a.demands.length=c.demands.length:=by simp_all;omega
 have l4:a.name=c.name:=by simp_all
 have l5:a.program=c.program:=hbp.1 (by simp_all)
 refine Fg a.ports (λ(_:Unit) (_:List E5)=>()) (λk _=>a.ports.take k=c.ports.take k) (λk _=>[(2,.ptr 0 0),(3,.ptr 1 0),(6,.int .i64 k)]) (λ_ _=>[some a.c,some c.c]) () FR rfl rfl rfl ?_ ?_
 ·intro k _ x xs hd hx hI _ h0 h1 hw
  obtain⟨y,hy⟩:∃y,c.ports[k]? =some y:=⟨_,AH (by have:=(AC.1 hx).1;omega)⟩
  simp only[go_sem,h0,h1,HY hx,HY hy]
  by_cases hxy:x=y
  ·subst hxy
   simp only[go_sem,hw,dT]
   exact⟨(),Ij hI hx hy⟩
  ·simp only[go_sem,decide_eq_false hxy]
   rw[MM hb (λe=>J4 hx hy hxy (by rw[e]))]
 ·intro _ hI _
  have hports:=Hx hI FR
  simp only[go_sem,AQ,dF]
  refine Fg a.wires (λ(_:Unit) (_:List Wire)=>()) (λk _=>a.wires.take k=c.wires.take k) (λk _=>[(2,.ptr 0 0),(3,.ptr 1 0),(7,.int .i64 k)]) (λ_ _=>[some a.c,some c.c]) () FR rfl rfl rfl ?_ ?_
  ·intro k _ x xs hd hx hI _ h0 h1 hw
   obtain⟨y,hy⟩:∃y,c.wires[k]? =some y:=⟨_,AH (by have:=(AC.1 hx).1;omega)⟩
   simp only[go_sem,h0,h1,HW hx,HW hy]
   by_cases hxy:x=y
   ·subst hxy
    simp only[go_sem,hw,dT]
    exact⟨(),Ij hI hx hy⟩
   ·simp only[go_sem,decide_eq_false hxy]
    rw[MM hb (λe=>J4 hx hy hxy (by rw[e]))]
  ·intro _ hI _
   have hwires:=Hx hI FR
   simp only[go_sem,AQ,dF]
   refine Fg a.routes (λ(_:Unit) (_:List Route)=>()) (λk _=>a.routes.take k=c.routes.take k) (λk _=>[(2,.ptr 0 0),(3,.ptr 1 0),(8,.int .i64 k)]) (λ_ _=>[some a.c,some c.c]) () FR rfl rfl rfl ?_ ?_
   ·intro k _ x xs hd hx hI _ h0 h1 hw
    obtain⟨y,hy⟩:∃y,c.routes[k]? =some y:=⟨_,AH (by have:=(AC.1 hx).1;omega)⟩
    simp only[go_sem,h0,h1,It hx,It hy]
    obtain⟨br,hbr⟩:=exB (x.path=y.path)
    apply pK (rH _ _)
    simp only[go_sem,h0,It hx,It hy]
    apply pK (xi x.path y.path br hbr)
    simp only[go_sem]
    by_cases hxy:x=y
    ·subst hxy
     simp only[go_sem,(Ul _ _).2 rfl,hbr.2 rfl,hw]
     exact⟨(),Ij hI hx hy⟩
    ·have hfin:b=false:=MM hb (λe=>J4 hx hy hxy (by rw[e]))
     have hne:(ZD x.pred y.pred&&br)=false:=by
      rw[Cu]
      by_cases hp:x.pred=y.pred
      ·right
       exact MM hbr (λh=>hxy (by cases x;cases y;simp_all))
      ·left
       rw[Ds]
       intro h;exact hp ((Ul _ _).1 h)
     cases hp:ZD x.pred y.pred with
     |false =>
      simp only[go_sem]
      rw[hfin]
     |true =>
      rw[hp,Be]at hne
      simp only[go_sem,hne]
      rw[hfin]
   ·intro _ hI _
    have hroutes:=Hx hI FR
    simp only[go_sem,AQ,dF]
    refine Fg a.demands (λ(_:Unit) (_:List Demand)=>()) (λk _=>a.demands.take k=c.demands.take k) (λk _=>[(2,.ptr 0 0),(3,.ptr 1 0),(11,.int .i64 k)]) (λ_ _=>[some a.c,some c.c]) () FR rfl rfl rfl ?_ ?_
    ·intro k _ x xs hd hx hI _ h0 h1 hw
     obtain⟨y,hy⟩:∃y,c.demands[k]? =some y:=⟨_,AH (by have:=(AC.1 hx).1;omega)⟩
     simp only[go_sem,h0,h1,K8 hx,K8 hy]
     by_cases hxy:x=y
     ·subst hxy
      simp only[go_sem,hw,dT]
      exact⟨(),Ij hI hx hy⟩
     ·simp only[go_sem,decide_eq_false hxy]
      rw[MM hb (λe=>J4 hx hy hxy (by rw[e]))]
    ·intro _ hI _
     have hdemands:=Hx hI FR
     simp only[go_sem,AQ,dF]
     rw[Wa hb (by cases a;cases c;simp_all)]
theorem ACp(a c:E1)(b:Bool)(hb:b=true↔a=c)(n0:a.network.nodes.length<=1073741824)(n1:a.network.links.length<=1073741824)(n2:a.network.edges.length<=1073741824)(k0:a.fields.length<=1073741824)(k1:a.tenants.length<=1073741824)(k2:a.contracts.length<=1073741824)(ht:∀x∈a.tenants,FU x.c<=1073741824):FT AA 7 [.agg a.c,.agg c.c] (.bool b):=by
 obtain⟨bn,hbn⟩:=exB (a.network=c.network)
 refine pC Agg rfl ?_
 simp only[f7,go_sem]
 repeat' (first|(apply pK (xj a.network c.network bn hbn n0 n1 n2);simp only[go_sem])|apply cg<;>intro hc<;>simp only[go_sem,hc])
 all_goals first
  |(rw[MM hb (by rintro rfl;simp_all)];done)
  |skip
 have l0:a.fields.length=c.fields.length:=by simp_all;omega
 have l1:a.tenants.length=c.tenants.length:=by simp_all;omega
 have l2:a.contracts.length=c.contracts.length:=by simp_all;omega
 have l3:a.network=c.network:=hbn.1 (by simp_all)
 refine Fg a.fields (λ(_:Unit) (_:List Fld)=>()) (λk _=>a.fields.take k=c.fields.take k) (λk _=>[(2,.ptr 0 0),(3,.ptr 1 0),(6,.int .i64 k)]) (λ_ _=>[some a.c,some c.c]) () FR rfl rfl rfl ?_ ?_
 ·intro k _ x xs hd hx hI _ h0 h1 hw
  obtain⟨y,hy⟩:∃y,c.fields[k]? =some y:=⟨_,AH (by have:=(AC.1 hx).1;omega)⟩
  simp only[go_sem,h0,h1,II hx,II hy]
  by_cases hxy:x=y
  ·subst hxy
   simp only[go_sem,hw,dT]
   exact⟨(),Ij hI hx hy⟩
  ·simp only[go_sem,decide_eq_false hxy]
   rw[MM hb (λe=>J4 hx hy hxy (by rw[e]))]
 ·intro _ hI _
  have hfields:=Hx hI FR
  simp only[go_sem,AQ,dF]
  refine Fg a.tenants (λ(_:Unit) (_:List E3)=>()) (λk _=>a.tenants.take k=c.tenants.take k) (λk _=>[(2,.ptr 0 0),(3,.ptr 1 0),(7,.int .i64 k)]) (λ_ _=>[some a.c,some c.c]) () FR rfl rfl rfl ?_ ?_
  ·intro k _ x xs hd hx hI _ h0 h1 hw
   obtain⟨y,hy⟩:∃y,c.tenants[k]? =some y:=⟨_,AH (by have:=(AC.1 hx).1;omega)⟩
   simp only[go_sem,h0,h1,F5 hx,F5 hy]
   obtain⟨br,hbr⟩:=exB (x=y)
   apply pK (xh x y br hbr (ht x (AB hx)))
   simp only[go_sem]
   cases br with
   |true =>
    have hxy:=hbr.1 rfl
    subst hxy
    simp only[go_sem,hw]
    exact⟨(),Ij hI hx hy⟩
   |false =>
    have hxy:¬x=y:=λe=>by have:=hbr.2 e;cases this
    simp only[go_sem]
    rw[MM hb (λe=>J4 hx hy hxy (by rw[e]))]
  ·intro _ hI _
   have htenants:=Hx hI FR
   simp only[go_sem,AQ,dF]
   refine Fg a.contracts (λ(_:Unit) (_:List E4)=>()) (λk _=>a.contracts.take k=c.contracts.take k) (λk _=>[(2,.ptr 0 0),(3,.ptr 1 0),(9,.int .i64 k)]) (λ_ _=>[some a.c,some c.c]) () FR rfl rfl rfl ?_ ?_
   ·intro k _ x xs hd hx hI _ h0 h1 hw
    obtain⟨y,hy⟩:∃y,c.contracts[k]? =some y:=⟨_,AH (by have:=(AC.1 hx).1;omega)⟩
    simp only[go_sem,h0,h1,Gi hx,Gi hy]
    obtain⟨br,hbr⟩:=exB (x=y)
    apply pK (xl x y br hbr)
    simp only[go_sem]
    cases br with
    |true =>
     have hxy:=hbr.1 rfl
     subst hxy
     simp only[go_sem,hw]
     exact⟨(),Ij hI hx hy⟩
    |false =>
     have hxy:¬x=y:=λe=>by have:=hbr.2 e;cases this
     simp only[go_sem]
     rw[MM hb (λe=>J4 hx hy hxy (by rw[e]))]
   ·intro _ hI _
    have hcontracts:=Hx hI FR
    simp only[go_sem,AQ,dF]
    rw[Wa hb (by cases a;cases c;simp_all)]
theorem WU(a c:List Int)(b:Bool)(hb:b=true↔a=c)(ha:a.length<=1073741824):FT AA 17 [.sl none (GK a),.sl none (GK c)] (.bool b):=by
 have ea:(GK a).length=a.length:=HR a
 have ec:(GK c).length=c.length:=HR c
 refine pC Ab' rfl ?_
 simp only[f17,go_sem,ea,ec]
 repeat' (first|apply cg<;>intro hc<;>simp only[go_sem,hc])
 all_goals first
  |(rw[MM hb (by rintro rfl;simp_all)];done)
  |skip
 have l0:a.length=c.length:=by simp_all;omega
 refine Fg a (λ(_:Unit) (_:List Int)=>()) (λk _=>a.take k=c.take k) (λk _=>[(0,.sl none (GK a)),(1,.sl none (GK c)),(5,.int .i64 k)]) (λ_ _=>[]) () FR rfl rfl rfl ?_ ?_
 ·intro k _ x xs hd hx hI _ h0 h1 hw
  obtain⟨y,hy⟩:∃y,c[k]? =some y:=⟨_,AH (by have:=(AC.1 hx).1;omega)⟩
  simp only[go_sem,h0,h1,ea,Gl hx,Gl hy]
  repeat' (first|apply cg<;>intro hc<;>simp only[go_sem,hc,hw])
  ·have hxy:¬x=y:=by simpa using hc
   rw[MM hb (λe=>J4 hx hy hxy (by rw[e]))]
  ·have hxy:x=y:=by simpa using hc
   subst hxy
   exact⟨(),Ij hI hx hy⟩
 ·intro _ hI _
  have hA:=Hx hI FR
  simp only[go_sem,ea,AQ,dF]
  rw[Wa hb hA]
@[go_sem] theorem lM(x:E4)(v:Int)(o0:Option Nat):splice (x.cf o0) 9 [.int .i64 v]=({ x with via:=v }:E4).cf o0:=rfl
theorem AAm(l:List Fld)(hl:l.length<=1048576):FT AA 33 [.sl none (GL l)] (.sl none (GL l)):=by
 have he:(GL l).length=l.length:=Ov l
 refine pB Abh rfl ?_
 cases l with
 |nil=>simp only[f33,go_sem]
 |cons e es =>
  have hcs:GL (e::es) = .agg e.c::GL es:=rfl
  have hcl:(GL (e::es)).length<=1048576:=by rw[he];exact hl
  rw[hcs]at hcl ⊢
  simp only[f33,go_sem]
  repeat' (first|apply cg<;>intro hc<;>simp only[go_sem,hc,he])
  simp only[AD]at hl
  exact⟨FR,FR⟩
theorem QS(x:E1)(u:E3)(o0 o1 o2 o3 o4 o5 p:Option Nat):splice (x.cf o0 o1 o2 o3 o4 o5) 4 [.sl p [.agg (u.cf none none none none none)]]=({ x with tenants:=[u] }:E1).cf o0 o1 o2 o3 p o5:=rfl
def vE(ps:List E5)(es:List E6):List E6:=es.zipIdx.map λp=>if ps.any (λq=>q.edge==(p.2:Int))=true then⟨p.1.name,0⟩else⟨⟨#[]⟩,0⟩
def vC(nm:ByteArray):List E4->List E4
 |[]=>[]
 |c::r=>if c.dst=nm then { c with via:=-1 }::vC nm r else if c.src=nm then c::vC nm r else vC nm r
def Lu(s:E1)(t:E3):E1:=⟨⟨[],[],vE t.ports s.network.edges⟩,s.fields,[t],vC t.name s.contracts⟩
theorem QY(ps:List E5)(es:List E6):(vE ps es).length=es.length:=by simp[vE]
theorem Zf{ps:List E5}{es:List E6}{k:Nat}{e:E6}(h:es[k]? =some e):(vE ps es)[k]? =some (if ps.any (λq=>q.edge==(k:Int))=true then⟨e.name,0⟩else⟨⟨#[]⟩,0⟩):=by
 simp[vE,h]
theorem AHy{ps:List E5}{es:List E6}{k:Nat}{e:E6}(h:es[k]? =some e)(p:E5)(hp:p.edge=(k:Int)):(vE ps es).set k ⟨e.name,0⟩=vE (ps++[p]) es:=by
 apply A3
 intro j
 rw[Ax]
 have hlt:=(AC.1 h).1
 by_cases hj:k=j
 ·subst hj
  rw[iP rfl,iP (by rw[QY];exact hlt),Zf h,C_]
  simp[hp]
 ·rw[iN hj]
  by_cases hjl:j<es.length
  ·rw[Zf (AH hjl),Zf (AH hjl),C_]
   have:(p.edge==(j:Int))=false:=by rw[beq_eq_false_iff_ne];omega
   simp[this]
  ·rw[Av (by rw[QY];omega),Av (by rw[QY];omega)]
theorem AEX{ps:List E5}{es:List E6}(p:E5)(hp:¬0<=p.edge):vE (ps++[p]) es=vE ps es:=by
 unfold vE
 refine List.map_congr_left λq hq=>?_
 have:(p.edge==(q.2:Int))=false:=by rw[beq_eq_false_iff_ne];omega
 simp[C_,this]
theorem AHz(es:List E6):vE [] es=A0 es.length ⟨⟨#[]⟩,0⟩:=by
 unfold vE
 apply A3
 intro j
 by_cases hjl:j<es.length
 ·simp[hjl]
 ·rw[Av Hy,Av Hy]
@[go_sem] theorem AW0(k:Nat)(L:List E6):Fo k (L.flatMap Edge.c)=true:=GO.2 λc hc=>by
 obtain⟨e,_,hc⟩:=List.mem_flatMap.1 hc
 rcases AY.1 hc with rfl|hc
 ·rfl
 ·rcases Ab.1 hc with rfl;rfl
theorem ah(L:List E6):(L.flatMap Edge.c).map borrow1=L.flatMap Edge.c:=by
 induction L with
 |nil=>rfl
 |cons e L ih=>rw[List.flatMap_cons,List.map_append,ih];rfl
theorem AAa(s:E1)(hs:FU s.c<=1048576)(hR:R19 s)(k:Nat)(u:E3)(hu:s.tenants[k]? =some u):FT AA 8 [.agg s.c,.int .i64 (k:Int)] (.agg (Lu s u).c):=by
 have hnf:s.fields.length<=1048576:=Ph (Hv hs)
 have hne:s.network.edges.length<=1048576:=Rl (KK hs)
 have hnc:s.contracts.length<=1048576:=I8 (G5 hs)
 have hk0:(0:Int)<=(k:Int):=FR
 have hu2:=F5 hu
 have c1:=AAm s.fields hnf
 refine pB Agb rfl ?_
 simp only[f8,go_sem,hu2,hk0]
 repeat' (first|(apply pK c1;simp only[go_sem,QS])|apply cg<;>intro hc<;>simp only[go_sem,hc,hu2,hk0,QS])
 have hE:∀x:E6,x.c.length=2:=λ_=>rfl
 refine⟨FR,FR,FR, ?_⟩
 refine Fg u.ports (λ(_:List E6) (_:List E5)=>()) (λi L=>L=vE (u.ports.take i) s.network.edges) (λi _=>[(2,.ptr 0 0),(4,.ptr 1 0),(5,.ptr 2 0),(6,.ptr 3 0),(30,.sl none (J8 u.ports)),(31,.int .i64 u.ports.length),(32,.int .i64 i)])
  (λ_ L=>[some s.c,some (Setup.z.cf (some 4) (some 3) (some 2) (some 3) (some 6) (some 12)),some (u.cf none none none none none),some [.sl (some 4) [],.sl (some 3) [],.msl 4 0 s.network.edges.length 2,.sl none (GL s.fields),.sl (some 6) [.agg (u.cf none none none none none)],.sl (some 12) []],some (L.flatMap Edge.c)])
  (A0 s.network.edges.length ⟨⟨#[]⟩,0⟩) (by have:=Rk (Jc (show FU u.c<=1048576 by have:=L6 (Hk hs) (AB hu);simpa only[AV.bulk]using this));omega) (AHz _).symm rfl (by rw[List.flatMap_replicate];rfl) ?_ ?_
 ·intro i L x xs hd hx hI _ h0 h1 hw
  subst hI
  obtain⟨p1,p2⟩:=nz (hR.ck hu).1 x (AB hx)
  have htk:u.ports.take (i+1)=u.ports.take i++[x]:=by rw[BD,hx];rfl
  have hx2:=HY hx
  by_cases hp:0<=x.edge
  ·obtain⟨m,hm⟩:∃m:Nat,x.edge=(m:Int):=⟨x.edge.toNat,FR⟩
   obtain⟨e,he⟩:∃e,s.network.edges[m]? =some e:=⟨_,AH FR⟩
   have he2:=Lo he
   have m0:(0:Int)<=(m:Int):=FR
   have m1:(m:Int)<(s.network.edges.length:Int):=FR
   have hput:=AAD (f:=Edge.c) hE (l:=vE (u.ports.take i) s.network.edges) (k:=m) (Zf he) (o:=0) (v:=[.str e.name]) (y:=⟨e.name,0⟩) sm (by split<;>rfl)
   rw[AHy he x hm]at hput
   rw[Nat.add_zero]at hput
   have hle:m*2+1<=((vE (u.ports.take i) s.network.edges).flatMap Edge.c).length:=by rw[fm hE,QY];omega
   simp only[go_sem,h0,h1,hx2,hm,m0,m1,he2,hle,hput,hw]
   exact⟨vE (u.ports.take (i+1)) s.network.edges,rfl,rfl,by rw[htk]⟩
  ·have hd1:decide (0<=x.edge)=false:=decide_eq_false hp
   simp only[go_sem,h0,h1,hx2,hd1,hw]
   exact⟨_,by rw[htk,AEX x hp],rfl,rfl⟩
 ·intro L hI _
  rw[BI]at hI
  subst hI
  have hle:0+s.network.edges.length*2<=((vE u.ports s.network.edges).flatMap Edge.c).length:=by rw[fm hE,QY];omega
  have hch:Ho true 2 s.network.edges.length ((((vE u.ports s.network.edges).flatMap Edge.c).drop 0).map borrow1)=JS (vE u.ports s.network.edges):=by
   rw[List.drop_zero,ah];exact xU hE (QY _ _).symm
  simp only[go_sem,AQ,dF]
  rw[xA (o:=3) (off2:=0) (ob:=4) (off:=0) (len:=s.network.edges.length) (sz:=2) (cs:=(vE u.ports s.network.edges).flatMap Edge.c) rfl rfl rfl dc rfl hle (.inl rfl),hch]
  simp only[go_sem]
  refine Fg s.contracts (λo r=>o++vC u.name r) (λi o=>o.length<=i) (λi _=>[(4,.ptr 1 0),(5,.ptr 2 0),(6,.ptr 3 0),(56,.sl none (F8 s.contracts)),(57,.int .i64 s.contracts.length),(58,.int .i64 i)])
   (λ_ o=>[some s.c,some (Setup.z.cf (some 4) (some 3) (some 2) (some 3) (some 6) (some 12)),some (u.cf none none none none none),some ((⟨⟨[],[],vE u.ports s.network.edges⟩,s.fields,[u],o⟩:E1).cf (some 4) (some 3) none none (some 6) (some 12)),none]) [] FR (AT _) rfl rfl ?_ ?_
  ·intro i o x xs hd hx hI hF h0 h1 hw
   have hlo:(F8 o).length=o.length:=Mp o
   have hx2:=Gi hx
   have e1:decide (u.name=x.dst)=decide (x.dst=u.name):=by rw[decide_eq_decide];exact eq_comm
   have e2:decide (u.name=x.src)=decide (x.src=u.name):=by rw[decide_eq_decide];exact eq_comm
   by_cases hdst:x.dst=u.name
   ·have hb1:decide (u.name=x.dst)=true:=by rw[e1];exact decide_eq_true hdst
    simp only[go_sem,h0,h1,hx2,FV,hb1,hlo,hw]
    refine⟨FR,FR,o++[{ x with via:=-1 }], ?_,by rw[AF];simp;omega,rfl,rfl⟩
    rw[vC,iP hdst];simp
   ·have hb1:decide (u.name=x.dst)=false:=by rw[e1];exact decide_eq_false hdst
    by_cases hsrc:x.src=u.name
    ·have hb2:decide (u.name=x.src)=true:=by rw[e2];exact decide_eq_true hsrc
     simp only[go_sem,h0,h1,hx2,FV,hb1,hb2,hlo,hw]
     refine⟨FR,FR,o++[x], ?_,by rw[AF];simp;omega,rfl,rfl⟩
     rw[vC,iN hdst,iP hsrc];simp
    ·have hb2:decide (u.name=x.src)=false:=by rw[e2];exact decide_eq_false hsrc
     simp only[go_sem,h0,h1,hx2,FV,hb1,hb2,hw]
     refine⟨o, ?_,FR,rfl,rfl⟩
     rw[vC,iN hdst,iN hsrc]
  ·intro o hI hF
   rw[List.nil_append,vC,List.append_nil]at hF
   subst hF
   simp only[go_sem,AQ,dF]
   rfl
end Go.AI
