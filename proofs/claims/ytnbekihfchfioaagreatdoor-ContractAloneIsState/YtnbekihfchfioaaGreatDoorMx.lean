/- What the specification of layer 19 checks,in plain Lean. -/
import Derived.Test.YtnbekihfchfioaaGreatDoorMg
import Derived.Test.YtnbekihfchfioaaGreatDoorMp
import Derived.Test.YtnbekihfchfioaaGreatDoorMf
import Derived.Test.YtnbekihfchfioaaGreatDoorMy
import Derived.Test.YtnbekihfchfioaaGreatDoorMz
set_option linter.unusedSimpArgs false
set_option linter.unusedVariables false
open Go.Proofs.Tryz
open Bool renaming and_eq_true->AR
open List renaming all_cons->Ak,all_nil->Aw,any_cons->Au,getElem?_append_left->AW,getElem?_eq_getElem->AL,getElem?_eq_some_iff->AD,getElem?_take->Aj,length_cons->AC,mem_of_getElem?->AB,mem_singleton->Al,replicate->A5,replicate_succ->Cm
open Nat renaming le_trans->AK,sub_self->AQ
open Go.Proofs.Tryz renaming prog->AA
namespace Go.AI
section
variable {P:Program} {t:TypeId} {x y:ByteArray} {d:Tmp} {K:Kt} {e:Ee} {H:DM}
@[go_sem] theorem ASC:HS P .geq t (.str x) (.str y) d K e H=K ((d,.bool !(Op.bytesLess x.toList y.toList))::e) H:=by rw [OB];simp [I8]
@[go_sem] theorem ASB:HS P .gtr t (.str x) (.str y) d K e H=K ((d,.bool !(Op.bytesLess x.toList y.toList||x.toList==y.toList))::e) H:=by rw [OB];simp [I8]
end
def HI(s:Setup):Bool :=
 oW s.network 20 40 20&&(decide ((s.fields.length:Int)<=20)&&(decide ((s.tenants.length:Int)<=8)&&(decide ((s.contracts.length:Int)<=12)&&(s.tenants.all Kz&&s.contracts.all λc=>Xd c.pred))))
def GV(s:Setup)(nm:ByteArray):Int:=Gq (λt:Tenant=>decide (t.name=nm)) s.tenants
def Kp(s:Setup)(k:Int):Tenant:=(s.tenants[k.toNat]?).getD Tenant.z
theorem ft{α:Type}(p:α->Bool): ∀ (l:List α) (i:Nat),Fw p i l = -1 \/ ∃ j x,l[j]? =some x/\p x=true/\Fw p i l=((i+j:Nat):Int) /\ ∀ m y,m<j->l[m]? =some y->p y=false
 | [],i => .inl rfl
 | x::l,i=>by
  rw [Fw]
  cases h:p x with
  | true=>exact .inr ⟨0,x,rfl,h,sm,λm y hm=>DF⟩
  | false =>
   rcases ft p l (i+1) with h1|⟨j,y,h1,h2,h3,h4⟩
   ·exact .inl (by simpa using h1)
   ·refine .inr ⟨j+1,y,h1,h2,by rw [if_neg sm,h3];congr 1;omega,λm z hm hz=>?_⟩
    cases m with
    | zero=>simp at hz;subst hz;exact h
    | succ m=>exact h4 m z DF (by simpa using hz)
theorem mo{α:Type}(p:α->Bool)(l:List α):(Gq p l = -1 /\ ∀ y∈l,p y=false) \/ ∃ (j:Nat) (x:α),j<l.length/\l[j]? =some x/\p x=true/\Gq p l=(j:Int) /\ ∀ (m:Nat) (y:α),m<j->l[m]? =some y->p y=false:=by
 rcases ft p l 0 with h|⟨j,x,h1,h2,h3,h4⟩
 ·refine .inl ⟨h,λy hy=>?_⟩
  have h2:=Od p l 0
  rw [h] at h2
  have h3:l.any p=false:=by rw [<- h2];rfl
  rw [List.any_eq_false] at h3
  simpa using h3 y hy
 ·exact .inr ⟨j,x,(AD.1 h1).1,h1,h2,by unfold Gq;rw [h3];simp,h4⟩
def IP(s:Setup)(k:Nat)(t:Tenant):Bool:=t.ports.any λp=>(s.tenants.take k).any λu=>decide (0<=p.edge)&&decide (0<=Gy u p.edge)
def Yf(s:Setup)(k:Nat)(t:Tenant):Bool:=decide (0<k) && !S0 (Kp s ((k:Int) - 1)).name t.name
def QN(s:Setup)(k:Nat)(t:Tenant):Int :=
 if In s t≠0 then In s t else if (FC t).2≠0 then (FC t).2 else if Yf s k t=true then 4 else if IP s k t=true then 10 else 0
def JM(s:Setup):Nat->List Tenant->Option (Int×Int)
 | _,[]=>none
 | k,t::r=>if QN s k t≠0 then some ((k:Int),QN s k t) else JM s (k+1) r
def d9(t:Tenant)(n:Int):Bool:=decide (0<=n)&&(decide (n<(t.ports.length:Int))&&decide (0<=N2 t n))
def AAv(s:Setup)(n:Int):Bool:=((s.network.nodes[n.toNat]?).map (·.box)).getD false
def AFq(s:Setup)(c:Contract):Bool :=
 decide (-1<=c.via)&&(decide (c.via<(s.network.nodes.length:Int))&&((decide (c.via<0)||AAv s c.via)&&(decide (0<=c.capacity)&&(decide (c.capacity<=1048576)&&(decide (0<=c.price)&&decide (c.price<=1000))))))
def SS(s:Setup)(c:Contract):Int :=
 if GV s c.src<0\/GV s c.dst<0 then 9
 else if GV s c.src=GV s c.dst\/d9 (Kp s (GV s c.src)) c.fromPort=false\/d9 (Kp s (GV s c.dst)) c.toPort=false then 1
 else if Tq s.fields c.pred≠0 then Tq s.fields c.pred
 else if AFq s c=false then 1 else 0
def Jg(s:Setup):Nat->List Contract->Option (Int×Int)
 | _,[]=>none
 | k,c::r=>if SS s c≠0 then some ((k:Int),SS s c) else Jg s (k+1) r
def Zf(s:Setup)(nm:ByteArray):List Contract->List Bool×List Int->List Bool×List Int
 | [],x=>x
 | c::r,x=>Zf s nm r (if c.src=nm/\(x.1[(GV s c.dst).toNat]?).getD true=false then (x.1.set (GV s c.dst).toNat true,x.2++[Vm (GV s c.dst) 0]) else x)
def Ur(s:Setup):Nat->Nat->List Bool×List Int->List Bool
 | 0,_,x=>x.1
 | f+1,i,x=>match x.2[i]? with
  | none=>x.1
  | some a=>Ur s f (i+1) (Zf s (Kp s a).name s.contracts x)
def rch(s:Setup)(k:Int):List Bool:=Ur s (s.tenants.length+2) 0 (A5 s.tenants.length false,[k])
def IM(s:Setup):Nat->List Tenant->Option (Int×Int)
 | _,[]=>none
 | k,_::r=>if ((rch s k)[k]?).getD true=true then some (0,21) else IM s (k+1) r
def Tr(s:Setup):Int×Int :=
 if Hv s.network≠0 then (0,Hv s.network) else if N5 s.fields≠0 then (0,N5 s.fields)
 else if 64<s.tenants.length\/100<s.contracts.length then (0,2)
 else match JM s 0 s.tenants with
  | some x=>x
  | none=>match Jg s 0 s.contracts with
   | some x=>x
   | none=>(IM s 0 s.tenants).getD (0,0)
def Iq(s:Setup):Bool:=HI s&&(Tr s).2==0
end Go.AI
namespace Go.AI
open Go.Proofs
set_option maxRecDepth 50000
theorem TT {H:DM} (l:List Contract) (hl:l.length<=9223372036854775807) (g:FuncId) (fi ca:List AV) (p:Contract->Bool)
  (h : ∀ x∈l,E5 AA g (fi.map AV.borrow++(.agg x.c::ca.map AV.borrow)) H (.bool (p x))) :
  E5 AA 56 [.sl none (FI l),.fn (.func g) fi ca] H (.int .i64 (Gq p l)):=by
 unfold E5
 refine aC AU1 rfl ?_
 simp only [f56,go_sem]
 refine EP l (λr=>Fw p (l.length - r.length) r) (λk=>[(0,.sl none (FI l)),(1,.fn (.func g) fi ca),(7,.int .i64 l.length),(8,.int .i64 k)]) hl rfl ?_ ?_
 ·intro k x xs hd hx hF h0 h1 hw
  have hk2:=Eb hd
  have e1:l.length - (xs.length+1)=k:=DF
  have e2:l.length - xs.length=k+1:=DF
  simp only [AC,e1,AQ] at hF
  simp only [go_sem,h0,h1,FF hx,e1,e2]
  repeat' (first
   | (refine aS (h x (AB hx)) ?_;simp only [go_sem,h0,h1,hw,FF hx,e1,e2])
   | ((first|apply cS|apply gS)<;>(intro hc;simp only [go_sem,hc,h0,h1,hw,FF hx,e1,e2])))
  ·rw [Gq,hF,Fw,if_pos hc]
  ·rw [Fw,if_neg (by rw [hc];decide)]
 ·intro hF hlt
  simp only [go_sem,hlt,decide_false]
  rw [AQ] at hF
  rw [Gq,hF];rfl
theorem W9 {H:DM} (l:List Tenant) (hl:l.length<=9223372036854775807) (g:FuncId) (fi ca:List AV) (p:Tenant->Bool)
  (h : ∀ x∈l,E5 AA g (fi.map AV.borrow++(.agg x.c::ca.map AV.borrow)) H (.bool (p x))) :
  E5 AA 59 [.sl none (GA l),.fn (.func g) fi ca] H (.int .i64 (Gq p l)):=by
 unfold E5
 refine aC AUr rfl ?_
 simp only [f59,go_sem]
 refine EP l (λr=>Fw p (l.length - r.length) r) (λk=>[(0,.sl none (GA l)),(1,.fn (.func g) fi ca),(7,.int .i64 l.length),(8,.int .i64 k)]) hl rfl ?_ ?_
 ·intro k x xs hd hx hF h0 h1 hw
  have hk2:=Eb hd
  have e1:l.length - (xs.length+1)=k:=DF
  have e2:l.length - xs.length=k+1:=DF
  simp only [AC,e1,AQ] at hF
  simp only [go_sem,h0,h1,Ef hx,e1,e2]
  repeat' (first
   | (refine aS (h x (AB hx)) ?_;simp only [go_sem,h0,h1,hw,Ef hx,e1,e2])
   | ((first|apply cS|apply gS)<;>(intro hc;simp only [go_sem,hc,h0,h1,hw,Ef hx,e1,e2])))
  ·rw [Gq,hF,Fw,if_pos hc]
  ·rw [Fw,if_neg (by rw [hc];decide)]
 ·intro hF hlt
  simp only [go_sem,hlt,decide_false]
  rw [AQ] at hF
  rw [Gq,hF];rfl
theorem ADw(s:Setup):DR AA 43 [.agg s.c] (.bool (HI s)):=by
 refine DR.fit AE5.c λhf=>?_
 have hl1:=RM (Q1 hf)
 have hl2:=O6 (Q1 hf)
 refine pC AE5 rfl ?_
 simp only [f43,go_sem]
 repeat' (first
  | (refine pK (AQx _ _ _ _) ?_;simp only [go_sem])
  | ((first|apply cS|apply gS)<;>(intro hc;simp only [go_sem,hc])))
 all_goals first
  | rfl
  | (simp only [HI];rfl)
  | grind [HI]
  | (simp only [HI];grind)
  | (simp [HI, *];done)
  | (simp_all [HI];done)
  | skip
 all_goals
  refine EP s.tenants (λr=>r.all Kz) (λk=>[(1,.ptr 0 0),(4,.int .i64 k)]) hl1 rfl ?_ ?_
  ·intro k y ys hd hx hF h0 h1 hw
   simp only [go_sem,h0,h1,Ef hx]
   repeat' (first
    | (refine pK (AQv _) ?_;simp only [go_sem,h0,h1,hw,Ef hx])
    | ((first|apply cS|apply gS)<;>(intro hc;simp only [go_sem,hc,h0,h1,hw,Ef hx])))
   all_goals first
    | rfl
    | (simp only [HI,Ak,Aw];rfl)
    | grind [HI]
    | (simp only [HI,Ak,Aw];grind)
    | (simp [HI,Ak,Aw, *];done)
    | (simp_all [HI,Ak,Aw];done)
    | skip
  ·intro hF hlt
   simp only [go_sem,hlt,decide_false]
   refine EP s.contracts (λr=>r.all λx=>Xd x.pred) (λk=>[(1,.ptr 0 0),(6,.int .i64 k)]) hl2 rfl ?_ ?_
   ·intro k y ys hd hx hF h0 h1 hw
    simp only [go_sem,h0,h1,FF hx]
    repeat' (first
     | (refine pK (AAi _) ?_;simp only [go_sem,h0,h1,hw,FF hx])
     | ((first|apply cS|apply gS)<;>(intro hc;simp only [go_sem,hc,h0,h1,hw,FF hx])))
    all_goals first
     | rfl
     | (simp only [HI,Ak,Aw];rfl)
     | grind [HI]
     | (simp only [HI,Ak,Aw];grind)
     | (simp [HI,Ak,Aw, *];done)
     | (simp_all [HI,Ak,Aw];done)
     | skip
   ·intro hF2 hlt2
    simp only [go_sem,hlt2,decide_false]
    repeat' (first
     | ((first|apply cS|apply gS)<;>(intro hc;simp only [go_sem,hc])))
    all_goals first
     | rfl
     | (simp only [HI,Ak,Aw];rfl)
     | grind [HI]
     | (simp only [HI,Ak,Aw];grind)
     | (simp [HI,Ak,Aw, *];done)
     | (simp_all [HI,Ak,Aw];done)
     | skip
def lF(k:Int):AV:=.tup [.int .i64 (Vm k 0),.bool (decide (0<=k))]
theorem ao(s:Setup)(nm:ByteArray)(hl:s.tenants.length<=1073741824):DR AA 165 [.agg s.c,.str nm] (lF (GV s nm)):=by
 refine pC AMe rfl ?_
 simp only [f165,go_sem,By]
 refine EP s.tenants (λr=>Fw (λt:Tenant=>decide (t.name=nm)) (s.tenants.length - r.length) r) (λk=>[(1,.str nm),(2,.ptr 0 0),(6,.int .i64 k)]) DF rfl ?_ ?_
 ·intro k y ys hd hx hF h0 h1 hw
  have hk2:=Eb hd
  have e1:s.tenants.length - (ys.length+1)=k:=DF
  have e2:s.tenants.length - ys.length=k+1:=DF
  simp only [AC,e1,AQ] at hF
  simp only [go_sem,h0,h1,Ef hx,By,e1,e2]
  repeat' (first
   | ((first|apply cS|apply gS)<;>(intro hc;simp only [go_sem,hc,h0,h1,hw,Ef hx,By,e1,e2])))
  ·have h2:GV s nm=(k:Int):=by rw [GV,Gq,hF,Fw,if_pos hc]
   rw [h2]
   have h3:Vm (k:Int) 0=k:=by unfold Vm;split<;>omega
   rw [lF,h3,decide_eq_true h0]
  ·rw [Fw,if_neg (by rw [hc];decide)]
 ·intro hF hlt
  simp only [go_sem,hlt,decide_false]
  rw [AQ] at hF
  have h2:GV s nm = -1:=by rw [GV,Gq,hF];rfl
  rw [h2];rfl
theorem rq(t:Tenant)(n:Int):DR AA 166 [.agg t.c,.int .i64 n] (.bool (d9 t n)):=by
 refine pC AMb rfl ?_
 by_cases h:0<=n/\n<(t.ports.length:Int)
 ·obtain ⟨h0,h1⟩:=h
  obtain ⟨x,hx⟩ : ∃ x,t.ports[n.toNat]? =some x:=⟨_,AL DF⟩
  have hg:=FD hx
  have he:N2 t n=x.edge:=by simp [N2,hx]
  simp only [f166,go_sem,h0,h1,hg]
  repeat' (first
   | ((first|apply cS|apply gS)<;>(intro hc;simp only [go_sem,hc,h0,h1,hg])))
  all_goals (rw [d9,he];simp [h0,h1])
 ·simp only [f166,go_sem]
  repeat' (first
   | ((first|apply cS|apply gS)<;>(intro hc;simp only [go_sem,hc])))
  all_goals first|(simp only [d9];grind)|skip
theorem sX{s:Setup}{k:Nat}{t:Tenant}(h:s.tenants[k]? =some t):Kp s (k:Int)=t:=by simp [Kp,h]
set_option maxHeartbeats 4000000 in
theorem AQq(s:Setup)(k:Nat)(t:Tenant)(hk:s.tenants[k]? =some t)(hl:wW s.fields)(hs:DT s.c<=1073741824)(hb:DT t.c<=1048576)(hn:s.tenants.length<=1073741824):DR AA 90 [.agg s.c,.int .i64 k] (.int .i64 (QN s k t)) := by
  have hkl:k<s.tenants.length := (AD.1 hk).1
  have hw1:t.wires.length<=1073741824 := AK (Nj (HL hb)) dc
  have hp1:t.ports.length<=1048576 := fQ (NB hb)
  have hk1 := Ef hk
  have hk2:(k:Int)<(s.tenants.length:Int) := by omega
  have hk3:(0:Int)<=(k:Int) := by omega
  have hbw : ∀ x∈t.program,DT (Fu t x.policy).c<=1073741824 := λx hx=>ZG (by
    have h1 := JU (GC hb) hx
    have h2:DT x.c<=1048576 := by simpa only [AV.bulk] using h1
    exact GW h2) (AK (Nj (HL hb)) (Nat.le_refl _))
  have hpg:t.program.length<=1073741824 := AK (Lx (GC hb)) dc
  have q1 := AQ5 s t hl hs (AK hb dc)
  have q2 := ACj t hw1 hpg hbw
  have htk:(s.tenants.take k).length=k := by rw [List.length_take];omega
  refine pC ATZ rfl ?_
  cases q3:(In s t !=0) with
  | true =>
    simp only [f90,go_sem,hk1,hk2,hk3]
    repeat' (first
      | ((first|refine pK (q1) ?_|refine pK (q2) ?_);simp only [go_sem,hk1,hk2,hk3,q3])
      | ((first|apply cS|apply gS)<;>(intro hc;simp only [go_sem,hc,hk1,hk2,hk3,q3])))
    rw [QN,if_pos (by simpa using q3)]
  | false =>
  cases q4:((FC t).2 !=0) with
  | true =>
    simp only [f90,go_sem,hk1,hk2,hk3]
    repeat' (first
      | ((first|refine pK (q1) ?_|refine pK (q2) ?_);simp only [go_sem,hk1,hk2,hk3,q3,q4])
      | ((first|apply cS|apply gS)<;>(intro hc;simp only [go_sem,hc,hk1,hk2,hk3,q3,q4])))
    rw [QN,if_neg (by simpa using q3),if_pos (by simpa using q4)]
  | false =>
  rcases Nat.eq_zero_or_pos k with hz|hz
  · have hgt:decide ((0:Int)<(k:Int))=false := decide_eq_false DF
    have q5:Yf s k t=false := by unfold Yf;simp [hz]
    simp only [f90,go_sem,hk1,hk2,hk3]
    repeat' (first
      | ((first|refine pK (q1) ?_|refine pK (q2) ?_);simp only [go_sem,hk1,hk2,hk3,q3,q4,hgt])
      | ((first|apply cS|apply gS)<;>(intro hc;simp only [go_sem,hc,hk1,hk2,hk3,q3,q4,hgt])))
    refine EP t.ports (λr=>r.any λp=>(s.tenants.take k).any λu=>decide (0<=p.edge)&&decide (0<=Gy u p.edge)) (λi=>[(1,.int .i64 k),(2,.ptr 0 0),(5,.ptr 1 0),(9,.int .i64 i)]) DF rfl ?_ ?_
    · intro i y ys hd hy hF h0 h1 hw
      have hy2 := FD hy
      simp only [go_sem,h0,h1,hy2]
      refine EP (s.tenants.take k) (λr=>r.any λu=>decide (0<=y.edge)&&decide (0<=Gy u y.edge)) (λj=>[(1,.int .i64 k),(2,.ptr 0 0),(5,.ptr 1 0),(9,.int .i64 i),(10,.int .i64 j)]) DF rfl ?_ ?_
      · intro j u us hd3 hu3 hF3 g0 g1 gw
        have g1':(j:Int)<(k:Int) := by omega
        have hu4:s.tenants[j]? =some u := by
          rw [Aj] at hu3
          split at hu3
          · exact hu3
          · cases hu3
        have hu5 := Ef hu4
        simp only [go_sem,g0,g1',hy2,h0,hu5]
        repeat' (first
          | (refine pK (ib u y.edge) ?_;simp only [go_sem,h0,h1,hy2,g0,g1',gw,hu5])
          | ((first|apply cS|apply gS)<;>(intro hc;simp only [go_sem,hc,h0,h1,hy2,g0,g1',gw,hu5])))
        all_goals first
          | (have e1:IP s k t=true := by
               unfold IP;rw [hF,Au,hF3,Au]
               simp_all
             simp only [decide_eq_true_eq] at *
             rw [QN,if_neg (by simpa using q3),if_neg (by simpa using q4),if_neg (by rw [q5];decide),if_pos e1])
          | (rw [Au];simp_all;done)
          | skip
      · intro hF3 hlt
        have hlt2 : ¬ ((s.tenants.take k).length:Int)<(k:Int) := by omega
        simp only [go_sem,hlt2,decide_false,hw]
        have hF4:((s.tenants.take k).any λu=>decide (0<=y.edge)&&decide (0<=Gy u y.edge))=false := hF3
        rw [hF4];rfl
    · intro hF hlt
      simp only [go_sem,hlt,decide_false]
      have e1:IP s k t=false := by unfold IP;rw [hF];rfl
      rw [QN,if_neg (by simpa using q3),if_neg (by simpa using q4),if_neg (by rw [q5];decide),if_neg (by rw [e1];decide)]
  · obtain ⟨u,hu⟩ : ∃ u,s.tenants[k - 1]? =some u := ⟨_,AL DF⟩
    have hgt:decide ((0:Int)<(k:Int))=true := decide_eq_true DF
    have hw1:IntKind.i64.wrap ((k:Int) - 1)=((k - 1:Nat):Int) := by rw [NT DF DF];omega
    have hw0:(0:Int)<=((k - 1:Nat):Int) := by omega
    have hu2 := Ef hu
    have hu3:Kp s ((k:Int) - 1)=u := by
      have:((k:Int) - 1)=((k - 1:Nat):Int) := by omega
      rw [this];exact sX hu
    cases q5:Yf s k t with
    | true =>
      have q6:(!Op.bytesLess u.name.toList t.name.toList)=true := by
        unfold Yf at q5;rw [hu3] at q5;simp only [AR] at q5;exact q5.2
      simp only [f90,go_sem,hk1,hk2,hk3]
      repeat' (first
        | ((first|refine pK (q1) ?_|refine pK (q2) ?_);simp only [go_sem,hk1,hk2,hk3,q3,q4,hgt,hw1,hw0,hu2,q6])
        | ((first|apply cS|apply gS)<;>(intro hc;simp only [go_sem,hc,hk1,hk2,hk3,q3,q4,hgt,hw1,hw0,hu2,q6])))
      all_goals first|(rw [QN,if_neg (by simpa using q3),if_neg (by simpa using q4),if_pos q5])|skip
    | false =>
      have q6:(!Op.bytesLess u.name.toList t.name.toList)=false := by
        unfold Yf at q5;rw [hu3] at q5;simp only [Bool.and_eq_false_iff,decide_eq_false_iff_not] at q5
        exact q5.resolve_left DF
      simp only [f90,go_sem,hk1,hk2,hk3]
      repeat' (first
        | ((first|refine pK (q1) ?_|refine pK (q2) ?_);simp only [go_sem,hk1,hk2,hk3,q3,q4,hgt,hw1,hw0,hu2,q6])
        | ((first|apply cS|apply gS)<;>(intro hc;simp only [go_sem,hc,hk1,hk2,hk3,q3,q4,hgt,hw1,hw0,hu2,q6])))
      refine EP t.ports (λr=>r.any λp=>(s.tenants.take k).any λu=>decide (0<=p.edge)&&decide (0<=Gy u p.edge)) (λi=>[(1,.int .i64 k),(2,.ptr 0 0),(5,.ptr 1 0),(9,.int .i64 i)]) DF rfl ?_ ?_
      · intro i y ys hd hy hF h0 h1 hw
        have hy2 := FD hy
        simp only [go_sem,h0,h1,hy2]
        refine EP (s.tenants.take k) (λr=>r.any λu=>decide (0<=y.edge)&&decide (0<=Gy u y.edge)) (λj=>[(1,.int .i64 k),(2,.ptr 0 0),(5,.ptr 1 0),(9,.int .i64 i),(10,.int .i64 j)]) DF rfl ?_ ?_
        · intro j u us hd3 hu3 hF3 g0 g1 gw
          have g1':(j:Int)<(k:Int) := by omega
          have hu4:s.tenants[j]? =some u := by
            rw [Aj] at hu3
            split at hu3
            · exact hu3
            · cases hu3
          have hu5 := Ef hu4
          simp only [go_sem,g0,g1',hy2,h0,hu5]
          repeat' (first
            | (refine pK (ib u y.edge) ?_;simp only [go_sem,h0,h1,hy2,g0,g1',gw,hu5])
            | ((first|apply cS|apply gS)<;>(intro hc;simp only [go_sem,hc,h0,h1,hy2,g0,g1',gw,hu5])))
          all_goals first
            | (have e1:IP s k t=true := by
                 unfold IP;rw [hF,Au,hF3,Au]
                 simp_all
               simp only [decide_eq_true_eq] at *
               rw [QN,if_neg (by simpa using q3),if_neg (by simpa using q4),if_neg (by rw [q5];decide),if_pos e1])
            | (rw [Au];simp_all;done)
            | skip
        · intro hF3 hlt
          have hlt2 : ¬ ((s.tenants.take k).length:Int)<(k:Int) := by omega
          simp only [go_sem,hlt2,decide_false,hw]
          have hF4:((s.tenants.take k).any λu=>decide (0<=y.edge)&&decide (0<=Gy u y.edge))=false := hF3
          rw [hF4];rfl
      · intro hF hlt
        simp only [go_sem,hlt,decide_false]
        have e1:IP s k t=false := by unfold IP;rw [hF];rfl
        rw [QN,if_neg (by simpa using q3),if_neg (by simpa using q4),if_neg (by rw [q5];decide),if_neg (by rw [e1];decide)]
theorem QM{s:Setup}{nm:ByteArray}(h:0<=GV s nm): ∃ t,s.tenants[(GV s nm).toNat]? =some t/\t.name=nm/\Kp s (GV s nm)=t/\GV s nm<(s.tenants.length:Int):=by
 rcases mo (λt:Tenant=>decide (t.name=nm)) s.tenants with ⟨h1,_⟩|⟨j,x,h1,h2,h3,h4,_⟩
 ·unfold GV at h;omega
 ·have h5:GV s nm=(j:Int):=h4
  rw [h5]
  exact ⟨x,by simpa using h2,by simpa using h3,by simp [Kp,h2],DF⟩
theorem rL{k:Int}(h:0<=k):Vm k 0=k:=by unfold Vm;split<;>omega
theorem AQz(s:Setup)(c:Contract)(hl:wW s.fields)(hb:DT c.c<=1073741824)(hn:s.tenants.length<=1073741824):DR AA 91 [.agg s.c,.agg c.c] (.int .i64 (SS s c)):=by
 have q1:=ao s c.src hn
 have q2:=ao s c.dst hn
 simp only [lF] at q1 q2
 refine pC ATV rfl ?_
 by_cases ha:0<=GV s c.src
 ·by_cases hd:0<=GV s c.dst
  ·obtain ⟨a,ha1,_,ha2,ha3⟩:=QM ha
   obtain ⟨b,hb1,_,hb2,hb3⟩:=QM hd
   have ha4:=Ef ha1
   have hb4:=Ef hb1
   rw [rL ha,decide_eq_true ha] at q1
   rw [rL hd,decide_eq_true hd] at q2
   have q3:=rq a c.fromPort
   have q4:=rq b c.toPort
   have q5:=AAm s.fields c.pred hl (Sn hb)
   have e0 : ¬ (GV s c.src<0\/GV s c.dst<0):=DF
   rw [SS,if_neg e0,ha2,hb2]
   by_cases hv:0<=c.via/\c.via<(s.network.nodes.length:Int)
   ·obtain ⟨nd,hnd⟩ : ∃ nd,s.network.nodes[c.via.toNat]? =some nd:=⟨_,AL DF⟩
    have hnd2:=L1 hnd
    have hbx:AAv s c.via=nd.box:=by simp [AAv,hnd]
    have hv0:=hv.1
    simp only [f91,go_sem]
    repeat' (first
     | ((first|refine pK (q1) ?_|refine pK (q2) ?_|refine pK (q3) ?_|refine pK (q4) ?_|refine pK (q5) ?_);simp only [go_sem,ha,hd,ha4,hb4,hnd2,hv0])
     | ((first|apply cS|apply gS)<;>(intro hc;simp only [go_sem,hc,ha,hd,ha4,hb4,hnd2,hv0])))
    all_goals first|(simp only [AFq,hbx];grind)|skip
   ·simp only [f91,go_sem]
    repeat' (first
     | ((first|refine pK (q1) ?_|refine pK (q2) ?_|refine pK (q3) ?_|refine pK (q4) ?_|refine pK (q5) ?_);simp only [go_sem,ha,hd,ha4,hb4])
     | ((first|apply cS|apply gS)<;>(intro hc;simp only [go_sem,hc,ha,hd,ha4,hb4])))
    all_goals first|(simp only [AFq];grind)|skip
  ·rw [decide_eq_false hd] at q2
   simp only [f91,go_sem]
   repeat' (first
    | ((first|refine pK (q1) ?_|refine pK (q2) ?_);simp only [go_sem])
    | ((first|apply cS|apply gS)<;>(intro hc;simp only [go_sem,hc])))
   all_goals first|(rw [SS,if_pos DF])|skip
 ·rw [decide_eq_false ha] at q1
  simp only [f91,go_sem]
  repeat' (first
   | ((first|refine pK (q1) ?_|refine pK (q2) ?_);simp only [go_sem])
   | ((first|apply cS|apply gS)<;>(intro hc;simp only [go_sem,hc])))
  all_goals first|(rw [SS,if_pos DF])|skip
def Mx(l:List Bool):List AV:=l.map .bool
theorem WL(l:List Bool):(Mx l).length=l.length:=by simp [Mx]
theorem ix{l:List Bool}{i:Nat}{b:Bool}(h:l[i]? =some b):(Mx l)[i]? =some (.bool b):=by simp [Mx,h]
theorem ABG{l:List Bool}{i:Nat}(h:i<l.length)(b:Bool):splice (Mx l) i [.bool b]=Mx (l.set i b):=by
 apply List.ext_getElem?
 intro j
 have hl:=WL l
 rw [IT (by simp;omega)]
 simp only [Mx,List.getElem?_map,List.getElem?_set,List.length_singleton]
 by_cases hj:i<=j/\j<i+1
 ·have:j=i:=DF
  subst this
  rw [if_pos hj,if_pos rfl,if_pos h];simp
 ·rw [if_neg hj,if_neg DF]
@[go_sem] theorem ASF(l:List Bool):DY (Mx l)=true:=by
 induction l with
 | nil=>rfl
 | cons b l ih=>exact ih
theorem pl(l:List Bool):HK false 1 l.length ((Mx l).map borrow1)=Mx l:=by
 induction l with
 | nil=>rfl
 | cons b l ih =>
  show AV.bool b::HK false 1 l.length ((Mx l).map borrow1)=AV.bool b::Mx l
  rw [ih]
theorem ABH(n:Nat):(A5 n [AV.bool false]).flatten=Mx (A5 n false):=by
 induction n with
 | zero=>rfl
 | succ n ih=>rw [Cm,List.flatten_cons,ih];rfl
def oz(l:List Bool):Nat:=(l.filter id).length
theorem rj(l:List Bool):oz l<=l.length:=List.length_filter_le _ _
theorem AAV{l:List Bool}{i:Nat}(h:l[i]? =some false):oz (l.set i true)=oz l+1:=by
 induction l generalizing i with
 | nil=>simp at h
 | cons b l ih =>
  cases i with
  | zero=>simp at h;subst h;simp [oz]
  | succ i =>
   have:=ih (i:=i) (by simpa using h)
   simp only [List.set_cons_succ,oz,List.filter_cons] at this ⊢
   split<;>simp_all
theorem AAW(n:Nat):oz (A5 n false)=0:=by
 induction n with
 | zero=>rfl
 | succ n ih=>rw [Cm];exact ih
def rOk(s:Setup)(x:List Bool×List Int):Prop:=x.1.length=s.tenants.length/\x.2.length=1+oz x.1 /\ ∀ a∈x.2,0<=a/\a<(s.tenants.length:Int)
set_option maxHeartbeats 2000000 in
theorem vG(s:Setup)(k:Nat)(hk:k<s.tenants.length)(hn:s.tenants.length<=1048576)(hc:s.contracts.length<=1048576)(hf : ∀ c∈s.contracts,0<=GV s c.dst):DR AA 92 [.agg s.c,.int .i64 k] (.sl none (Mx (rch s k))):=by
 refine pB ATR rfl ?_
 have hz:EW AA 4=some (.bool false):=kr
 have n0:(s.tenants.length:Int)*((1:Nat):Int)<=140737488355328:=DF
 simp only [f92,go_sem]
 refine ⟨DF,n0,DF, ?_⟩
 refine Jn (σ:=Nat×List Bool×List Int) (λx=>[(2,.ptr 0 0),(5,.msl 1 0 s.tenants.length 1),(6,.sl (some 1) (E4 x.2.2)),(7,.int .i64 x.1)]) (λx=>[some s.c,some (Mx x.2.1)])
  (λx=>x.1<=x.2.2.length/\rOk s x.2/\rch s k=Ur s (s.tenants.length+2 - x.1) x.1 x.2) (λx=>s.tenants.length+2 - x.1) (0,A5 s.tenants.length false,[(k:Int)])
  ⟨Nat.zero_le _,⟨sm,by rw [AAW];rfl,λa ha=>by rcases Al.1 ha with rfl;omega⟩,rfl⟩ rfl (by rw [ABH]) ?_
 rintro ⟨i,seen,q⟩ ⟨hi,hR,hE⟩
 have hq:=hR.2.1
 have hcn:=rj seen
 have hsl:=hR.1
 simp only at hi hq hcn hsl
 by_cases hlt:i<q.length
 ·obtain ⟨a,ha⟩ : ∃ a,q[i]? =some a:=⟨_,AL hlt⟩
  obtain ⟨ha0,ha1⟩:=hR.2.2 a (AB ha)
  obtain ⟨u,hu⟩ : ∃ u,s.tenants[a.toNat]? =some u:=⟨_,AL DF⟩
  have hu2:=Ef hu
  have hu3:Kp s a=u:=by simp [Kp,hu]
  have hlt2:(i:Int)<(q.length:Int):=DF
  have hw:=Ln (k:=i) DF
  have hi0:(0:Int)<=(i:Int):=DF
  simp only [go_sem,hlt2]
  refine Ed s.contracts (λx r=>Zf s u.name r x) (λ_ x=>rOk s x/\x.2[i]? =some a) (λj x=>[(2,.ptr 0 0),(5,.msl 1 0 s.tenants.length 1),(6,.sl (some 1) (E4 x.2)),(7,.int .i64 i),(8,.int .i64 j)]) (λj x=>[some s.c,some (Mx x.1)]) (seen,q) DF ⟨hR,ha⟩ rfl rfl ?_ ?_
  ·rintro j ⟨sn,p⟩ c cs hd hcx ⟨hRx,hax⟩ hF g0 g1 gw
   have hcm:=AB hcx
   have hc2:=FF hcx
   have ht0:=hf c hcm
   obtain ⟨v,hv1,_,_,hv4⟩:=QM ht0
   obtain ⟨m,hm⟩ : ∃ m:Nat,GV s c.dst=(m:Int):=⟨(GV s c.dst).toNat,DF⟩
   have q1:=ao s c.dst DF
   rw [lF,rL ht0,decide_eq_true ht0,hm] at q1
   have hm1:m<sn.length:=by rw [hRx.1];omega
   have hm2:(m:Int)<(s.tenants.length:Int):=DF
   have hm0:(0:Int)<=(m:Int):=DF
   obtain ⟨b,hb⟩ : ∃ b,sn[m]? =some b:=⟨_,AL hm1⟩
   have hb2:=ix hb
   have hp2:=E1 hax
   have hst:=ABG hm1 true
   have hpl:(E4 p).length=p.length:=F6 p
   have hrl:=WL sn
   have hq2:=hRx.2.1
   have hcn2:=rj sn
   simp only at hq2 hcn2
   have hsn:=hRx.1
   simp only at hsn
   have hm3:(m+1<=sn.length)=True:=eq_true DF
   simp only [go_sem,g0,g1,hc2,hi0,hp2,ha0,hu2,hm0,hm2,hb2,hst,hrl,By]
   repeat' (first
    | (refine pK (q1) ?_;simp only [go_sem,g0,g1,hc2,hi0,hp2,ha0,hu2,hm0,hm2,hb2,hst,hrl,By,gw,hm3])
    | ((first|apply cS|apply gS)<;>(intro hc;simp only [go_sem,hc,g0,g1,hc2,hi0,hp2,ha0,hu2,hm0,hm2,hb2,hst,hrl,By,gw,hm3])))
   ·have hb3:b=false:=by simpa using hc
    subst hb3
    rename_i hc1
    refine ⟨DF,DF,(sn.set m true,p++[(m:Int)]), ?_,⟨⟨by simpa using hsn,by rw [AAV hb];simp;omega, ?_⟩, ?_⟩, ?_⟩
    ·rw [Zf,if_pos ⟨by simpa using hc1,by rw [hm];simp [hb]⟩,hm,rL hm0];simp
    ·intro z hz
     rcases List.mem_append.1 hz with hz|hz
     ·exact hRx.2.2 z hz
     ·rcases Al.1 hz with rfl;exact ⟨hm0,hm2⟩
    ·rw [AW (AD.1 hax).1];exact hax
    ·exact ⟨rfl,rfl⟩
   ·have hb3:b=true:=by simpa using hc
    subst hb3
    exact ⟨(sn,p),by rw [Zf,if_neg (by rw [hm];simp [hb])],⟨hRx,hax⟩,rfl,rfl⟩
   ·rename_i hc1
    exact ⟨(sn,p),by rw [Zf,if_neg (λh=>by simp [h.1] at hc)],⟨hRx,hax⟩,rfl,rfl⟩
  ·rintro ⟨sn,p⟩ ⟨hRx,hax⟩ hF
   simp only [go_sem,Int.lt_irrefl,decide_false,hw]
   have hF':Zf s u.name s.contracts (seen,q)=(sn,p):=hF
   have e2:s.tenants.length+2 - i=(s.tenants.length+2 - (i+1))+1:=DF
   have hpi:=(AD.1 hax).1
   simp only at hpi
   refine ⟨(i+1,sn,p),⟨by simp only;omega,hRx, ?_⟩,by simp only;omega,rfl,rfl⟩
   rw [hE]
   simp only
   rw [e2,Ur]
   simp only [ha]
   rw [hu3,hF']
 ·have hlt2 : ¬ (i:Int)<(q.length:Int):=DF
  have hfr:(s.tenants.length<=(Mx seen).length/\(False\/True))=True:=eq_true ⟨by rw [WL];omega,.inr trivial⟩
  have hch:HK false 1 s.tenants.length ((Mx seen).map borrow1)=Mx seen:=by rw [<- hsl];exact pl seen
  have e2:s.tenants.length+2 - i=(s.tenants.length+1 - i)+1:=DF
  have hE2:rch s k=seen:=by
   rw [hE]
   simp only
   rw [e2,Ur]
   simp only [List.getElem?_eq_none (Nat.le_of_not_lt hlt)]
  rw [hE2]
  simp only [go_sem,hlt2,decide_false,hfr,hch]
theorem dT(s:Setup)(nm:ByteArray): ∀ (l:List Contract) (x:List Bool×List Int),(Zf s nm l x).1.length=x.1.length
 | [],x=>rfl
 | c::r,x=>by
  rw [Zf,dT s nm r]
  split<;>simp
theorem Yb(s:Setup): ∀ (f i:Nat) (x:List Bool×List Int),(Ur s f i x).length=x.1.length
 | 0,_,_=>rfl
 | f+1,i,x=>by
  rw [Ur]
  split
  ·rfl
  ·rw [Yb s f,dT]
theorem ACf(s:Setup)(k:Int):(rch s k).length=s.tenants.length:=by rw [rch,Yb];simp
theorem N4{s:Setup}: ∀ {l:List Contract} {i:Nat},Jg s i l=none -> ∀ c∈l,SS s c=0
 | [],_,_,c,hc=>by cases hc
 | x::r,i,h,c,hc=>by
  rw [Jg] at h
  split at h
  ·cases h
  ·rename_i hx
   rcases List.mem_cons.1 hc with rfl|hc
   ·simpa using hx
   ·exact N4 h c hc
theorem Su{s:Setup}: ∀ {l:List Tenant} {i:Nat},JM s i l=none -> ∀ (j:Nat) (t:Tenant),l[j]? =some t->QN s (i+j) t=0
 | [],_,_,j,t,hc=>by simp at hc
 | x::r,i,h,j,t,hc=>by
  rw [JM] at h
  split at h
  ·cases h
  ·rename_i hx
   cases j with
   | zero=>simp at hc;subst hc;simpa using hx
   | succ j =>
    have:=Su h j t (by simpa using hc)
    rwa [show i+1+j=i+(j+1) by omega] at this
theorem Q7{s:Setup}{c:Contract}(h:SS s c=0):0<=GV s c.src/\0<=GV s c.dst:=by
 unfold SS at h
 split at h
 ·cases h
 ·omega
set_option maxHeartbeats 4000000 in
theorem AQ4(s:Setup)(hs:DT s.c<=1048576):DR AA 44 [.agg s.c] (.tup [.int .i64 (Tr s).1,.int .i64 (Tr s).2]):=by
 have hnt:s.tenants.length<=1048576:=mN (Hq hs)
 have hnc:s.contracts.length<=1048576:=Mh (G9 hs)
 have hs2:DT s.c<=1073741824:=AK hs dc
 have q1:=ADz s.network (MH hs2)
 have q2:=AY6 s.fields (KL hs2)
 refine pC AU8 rfl ?_
 by_cases e1:Hv s.network=0
 ·by_cases e2:N5 s.fields=0
  ·have hl:wW s.fields:=λf hf=>Int.le_trans (ZC e2 f hf) dc
   have e3:(Hv s.network !=0)=false:=by simp [e1]
   have e4:(N5 s.fields !=0)=false:=by simp [e2]
   by_cases e5:64<s.tenants.length\/100<s.contracts.length
   ·have h0:Tr s=(0,2):=by unfold Tr;rw [if_neg (by simp [e1]),if_neg (by simp [e2]),if_pos e5]
    rw [h0]
    simp only [f44,go_sem]
    repeat' (first
     | ((first|refine pK (q1) ?_|refine pK (q2) ?_);simp only [go_sem,e3,e4])
     | ((first|apply cS|apply gS)<;>(intro hc;simp only [go_sem,hc,e3,e4])))
    all_goals first|rfl|(simp only [decide_eq_true_eq,decide_eq_false_iff_not] at *;omega)|skip
   ·have h0:Tr s=(match JM s 0 s.tenants with
      | some x=>x
      | none=>match Jg s 0 s.contracts with
       | some x=>x
       | none=>(IM s 0 s.tenants).getD (0,0)):=by unfold Tr;rw [if_neg (by simp [e1]),if_neg (by simp [e2]),if_neg e5]<;>rfl
    have g1 : ¬ (64:Int)<(s.tenants.length:Int):=DF
    have g2 : ¬ (100:Int)<(s.contracts.length:Int):=DF
    simp only [f44,go_sem]
    repeat' (first
     | ((first|refine pK (q1) ?_|refine pK (q2) ?_);simp only [go_sem,e3,e4,g1,g2,decide_false])
     | ((first|apply cS|apply gS)<;>(intro hc;simp only [go_sem,hc,e3,e4,g1,g2,decide_false])))
    refine EP s.tenants (λr=>JM s (s.tenants.length - r.length) r) (λk=>[(1,.ptr 0 0),(5,.int .i64 k)]) DF rfl ?_ ?_
    ·intro k y ys hd hx hF k0 k1 hw
     have hk2:=Eb hd
     have d1:s.tenants.length - (ys.length+1)=k:=DF
     have d2:s.tenants.length - ys.length=k+1:=DF
     simp only [AC,d1,d2,AQ] at hF ⊢
     have hby:DT y.c<=1048576:=by have:=Pl (Hq hs) (AB hx);simpa only [AV.bulk] using this
     simp only [go_sem,k0,k1]
     repeat' (first
      | (refine pK (AQq s k y hx hl hs2 hby DF) ?_;simp only [go_sem,k0,k1,hw,d1,d2])
      | ((first|apply cS|apply gS)<;>(intro hc;simp only [go_sem,hc,k0,k1,hw,d1,d2])))
     ·have h1:JM s 0 s.tenants=some ((k:Int),QN s k y):=by rw [hF,JM,if_pos (by simpa using hc)]
      rw [h0,h1]
     ·rw [JM,if_neg (by simpa using hc)]
    ·intro hF hlt
     have hT:JM s 0 s.tenants=none:=by rw [AQ] at hF;rw [hF];rfl
     simp only [go_sem,hlt,decide_false]
     refine EP s.contracts (λr=>Jg s (s.contracts.length - r.length) r) (λk=>[(1,.ptr 0 0),(6,.int .i64 k)]) DF rfl ?_ ?_
     ·intro k y ys hd hx hF2 k0 k1 hw
      have hk2:=Eb hd
      have d1:s.contracts.length - (ys.length+1)=k:=DF
      have d2:s.contracts.length - ys.length=k+1:=DF
      simp only [AC,d1,d2,AQ] at hF2 ⊢
      have hby:DT y.c<=1073741824:=by
       have h5:=aF (G9 hs) (AB hx)
       have h6:DT y.c<=1048576:=by simpa only [AV.bulk] using h5
       exact AK h6 dc
      simp only [go_sem,k0,k1,FF hx]
      repeat' (first
       | (refine pK (AQz s y hl hby DF) ?_;simp only [go_sem,k0,k1,hw,d1,d2,FF hx])
       | ((first|apply cS|apply gS)<;>(intro hc;simp only [go_sem,hc,k0,k1,hw,d1,d2,FF hx])))
      ·have h1:Jg s 0 s.contracts=some ((k:Int),SS s y):=by rw [hF2,Jg,if_pos (by simpa using hc)]
       rw [h0,hT,h1]
      ·rw [Jg,if_neg (by simpa using hc)]
     ·intro hF2 hlt2
      have hC:Jg s 0 s.contracts=none:=by rw [AQ] at hF2;rw [hF2];rfl
      have hdst : ∀ c∈s.contracts,0<=GV s c.dst:=λc hc=>(Q7 (N4 hC c hc)).2
      simp only [go_sem,hlt2,decide_false]
      refine EP s.tenants (λr=>IM s (s.tenants.length - r.length) r) (λk=>[(1,.ptr 0 0),(7,.int .i64 k)]) DF rfl ?_ ?_
      ·intro k y ys hd hx hF3 k0 k1 hw
       have hk2:=Eb hd
       have d1:s.tenants.length - (ys.length+1)=k:=DF
       have d2:s.tenants.length - ys.length=k+1:=DF
       simp only [AC,d1,d2,AQ] at hF3 ⊢
       have q3:=vG s k DF hnt hnc hdst
       have hrl:(rch s k).length=s.tenants.length:=ACf s k
       obtain ⟨b,hb⟩ : ∃ b,(rch s k)[k]? =some b:=⟨_,AL DF⟩
       have hb2:=ix hb
       simp only [go_sem,k0,k1]
       repeat' (first
        | (refine pK (q3) ?_;simp only [go_sem,k0,k1,hw,d1,d2,hb2])
        | ((first|apply cS|apply gS)<;>(intro hc;simp only [go_sem,hc,k0,k1,hw,d1,d2,hb2])))
       ·have h1:IM s 0 s.tenants=some (0,21):=by rw [hF3,IM,if_pos (by rw [hb];simpa using hc)]
        rw [h0,hT,hC,h1];rfl
       ·rw [IM,if_neg (by rw [hb];simpa using hc)]
      ·intro hF3 hlt3
       have hL:IM s 0 s.tenants=none:=by rw [AQ] at hF3;rw [hF3];rfl
       simp only [go_sem,hlt3,decide_false]
       rw [h0,hT,hC,hL];rfl
  ·have e3:(Hv s.network !=0)=false:=by simp [e1]
   have e4:(N5 s.fields !=0)=true:=by simp [e2]
   have h0:Tr s=(0,N5 s.fields):=by unfold Tr;rw [if_neg (by simp [e1]),if_pos e2]
   rw [h0]
   simp only [f44,go_sem]
   repeat' (first
    | ((first|refine pK (q1) ?_|refine pK (q2) ?_);simp only [go_sem,e3,e4])
    | ((first|apply cS|apply gS)<;>(intro hc;simp only [go_sem,hc,e3,e4])))
 ·have e3:(Hv s.network !=0)=true:=by simp [e1]
  have h0:Tr s=(0,Hv s.network):=by unfold Tr;rw [if_pos e1]
  rw [h0]
  simp only [f44,go_sem]
  repeat' (first
   | ((first|refine pK (q1) ?_|refine pK (q2) ?_);simp only [go_sem,e3])
   | ((first|apply cS|apply gS)<;>(intro hc;simp only [go_sem,hc,e3])))
theorem vF(s:Setup)(hs:DT s.c<=1048576):DR AA 15 [.agg s.c] (.bool (Iq s)):=by
 refine pC AV4 rfl ?_
 simp only [f15,go_sem]
 repeat' (first
  | ((first|refine pK (ADw s) ?_|refine pK (AQ4 s hs) ?_);simp only [go_sem])
  | ((first|apply cS|apply gS)<;>(intro hc;simp only [go_sem,hc])))
 all_goals first
  | rfl
  | (simp only [Iq];rfl)
  | grind [Iq]
  | (simp only [Iq];grind)
  | (simp [Iq, *];done)
  | (simp_all [Iq];done)
  | skip
theorem x0(l:List Fld)(hl:Hl l)(hln:l.length<=9223372036854775807)(x:Pred)(hx:Gw l x)(t:Int)(h:Head)(hr:EF h=true):DR AA 58 [.sl none (E8 l),.agg x.c,.agg h.c,.int .i64 t] (.bool (hP l t x h)):=by
 have c1:Dx AA 72 [.sl none (E8 l),.int .i64 t] [some x.c,some h.c] λv H'=>v = .ptr 4 0/\H'=[some x.c,some h.c]++[some [.sl none (E8 l)],some [.int .i64 t],some (ZQ 2),some [.ptr 4 0]]:=ASi l t [some x.c,some h.c]
 have hW:fh l t 3 5 2 4 ([some x.c,some h.c]++[some [.sl none (E8 l)],some [.int .i64 t],some (ZQ 2),some [.ptr 4 0]]):=⟨rfl,rfl,⟨none,rfl⟩,rfl⟩
 have c2:OK AA 130 [.agg x.c,.agg h.c,.ptr 3 0,.ptr 5 0,.ptr 2 0] ([some x.c,some h.c]++[some [.sl none (E8 l)],some [.int .i64 t],some (ZQ 2),some [.ptr 4 0]]) (.bool (hP l t x h)):=λH2 hv=>dj l hl hln t 3 5 2 4 x hx h hr H2 (hW.view hv)
 have ho : ∀ ops,zR.ord 1 ops=(l4 [6,7] ops.size).filterMap λi=>ops[i]?:=λops=>rfl
 have hI:l4 [6,7] 10=[6,7,0,1,2,3,4,5,8,9]:=dc
 simp only [ZQ] at c1 c2
 refine pB AUu rfl ?_
 simp only [f58,go_sem]
 rw [OE _ _ _ (by simp only [go_sem]) rfl,ho]
 simp only [List.size_toArray,AC,List.length_nil,Nat.reduceAdd,hI,List.filterMap_cons,List.getElem?_toArray,List.getElem?_cons_succ,List.getElem?_cons_zero,List.filterMap_nil]
 simp only [go_sem]
 refine ⟨_,_,c1, ?_⟩
 simp only [go_sem]
 repeat' (first
  | (refine rK (c2) ?_;simp only [go_sem])
  | ((first|apply cS|apply gS)<;>(intro hc;simp only [go_sem,hc])))
 all_goals first|rfl|skip
def lG(s:Setup)(nm:ByteArray)(h:Head)(t:Int)(c:Contract):Bool:=decide (c.src=nm)&&(c.fromPort==h.h0&&hP s.fields t c.pred h)
theorem yG {H:DM} (s:Setup) (hl:Hl s.fields) (hln:s.fields.length<=9223372036854775807) (k:Nat) (u:Tenant) (hu:s.tenants[k]? =some u) (h:Head) (hr:EF h=true) (t:Int) (c:Contract) (hx:Gw s.fields c.pred)
  (os ok oh ot:Nat) (h1:H[os]? =some (some s.c)) (h2:H[ok]? =some (some [.int .i64 k])) (h3:H[oh]? =some (some h.c)) (h4:H[ot]? =some (some [.int .i64 t])) :
  E5 AA 57 [.agg c.c,.ptr os 0,.ptr ok 0,.ptr oh 0,.ptr ot 0] H (.bool (lG s u.name h t c)):=by
 refine Dx.drop rfl ?_
 have g1:=Dg h1
 have g2:=Dg h2
 have g3:=Dg h3
 have g4:=Dg h4
 have q0:=q_0 H
 have hu2:=Ef hu
 have hk0:(0:Int)<=(k:Int):=DF
 refine aC AUy rfl ?_
 simp only [f57,go_sem,g1,g2,g3,g4,q0,hu2,hk0,By]
 repeat' (first
  | (refine pK (x0 s.fields hl hln c.pred hx t h hr) ?_;simp only [go_sem,g1,g2,g3,g4,q0,hu2,hk0,By])
  | ((first|apply cS|apply gS)<;>(intro hc;simp only [go_sem,hc,g1,g2,g3,g4,q0,hu2,hk0,By])))
 all_goals first|(simp only [lG];grind)|skip
theorem ACx(s:Setup)(hl:Hl s.fields)(hln:s.fields.length<=9223372036854775807)(hcl:s.contracts.length<=9223372036854775807)(k:Nat)(u:Tenant)(hu:s.tenants[k]? =some u)(h:Head)(hr:EF h=true)(t:Int)(hx : ∀ c∈s.contracts,Gw s.fields c.pred):
  DR AA 30 [.agg s.c,.int .i64 k,.agg h.c,.int .i64 t] (.int .i64 (Gq (lG s u.name h t) s.contracts)):=by
 have c1:=TT (H:=[some s.c,some [.int .i64 k],some h.c,some [.int .i64 t]]) s.contracts hcl 57 [] [.ptr 0 0,.ptr 1 0,.ptr 2 0,.ptr 3 0] (lG s u.name h t)
  (λc hc=>yG s hl hln k u hu h hr t c (hx c hc) 0 1 2 3 rfl rfl rfl rfl)
 refine pC AVs rfl ?_
 simp only [f30,go_sem]
 repeat' (first
  | (refine aS (c1) ?_;simp only [go_sem])
  | ((first|apply cS|apply gS)<;>(intro hc;simp only [go_sem,hc])))
 all_goals first|rfl|skip
theorem u1{l:List Fld}{x:Pred}(h:Tq l x=0):Gw l x:=by
 unfold Tq at h
 split at h
 ·rename_i h1
  refine ⟨?_,(Oj l _).1 h⟩
  unfold ckP rU at h1
  split at h1
  ·split at h1
   ·assumption
   ·cases h1
  ·rename_i h2;exact absurd h1 h2
 ·rename_i h1;exact absurd h h1
structure R19 (s:Setup):Prop where
 net:Hv s.network=0
 fld:Hl s.fields
 fld0:N5 s.fields=0
 ten : ∀ (k:Nat) (t:Tenant),s.tenants[k]? =some t->QN s k t=0
 con : ∀ c∈s.contracts,SS s c=0
 loop:IM s 0 s.tenants=none
theorem YX{s:Setup}(h:Iq s=true):R19 s:=by
 unfold Iq at h
 simp only [AR,beq_iff_eq] at h
 obtain ⟨_,h⟩:=h
 have l1 : ∀ {i:Nat} {r:List Tenant} {x:Int×Int},JM s i r=some x->x.2≠0:=by
  intro i r
  induction r generalizing i with
  | nil=>intro x hx;cases hx
  | cons y r ih =>
   intro x hx
   rw [JM] at hx
   split at hx
   ·rename_i hne;cases hx;exact hne
   ·exact ih hx
 have l2 : ∀ {i:Nat} {r:List Contract} {x:Int×Int},Jg s i r=some x->x.2≠0:=by
  intro i r
  induction r generalizing i with
  | nil=>intro x hx;cases hx
  | cons y r ih =>
   intro x hx
   rw [Jg] at hx
   split at hx
   ·rename_i hne;cases hx;exact hne
   ·exact ih hx
 have l3 : ∀ {i:Nat} {r:List Tenant} {x:Int×Int},IM s i r=some x->x.2≠0:=by
  intro i r
  induction r generalizing i with
  | nil=>intro x hx;cases hx
  | cons y r ih =>
   intro x hx
   rw [IM] at hx
   split at hx
   ·cases hx;decide
   ·exact ih hx
 unfold Tr at h
 split at h
 ·rename_i hne;exact absurd h hne
 rename_i h1
 split at h
 ·rename_i hne;exact absurd h hne
 rename_i h2
 split at h
 ·cases h
 have hF:N5 s.fields=0:=by simpa using h2
 cases hT:JM s 0 s.tenants with
 | some x=>rw [hT] at h;exact absurd h (l1 hT)
 | none =>
  rw [hT] at h
  cases hC:Jg s 0 s.contracts with
  | some x=>rw [hC] at h;exact absurd h (l2 hC)
  | none =>
   rw [hC] at h
   cases hL:IM s 0 s.tenants with
   | some x=>rw [hL] at h;exact absurd h (l3 hL)
   | none =>
    exact ⟨by simpa using h1,AQp hF,hF,λk t ht=>by have:=Su hT k t ht;rwa [Nat.zero_add] at this,N4 hC,hL⟩
theorem R19.pred{s:Setup}(h:R19 s){c:Contract}(hc:c∈s.contracts):Gw s.fields c.pred:=by
 have h1:=h.con c hc
 unfold SS at h1
 split at h1
 ·cases h1
 split at h1
 ·cases h1
 split at h1
 ·rename_i h2;exact absurd h1 h2
 rename_i h2
 exact u1 (by simpa using h2)
theorem tC{H:DM}(t:Tenant)(nm:ByteArray)(o:Nat)(ho:H[o]? =some (some [.str nm])):E5 AA 60 [.agg t.c,.ptr o 0] H (.bool (decide (t.name=nm))):=by
 refine Dx.drop rfl ?_
 refine aC AUo rfl ?_
 have ho' : ∀ z,(H++z)[o]? =some (some [.str nm]):=λz=>by
  have:=(AD.1 ho).1
  rw [AW this];exact ho
 simp only [f60,go_sem,ho',By]
theorem yF(s:Setup)(nm:ByteArray)(hl:s.tenants.length<=1073741824):DR AA 32 [.agg s.c,.str nm] (lF (GV s nm)):=by
 have c1:=W9 (H:=[some s.c,some [.str nm]]) s.tenants DF 60 [] [.ptr 1 0] (λt=>decide (t.name=nm)) (λt _=>tC t nm 1 rfl)
 refine pC AVm rfl ?_
 simp only [f32,go_sem]
 repeat' (first
  | (refine aS (c1) ?_;simp only [go_sem])
  | ((first|apply cS|apply gS)<;>(intro hc;simp only [go_sem,hc])))
 all_goals first|rfl|skip
section
variable {s:Setup} {nm:ByteArray}
end
section
variable {s:Setup} (hd : ∀ c∈s.contracts,0<=GV s c.dst)
include hd
omit hd in
omit hd in
end
end Go.AI
namespace Go.AI
open Go.Proofs
set_option maxRecDepth 50000
theorem yN(l:List Int)(hl:l.length<=1048576):DR AA 31 [.sl none (E4 l)] (.sl (some 1) (E4 l)):=λH =>
 d6 _ (VT l) (by rw [F6];exact hl) H
def lCh(l:List (List Int)):List AV:=l.map λc => .sl none (E4 c)
@[go_sem] theorem AS9(l:List (List Int)):DY (lCh l)=true:=by
 induction l with
 | nil=>rfl
 | cons c l ih=>simp only [lCh,List.map_cons,DY,AV.pure,If,Bool.true_and];exact ih
end Go.AI
