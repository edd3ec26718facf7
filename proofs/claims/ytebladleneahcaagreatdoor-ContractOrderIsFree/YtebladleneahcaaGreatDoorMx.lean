/- What the specification of layer 19 checks,in plain Lean. -/
import Derived.Test.YtebladleneahcaaGreatDoorMz
set_option linter.unusedSimpArgs false
set_option linter.unusedVariables false
set_option maxHeartbeats 4000000
open Go.Proofs.Tryz
open Go.AI renaming Setup->E3,Tenant->E4,Contract->E5
open Bool renaming and_eq_true->AQ
open Int renaming lt_irrefl->AX,toNat_natCast->Af
open List renaming all_cons->Al,all_nil->A6,any_cons->As,append_assoc->AE,cons_append->AS,drop_drop->A8,filter_cons->DT,getElem?_append_left->AT,getElem?_cons_zero->A7,getElem?_eq_getElem->AL,getElem?_eq_some_iff->AC,getElem?_of_mem->Ae,getElem?_set->Au,getElem?_take->Aj,length_append->AF,length_cons->AD,length_nil->AH,length_take->BD,mem_append->Ar,mem_cons->AW,mem_of_getElem?->AB,mem_singleton->Ab,nil_append->AO,replicate->Ay,replicate_succ->CW,take_add_one->BF,take_length->BI
open Nat renaming add_sub_cancel_left->A1,le_trans->AK,sub_self->AP,zero_add->AY
open Go.Proofs.Tryz renaming prog->AA
namespace Go.AI
section
variable {P:Program} {t:TypeId} {x y:ByteArray} {d:Tmp} {K:Kt} {e:Ft} {H:FR}
@[go_sem] theorem AVx:Ih P .geq t (.str x) (.str y) d K e H=K ((d,.bool !(Op.bytesLess x.toList y.toList))::e) H:=by rw [PB];simp [KD]
@[go_sem] theorem AVw:Ih P .gtr t (.str x) (.str y) d K e H=K ((d,.bool !(Op.bytesLess x.toList y.toList||x.toList==y.toList))::e) H:=by rw [PB];simp [KD]
end
def Hw(s:E3):Bool :=
 oA s.network 20 40 20&&(decide ((s.fields.length:Int)<=20)&&(decide ((s.tenants.length:Int)<=8)&&(decide ((s.contracts.length:Int)<=12)&&(s.tenants.all Lu&&s.contracts.all λc=>YF c.pred))))
def GP(s:E3)(nm:ByteArray):Int:=H7 (λt:E4=>decide (t.name=nm)) s.tenants
def HJ(s:E3)(k:Int):E4:=(s.tenants[k.toNat]?).getD Tenant.z
theorem iF{α:Type}(p:α->Bool): ∀ (l:List α) (i:Nat),HL p i l = -1 \/ ∃ j x,l[j]? =some x/\p x=true/\HL p i l=((i+j:Nat):Int) /\ ∀ m y,m<j->l[m]? =some y->p y=false
 | [],i => .inl rfl
 | x::l,i=>by
  rw [HL]
  cases h:p x with
  | true=>exact .inr ⟨0,x,rfl,h,sm,λm y hm=>FQ⟩
  | false =>
   rcases iF p l (i+1) with h1|⟨j,y,h1,h2,h3,h4⟩
   ·exact .inl (by simpa using h1)
   ·refine .inr ⟨j+1,y,h1,h2,by rw [iN sm,h3];congr 1;omega,λm z hm hz=>?_⟩
    cases m with
    | zero=>simp at hz;subst hz;exact h
    | succ m=>exact h4 m z FQ (by simpa using hz)
theorem nZ{α:Type}(p:α->Bool)(l:List α):(H7 p l = -1 /\ ∀ y∈l,p y=false) \/ ∃ (j:Nat) (x:α),j<l.length/\l[j]? =some x/\p x=true/\H7 p l=(j:Int) /\ ∀ (m:Nat) (y:α),m<j->l[m]? =some y->p y=false:=by
 rcases iF p l 0 with h|⟨j,x,h1,h2,h3,h4⟩
 ·refine .inl ⟨h,λy hy=>?_⟩
  have h2:=Pf p l 0
  rw [h] at h2
  have h3:l.any p=false:=by rw [<- h2];rfl
  rw [List.any_eq_false] at h3
  simpa using h3 y hy
 ·exact .inr ⟨j,x,(AC.1 h1).1,h1,h2,by unfold H7;rw [h3];simp,h4⟩
def JQ(s:E3)(k:Nat)(t:E4):Bool:=t.ports.any λp=>(s.tenants.take k).any λu=>decide (0<=p.edge)&&decide (0<=IOq u p.edge)
def ZD(s:E3)(k:Nat)(t:E4):Bool:=decide (0<k) && !Tr (HJ s ((k:Int) - 1)).name t.name
def RV(s:E3)(k:Nat)(t:E4):Int :=
 if Jr s t≠0 then Jr s t else if (GO t).2≠0 then (GO t).2 else if ZD s k t=true then 4 else if JQ s k t=true then 10 else 0
def KM(s:E3):Nat->List E4->Option (Int×Int)
 | _,[]=>none
 | k,t::r=>if RV s k t≠0 then some ((k:Int),RV s k t) else KM s (k+1) r
def fR(t:E4)(n:Int):Bool:=decide (0<=n)&&(decide (n<(t.ports.length:Int))&&decide (0<=O2 t n))
def ADJ(s:E3)(n:Int):Bool:=((s.network.nodes[n.toNat]?).map (·.box)).getD false
def AIP(s:E3)(c:E5):Bool :=
 decide (-1<=c.via)&&(decide (c.via<(s.network.nodes.length:Int))&&((decide (c.via<0)||ADJ s c.via)&&(decide (0<=c.capacity)&&(decide (c.capacity<=1048576)&&(decide (0<=c.price)&&decide (c.price<=1000))))))
def TJ(s:E3)(c:E5):Int :=
 if GP s c.src<0\/GP s c.dst<0 then 9
 else if GP s c.src=GP s c.dst\/fR (HJ s (GP s c.src)) c.fromPort=false\/fR (HJ s (GP s c.dst)) c.toPort=false then 1
 else if UU s.fields c.pred≠0 then UU s.fields c.pred
 else if AIP s c=false then 1 else 0
def Ke(s:E3):Nat->List E5->Option (Int×Int)
 | _,[]=>none
 | k,c::r=>if TJ s c≠0 then some ((k:Int),TJ s c) else Ke s (k+1) r
def Ky(s:E3)(nm:ByteArray):List E5->List Bool×List Int->List Bool×List Int
 | [],x=>x
 | c::r,x=>Ky s nm r (if c.src=nm/\(x.1[(GP s c.dst).toNat]?).getD true=false then (x.1.set (GP s c.dst).toNat true,x.2++[Qv (GP s c.dst) 0]) else x)
def Mn(s:E3):Nat->Nat->List Bool×List Int->List Bool
 | 0,_,x=>x.1
 | f+1,i,x=>match x.2[i]? with
  | none=>x.1
  | some a=>Mn s f (i+1) (Ky s (HJ s a).name s.contracts x)
def lQ(s:E3)(k:Int):List Bool:=Mn s (s.tenants.length+2) 0 (Ay s.tenants.length false,[k])
def Ie(s:E3):Nat->List E4->Option (Int×Int)
 | _,[]=>none
 | k,_::r=>if ((lQ s k)[k]?).getD true=true then some (0,21) else Ie s (k+1) r
def UV(s:E3):Int×Int :=
 if I9 s.network≠0 then (0,I9 s.network) else if O5 s.fields≠0 then (0,O5 s.fields)
 else if 64<s.tenants.length\/100<s.contracts.length then (0,2)
 else match KM s 0 s.tenants with
  | some x=>x
  | none=>match Ke s 0 s.contracts with
   | some x=>x
   | none=>(Ie s 0 s.tenants).getD (0,0)
def Jw(s:E3):Bool:=Hw s&&(UV s).2==0
end Go.AI
namespace Go.AI
open Go.Proofs
set_option maxRecDepth 50000
theorem UK {H:FR} (l:List E5) (hl:l.length<=9223372036854775807) (g:FuncId) (fi ca:List AV) (p:E5->Bool)
  (h : ∀ x∈l,GJ AA g (fi.map AV.borrow++(.agg x.c::ca.map AV.borrow)) H (.bool (p x))) :
  GJ AA 86 [.sl none (GX l),.fn (.func g) fi ca] H (.int .i64 (H7 p l)):=by
 unfold GJ
 refine aC AXh rfl ?_
 simp only [f86,go_sem]
 refine Fd l (λr=>HL p (l.length - r.length) r) (λk=>[(0,.sl none (GX l)),(1,.fn (.func g) fi ca),(7,.int .i64 l.length),(8,.int .i64 k)]) hl rfl ?_ ?_
 ·intro k x xs hd hx hF h0 h1 hw
  have hk2:=Fo hd
  have e1:l.length - (xs.length+1)=k:=FQ
  have e2:l.length - xs.length=k+1:=FQ
  simp only [AD,e1,AP] at hF
  simp only [go_sem,h0,h1,H6 hx]
  repeat' (first|(refine aS (h x (AB hx)) ?_;simp only [go_sem])|(first|apply cS|apply gS)<;>intro hc<;>simp only [go_sem,hc,hw,e1,e2])
  ·rw [H7,hF,HL,iP hc]
  ·rw [HL,iN (by rw [hc];decide)]
 ·intro hF hlt
  simp only [go_sem,hlt,dF]
  rw [AP] at hF
  rw [H7,hF];rfl
theorem Xn {H:FR} (l:List E4) (hl:l.length<=9223372036854775807) (g:FuncId) (fi ca:List AV) (p:E4->Bool)
  (h : ∀ x∈l,GJ AA g (fi.map AV.borrow++(.agg x.c::ca.map AV.borrow)) H (.bool (p x))) :
  GJ AA 89 [.sl none (HW l),.fn (.func g) fi ca] H (.int .i64 (H7 p l)):=by
 unfold GJ
 refine aC AXV rfl ?_
 simp only [f89,go_sem]
 refine Fd l (λr=>HL p (l.length - r.length) r) (λk=>[(0,.sl none (HW l)),(1,.fn (.func g) fi ca),(7,.int .i64 l.length),(8,.int .i64 k)]) hl rfl ?_ ?_
 ·intro k x xs hd hx hF h0 h1 hw
  have hk2:=Fo hd
  have e1:l.length - (xs.length+1)=k:=FQ
  have e2:l.length - xs.length=k+1:=FQ
  simp only [AD,e1,AP] at hF
  simp only [go_sem,h0,h1,GV hx]
  repeat' (first|(refine aS (h x (AB hx)) ?_;simp only [go_sem])|(first|apply cS|apply gS)<;>intro hc<;>simp only [go_sem,hc,hw,e1,e2])
  ·rw [H7,hF,HL,iP hc]
  ·rw [HL,iN (by rw [hc];decide)]
 ·intro hF hlt
  simp only [go_sem,hlt,dF]
  rw [AP] at hF
  rw [H7,hF];rfl
theorem AGS(s:E3):A' AA 28 [.agg s.c] (.bool (Hw s)):=by
 refine A'.fit AHg.c λhf=>?_
 have hl1:=SN (R2 hf)
 have hl2:=P1 (R2 hf)
 refine pC AHg rfl ?_
 simp only [f28,go_sem]
 repeat' (first|(refine pK (AT4 _ _ _ _) ?_;simp only [go_sem])|(first|apply cS|apply gS)<;>intro hc<;>simp only [go_sem,hc])
 all_goals first
  | rfl
  | (simp only [Hw];rfl)
  | grind [Hw]
  | (simp only [Hw];grind)
  | (simp [Hw, *];done)
  | (simp_all [Hw];done)
  | skip
 all_goals
  refine Fd s.tenants (λr=>r.all Lu) (λk=>[(1,.ptr 0 0),(4,.int .i64 k)]) hl1 rfl ?_ ?_
  ·intro k y ys hd hx hF h0 h1 hw
   simp only [go_sem,h0,h1,GV hx]
   repeat' (first|(refine pK (AT2 _) ?_;simp only [go_sem])|(first|apply cS|apply gS)<;>intro hc<;>simp only [go_sem,hc,hw])
   all_goals first
    | rfl
    | (simp only [Hw,Al];rfl)
    | grind [Hw]
    | (simp only [Hw,Al,A6];grind)
    | (simp [Hw,Al,A6, *];done)
    | (simp_all [Hw,Al,A6];done)
    | skip
  ·intro hF hlt
   simp only [go_sem,hlt,dF]
   refine Fd s.contracts (λr=>r.all λx=>YF x.pred) (λk=>[(1,.ptr 0 0),(6,.int .i64 k)]) hl2 rfl ?_ ?_
   ·intro k y ys hd hx hF h0 h1 hw
    simp only [go_sem,h0,h1,H6 hx]
    repeat' (first|(refine pK (AC7 _) ?_;simp only [go_sem])|(first|apply cS|apply gS)<;>intro hc<;>simp only [go_sem,hc,hw])
    all_goals first
     | rfl
     | (simp only [Hw,Al];rfl)
     | grind [Hw]
     | (simp only [Hw,Al,A6];grind)
     | (simp [Hw,Al,A6, *];done)
     | (simp_all [Hw,Al,A6];done)
     | skip
   ·intro hF2 hlt2
    simp only [go_sem,hlt2,dF]
    repeat' (first|(first|apply cS|apply gS)<;>intro hc<;>simp only [go_sem,hc])
    all_goals first
     | rfl
     | (simp only [Hw];rfl)
     | grind [Hw]
     | (simp only [Hw,Al,A6];grind)
     | (simp [Hw,Al,A6, *];done)
     | (simp_all [Hw,Al,A6];done)
     | skip
def dZ(k:Int):AV:=.tup [.int .i64 (Qv k 0),.bool (decide (0<=k))]
theorem bU(s:E3)(nm:ByteArray)(hl:s.tenants.length<=1073741824):A' AA 107 [.agg s.c,.str nm] (dZ (GP s nm)):=by
 refine pC ARv rfl ?_
 simp only [f107,go_sem]
 refine Fd s.tenants (λr=>HL (λt:E4=>decide (t.name=nm)) (s.tenants.length - r.length) r) (λk=>[(1,.str nm),(2,.ptr 0 0),(6,.int .i64 k)]) FQ rfl ?_ ?_
 ·intro k y ys hd hx hF h0 h1 hw
  have hk2:=Fo hd
  have e1:s.tenants.length - (ys.length+1)=k:=FQ
  have e2:s.tenants.length - ys.length=k+1:=FQ
  simp only [AD,e1,AP] at hF
  simp only [go_sem,h0,h1,GV hx,FU]
  repeat' (first|(first|apply cS|apply gS)<;>intro hc<;>simp only [go_sem,hc,hw,e1,e2])
  ·have h2:GP s nm=(k:Int):=by rw [GP,H7,hF,HL,iP hc]
   rw [h2]
   have h3:Qv (k:Int) 0=k:=by unfold Qv;split<;>omega
   rw [dZ,h3,decide_eq_true h0]
  ·rw [HL,iN (by rw [hc];decide)]
 ·intro hF hlt
  simp only [go_sem,hlt,dF]
  rw [AP] at hF
  have h2:GP s nm = -1:=by rw [GP,H7,hF];rfl
  rw [h2];rfl
theorem rY(t:E4)(n:Int):A' AA 108 [.agg t.c,.int .i64 n] (.bool (fR t n)):=by
 refine pC ARs rfl ?_
 by_cases h:0<=n/\n<(t.ports.length:Int)
 ·obtain ⟨h0,h1⟩:=h
  obtain ⟨x,hx⟩ : ∃ x,t.ports[n.toNat]? =some x:=⟨_,AL FQ⟩
  have hg:=IG hx
  have he:O2 t n=x.edge:=by simp [O2,hx]
  simp only [f108,go_sem,h0,h1,hg]
  repeat' (first|(first|apply cS|apply gS)<;>intro hc<;>simp only [go_sem,hc,h0,h1,hg])
  all_goals (rw [fR,he];simp [h0,h1])
 ·simp only [f108,go_sem]
  repeat' (first|(first|apply cS|apply gS)<;>intro hc<;>simp only [go_sem,hc])
  all_goals first|(simp only [fR];grind)|skip
theorem Yz{s:E3}{k:Nat}{t:E4}(h:s.tenants[k]? =some t):HJ s (k:Int)=t:=by simp [HJ,h]
theorem ATx(s:E3)(k:Nat)(t:E4)(hk:s.tenants[k]? =some t)(hl:zT s.fields)(hs:FT s.c<=1073741824)(hb:FT t.c<=1048576)(hn:s.tenants.length<=1073741824):A' AA 56 [.agg s.c,.int .i64 k] (.int .i64 (RV s k t)) := by
  have hkl:k<s.tenants.length := (AC.1 hk).1
  have hw1:t.wires.length<=1073741824 := AK (Og (IX hb)) dc
  have hp1:t.ports.length<=1048576 := gY (N6 hb)
  have hk1 := GV hk
  have hk2:(k:Int)<(s.tenants.length:Int) := by omega
  have hk3:(0:Int)<=(k:Int) := by omega
  have hbw : ∀ x∈t.program,FT (HG t x.policy).c<=1073741824 := λx hx=>Zp (by
    have h1 := KV (HZ hb) hx
    have h2:FT x.c<=1048576 := by simpa only [AV.bulk] using h1
    exact Hr h2) (AK (Og (IX hb)) (Nat.le_refl _))
  have hpg:t.program.length<=1073741824 := AK (Ms (HZ hb)) dc
  have q1 := AUC s t hl hs (AK hb dc)
  have q2 := AFA t hw1 hpg hbw
  have htk:(s.tenants.take k).length=k := by rw [BD];omega
  refine pC AYM rfl ?_
  cases q3:(Jr s t !=0) with
  | true =>
    simp only [f56,go_sem,hk1,hk3]
    repeat' (first|((first|refine pK (q1) ?_|refine pK (q2) ?_);simp only [go_sem,q3])|(first|apply cS|apply gS)<;>intro hc<;>simp only [go_sem,hc,hk1,hk2,hk3,q3])
    rw [RV,iP (by simpa using q3)]
  | false =>
  cases q4:((GO t).2 !=0) with
  | true =>
    simp only [f56,go_sem,hk1,hk3]
    repeat' (first|((first|refine pK (q1) ?_|refine pK (q2) ?_);simp only [go_sem,q3,q4])|(first|apply cS|apply gS)<;>intro hc<;>simp only [go_sem,hc,hk1,hk2,hk3,q3,q4])
    rw [RV,iN (by simpa using q3),iP (by simpa using q4)]
  | false =>
  rcases Nat.eq_zero_or_pos k with hz|hz
  · have hgt:decide ((0:Int)<(k:Int))=false := decide_eq_false FQ
    have q5:ZD s k t=false := by unfold ZD;simp [hz]
    simp only [f56,go_sem,hk1,hk3]
    repeat' (first|((first|refine pK (q1) ?_|refine pK (q2) ?_);simp only [go_sem,q3,q4,hgt])|(first|apply cS|apply gS)<;>intro hc<;>simp only [go_sem,hc,hk1,hk2,hk3,q3,q4,hgt])
    refine Fd t.ports (λr=>r.any λp=>(s.tenants.take k).any λu=>decide (0<=p.edge)&&decide (0<=IOq u p.edge)) (λi=>[(1,.int .i64 k),(2,.ptr 0 0),(5,.ptr 1 0),(9,.int .i64 i)]) FQ rfl ?_ ?_
    · intro i y ys hd hy hF h0 h1 hw
      have hy2 := IG hy
      simp only [go_sem,h1]
      refine Fd (s.tenants.take k) (λr=>r.any λu=>decide (0<=y.edge)&&decide (0<=IOq u y.edge)) (λj=>[(1,.int .i64 k),(2,.ptr 0 0),(5,.ptr 1 0),(9,.int .i64 i),(10,.int .i64 j)]) FQ rfl ?_ ?_
      · intro j u us hd3 hu3 hF3 g0 g1 gw
        have g1':(j:Int)<(k:Int) := by omega
        have hu4:s.tenants[j]? =some u := by
          rw [Aj] at hu3
          split at hu3
          · exact hu3
          · cases hu3
        have hu5 := GV hu4
        simp only [go_sem,g1',hy2,h0]
        repeat' (first|(refine pK (jT u y.edge) ?_;simp only [go_sem])|(first|apply cS|apply gS)<;>intro hc<;>simp only [go_sem,hc,h0,hy2,g0,gw,hu5])
        all_goals first
          | (have e1:JQ s k t=true := by
               unfold JQ;rw [hF,As,hF3,As]
               simp_all
             simp only [decide_eq_true_eq] at *
             rw [RV,iN (by simpa using q3),iN (by simpa using q4),iN (by rw [q5];decide),iP e1])
          | (rw [As];simp_all;done)
          | skip
      · intro hF3 hlt
        have hlt2 : ¬ ((s.tenants.take k).length:Int)<(k:Int) := by omega
        simp only [go_sem,hlt2,dF,hw]
        have hF4:((s.tenants.take k).any λu=>decide (0<=y.edge)&&decide (0<=IOq u y.edge))=false := hF3
        rw [hF4];rfl
    · intro hF hlt
      simp only [go_sem,hlt,dF]
      have e1:JQ s k t=false := by unfold JQ;rw [hF];rfl
      rw [RV,iN (by simpa using q3),iN (by simpa using q4),iN (by rw [q5];decide),iN (by rw [e1];decide)]
  · obtain ⟨u,hu⟩ : ∃ u,s.tenants[k - 1]? =some u := ⟨_,AL FQ⟩
    have hgt:decide ((0:Int)<(k:Int))=true := decide_eq_true FQ
    have hw1:IntKind.i64.wrap ((k:Int) - 1)=((k - 1:Nat):Int) := by rw [OQ FQ FQ];omega
    have hw0:(0:Int)<=((k - 1:Nat):Int) := by omega
    have hu2 := GV hu
    have hu3:HJ s ((k:Int) - 1)=u := by
      have:((k:Int) - 1)=((k - 1:Nat):Int) := by omega
      rw [this];exact Yz hu
    cases q5:ZD s k t with
    | true =>
      have q6:(!Op.bytesLess u.name.toList t.name.toList)=true := by
        unfold ZD at q5;rw [hu3] at q5;simp only [AQ] at q5;exact q5.2
      simp only [f56,go_sem,hk1,hk3]
      repeat' (first|((first|refine pK (q1) ?_|refine pK (q2) ?_);simp only [go_sem,q3,q4,hgt,hw1,hw0,hu2,q6])|(first|apply cS|apply gS)<;>intro hc<;>simp only [go_sem,hc,hk1,hk2,hk3,q3,q4,hgt,hw1,hw0,hu2,q6])
      all_goals first|(rw [RV,iN (by simpa using q3),iN (by simpa using q4),iP q5])|skip
    | false =>
      have q6:(!Op.bytesLess u.name.toList t.name.toList)=false := by
        unfold ZD at q5;rw [hu3] at q5;simp only [Bool.and_eq_false_iff,decide_eq_false_iff_not] at q5
        exact q5.resolve_left FQ
      simp only [f56,go_sem,hk1,hk3]
      repeat' (first|((first|refine pK (q1) ?_|refine pK (q2) ?_);simp only [go_sem,q3,q4,hgt,hw1,hw0,hu2,q6])|(first|apply cS|apply gS)<;>intro hc<;>simp only [go_sem,hc,hk1,hk2,hk3,q3,q4,hgt,hw1,hw0,hu2,q6])
      refine Fd t.ports (λr=>r.any λp=>(s.tenants.take k).any λu=>decide (0<=p.edge)&&decide (0<=IOq u p.edge)) (λi=>[(1,.int .i64 k),(2,.ptr 0 0),(5,.ptr 1 0),(9,.int .i64 i)]) FQ rfl ?_ ?_
      · intro i y ys hd hy hF h0 h1 hw
        have hy2 := IG hy
        simp only [go_sem,h1]
        refine Fd (s.tenants.take k) (λr=>r.any λu=>decide (0<=y.edge)&&decide (0<=IOq u y.edge)) (λj=>[(1,.int .i64 k),(2,.ptr 0 0),(5,.ptr 1 0),(9,.int .i64 i),(10,.int .i64 j)]) FQ rfl ?_ ?_
        · intro j u us hd3 hu3 hF3 g0 g1 gw
          have g1':(j:Int)<(k:Int) := by omega
          have hu4:s.tenants[j]? =some u := by
            rw [Aj] at hu3
            split at hu3
            · exact hu3
            · cases hu3
          have hu5 := GV hu4
          simp only [go_sem,g1',hy2,h0]
          repeat' (first|(refine pK (jT u y.edge) ?_;simp only [go_sem])|(first|apply cS|apply gS)<;>intro hc<;>simp only [go_sem,hc,h0,hy2,g0,gw,hu5])
          all_goals first
            | (have e1:JQ s k t=true := by
                 unfold JQ;rw [hF,As,hF3,As]
                 simp_all
               simp only [decide_eq_true_eq] at *
               rw [RV,iN (by simpa using q3),iN (by simpa using q4),iN (by rw [q5];decide),iP e1])
            | (rw [As];simp_all;done)
            | skip
        · intro hF3 hlt
          have hlt2 : ¬ ((s.tenants.take k).length:Int)<(k:Int) := by omega
          simp only [go_sem,hlt2,dF,hw]
          have hF4:((s.tenants.take k).any λu=>decide (0<=y.edge)&&decide (0<=IOq u y.edge))=false := hF3
          rw [hF4];rfl
      · intro hF hlt
        simp only [go_sem,hlt,dF]
        have e1:JQ s k t=false := by unfold JQ;rw [hF];rfl
        rw [RV,iN (by simpa using q3),iN (by simpa using q4),iN (by rw [q5];decide),iN (by rw [e1];decide)]
theorem Kv{s:E3}{nm:ByteArray}(h:0<=GP s nm): ∃ t,s.tenants[(GP s nm).toNat]? =some t/\t.name=nm/\HJ s (GP s nm)=t/\GP s nm<(s.tenants.length:Int):=by
 rcases nZ (λt:E4=>decide (t.name=nm)) s.tenants with ⟨h1,_⟩|⟨j,x,h1,h2,h3,h4,_⟩
 ·unfold GP at h;omega
 ·have h5:GP s nm=(j:Int):=h4
  rw [h5]
  exact ⟨x,by simpa using h2,by simpa using h3,by simp [HJ,h2],FQ⟩
theorem ZR{k:Int}(h:0<=k):Qv k 0=k:=by unfold Qv;split<;>omega
theorem AT6(s:E3)(c:E5)(hl:zT s.fields)(hb:FT c.c<=1073741824)(hn:s.tenants.length<=1073741824):A' AA 57 [.agg s.c,.agg c.c] (.int .i64 (TJ s c)):=by
 have q1:=bU s c.src hn
 have q2:=bU s c.dst hn
 simp only [dZ] at q1 q2
 refine pC AYJ rfl ?_
 by_cases ha:0<=GP s c.src
 ·by_cases hd:0<=GP s c.dst
  ·obtain ⟨a,ha1,_,ha2,ha3⟩:=Kv ha
   obtain ⟨b,hb1,_,hb2,hb3⟩:=Kv hd
   have ha4:=GV ha1
   have hb4:=GV hb1
   rw [ZR ha,decide_eq_true ha] at q1
   rw [ZR hd,decide_eq_true hd] at q2
   have q3:=rY a c.fromPort
   have q4:=rY b c.toPort
   have q5:=ADB s.fields c.pred hl (Tf hb)
   have e0 : ¬ (GP s c.src<0\/GP s c.dst<0):=FQ
   rw [TJ,iN e0,ha2,hb2]
   by_cases hv:0<=c.via/\c.via<(s.network.nodes.length:Int)
   ·obtain ⟨nd,hnd⟩ : ∃ nd,s.network.nodes[c.via.toNat]? =some nd:=⟨_,AL FQ⟩
    have hnd2:=Pc hnd
    have hbx:ADJ s c.via=nd.box:=by simp [ADJ,hnd]
    have hv0:=hv.1
    simp only [f57,go_sem]
    repeat' (first|((first|refine pK (q1) ?_|refine pK (q2) ?_|refine pK (q3) ?_|refine pK (q4) ?_|refine pK (q5) ?_);simp only [go_sem,ha,hd,ha4,hb4])|(first|apply cS|apply gS)<;>intro hc<;>simp only [go_sem,hc,hnd2,hv0])
    all_goals first|(simp only [AIP,hbx];grind)|skip
   ·simp only [f57,go_sem]
    repeat' (first|((first|refine pK (q1) ?_|refine pK (q2) ?_|refine pK (q3) ?_|refine pK (q4) ?_|refine pK (q5) ?_);simp only [go_sem,ha,hd,ha4,hb4])|(first|apply cS|apply gS)<;>intro hc<;>simp only [go_sem,hc])
    all_goals first|(simp only [AIP];grind)|skip
  ·rw [decide_eq_false hd] at q2
   simp only [f57,go_sem]
   repeat' (first|((first|refine pK (q1) ?_|refine pK (q2) ?_);simp only [go_sem])|(first|apply cS|apply gS)<;>intro hc<;>simp only [go_sem,hc])
   all_goals first|(rw [TJ,iP FQ])|skip
 ·rw [decide_eq_false ha] at q1
  simp only [f57,go_sem]
  repeat' (first|((first|refine pK (q1) ?_|refine pK (q2) ?_);simp only [go_sem])|(first|apply cS|apply gS)<;>intro hc<;>simp only [go_sem,hc])
  all_goals first|(rw [TJ,iP FQ])|skip
def Nt(l:List Bool):List AV:=l.map .bool
theorem Wz(l:List Bool):(Nt l).length=l.length:=by simp [Nt]
theorem jh{l:List Bool}{i:Nat}{b:Bool}(h:l[i]? =some b):(Nt l)[i]? =some (.bool b):=by simp [Nt,h]
theorem ADf{l:List Bool}{i:Nat}(h:i<l.length)(b:Bool):splice (Nt l) i [.bool b]=Nt (l.set i b):=by
 apply List.ext_getElem?
 intro j
 have hl:=Wz l
 rw [JU (by simp;omega)]
 simp only [Nt,List.getElem?_map,Au,List.length_singleton]
 by_cases hj:i<=j/\j<i+1
 ·have:j=i:=FQ
  subst this
  rw [iP hj,iP rfl,iP h];simp
 ·rw [iN hj,iN FQ]
@[go_sem] theorem AV0(l:List Bool):FV (Nt l)=true:=by
 induction l with
 | nil=>rfl
 | cons b l ih=>exact ih
theorem pR(l:List Bool):Hy false 1 l.length ((Nt l).map borrow1)=Nt l:=by
 induction l with
 | nil=>rfl
 | cons b l ih =>
  show AV.bool b::Hy false 1 l.length ((Nt l).map borrow1)=AV.bool b::Nt l
  rw [ih]
theorem ADg(n:Nat):(Ay n [AV.bool false]).flatten=Nt (Ay n false):=by
 induction n with
 | zero=>rfl
 | succ n ih=>rw [CW,List.flatten_cons,ih];rfl
def OJ(l:List Bool):Nat:=(l.filter id).length
theorem U9(l:List Bool):OJ l<=l.length:=List.length_filter_le _ _
theorem jG{l:List Bool}{i:Nat}(h:l[i]? =some false):OJ (l.set i true)=OJ l+1:=by
 induction l generalizing i with
 | nil=>simp at h
 | cons b l ih =>
  cases i with
  | zero=>simp at h;subst h;simp [OJ]
  | succ i =>
   have:=ih (i:=i) (by simpa using h)
   simp only [List.set_cons_succ,OJ,DT] at this ⊢
   split<;>simp_all
theorem jH(n:Nat):OJ (Ay n false)=0:=by
 induction n with
 | zero=>rfl
 | succ n ih=>rw [CW];exact ih
def rOk(s:E3)(x:List Bool×List Int):Prop:=x.1.length=s.tenants.length/\x.2.length=1+OJ x.1 /\ ∀ a∈x.2,0<=a/\a<(s.tenants.length:Int)
theorem yK(s:E3)(k:Nat)(hk:k<s.tenants.length)(hn:s.tenants.length<=1048576)(hc:s.contracts.length<=1048576)(hf : ∀ c∈s.contracts,0<=GP s c.dst):A' AA 58 [.agg s.c,.int .i64 k] (.sl none (Nt (lQ s k))):=by
 refine pB AYF rfl ?_
 have hz:Fi AA 4=some (.bool false):=kr
 have n0:(s.tenants.length:Int)*((1:Nat):Int)<=140737488355328:=FQ
 simp only [f58,go_sem]
 refine ⟨FQ,n0,FQ, ?_⟩
 refine Km (σ:=Nat×List Bool×List Int) (λx=>[(2,.ptr 0 0),(5,.msl 1 0 s.tenants.length 1),(6,.sl (some 1) (GC x.2.2)),(7,.int .i64 x.1)]) (λx=>[some s.c,some (Nt x.2.1)])
  (λx=>x.1<=x.2.2.length/\rOk s x.2/\lQ s k=Mn s (s.tenants.length+2 - x.1) x.1 x.2) (λx=>s.tenants.length+2 - x.1) (0,Ay s.tenants.length false,[(k:Int)])
  ⟨Nat.zero_le _,⟨sm,by rw [jH];rfl,λa ha=>by rcases Ab.1 ha with rfl;omega⟩,rfl⟩ rfl (by rw [ADg]) ?_
 rintro ⟨i,seen,q⟩ ⟨hi,hR,hE⟩
 have hq:=hR.2.1
 have hcn:=U9 seen
 have hsl:=hR.1
 simp only at hi hq hcn hsl
 by_cases hlt:i<q.length
 ·obtain ⟨a,ha⟩ : ∃ a,q[i]? =some a:=⟨_,AL hlt⟩
  obtain ⟨ha0,ha1⟩:=hR.2.2 a (AB ha)
  obtain ⟨u,hu⟩ : ∃ u,s.tenants[a.toNat]? =some u:=⟨_,AL FQ⟩
  have hu2:=GV hu
  have hu3:HJ s a=u:=by simp [HJ,hu]
  have hlt2:(i:Int)<(q.length:Int):=FQ
  have hw:=Mj (k:=i) FQ
  have hi0:(0:Int)<=(i:Int):=FQ
  simp only [go_sem,hlt2]
  refine Fq s.contracts (λx r=>Ky s u.name r x) (λ_ x=>rOk s x/\x.2[i]? =some a) (λj x=>[(2,.ptr 0 0),(5,.msl 1 0 s.tenants.length 1),(6,.sl (some 1) (GC x.2)),(7,.int .i64 i),(8,.int .i64 j)]) (λj x=>[some s.c,some (Nt x.1)]) (seen,q) FQ ⟨hR,ha⟩ rfl rfl ?_ ?_
  ·rintro j ⟨sn,p⟩ c cs hd hcx ⟨hRx,hax⟩ hF g0 g1 gw
   have hcm:=AB hcx
   have hc2:=H6 hcx
   have ht0:=hf c hcm
   obtain ⟨v,hv1,_,_,hv4⟩:=Kv ht0
   obtain ⟨m,hm⟩ : ∃ m:Nat,GP s c.dst=(m:Int):=⟨(GP s c.dst).toNat,FQ⟩
   have q1:=bU s c.dst FQ
   rw [dZ,ZR ht0,decide_eq_true ht0,hm] at q1
   have hm1:m<sn.length:=by rw [hRx.1];omega
   have hm2:(m:Int)<(s.tenants.length:Int):=FQ
   have hm0:(0:Int)<=(m:Int):=FQ
   obtain ⟨b,hb⟩ : ∃ b,sn[m]? =some b:=⟨_,AL hm1⟩
   have hb2:=jh hb
   have hp2:=Gk hax
   have hst:=ADf hm1 true
   have hpl:(GC p).length=p.length:=HK p
   have hrl:=Wz sn
   have hq2:=hRx.2.1
   have hcn2:=U9 sn
   simp only at hq2 hcn2
   have hsn:=hRx.1
   simp only at hsn
   have hm3:(m+1<=sn.length)=True:=eq_true FQ
   simp only [go_sem,g0,g1,hc2]
   repeat' (first|(refine pK (q1) ?_;simp only [go_sem,g0,hc2,hi0,hp2,ha0,hu2,FU])|(first|apply cS|apply gS)<;>intro hc<;>simp only [go_sem,hc,hm0,hm2,hb2,hst,hrl,gw,hm3])
   ·have hb3:b=false:=by simpa using hc
    subst hb3
    rename_i hc1
    refine ⟨FQ,FQ,(sn.set m true,p++[(m:Int)]), ?_,⟨⟨by simpa using hsn,by rw [jG hb];simp;omega, ?_⟩, ?_⟩, ?_⟩
    ·rw [Ky,iP ⟨by simpa using hc1,by rw [hm];simp [hb]⟩,hm,ZR hm0];simp
    ·intro z hz
     rcases Ar.1 hz with hz|hz
     ·exact hRx.2.2 z hz
     ·rcases Ab.1 hz with rfl;exact ⟨hm0,hm2⟩
    ·rw [AT (AC.1 hax).1];exact hax
    ·exact ⟨rfl,rfl⟩
   ·have hb3:b=true:=by simpa using hc
    subst hb3
    exact ⟨(sn,p),by rw [Ky,iN (by rw [hm];simp [hb])],⟨hRx,hax⟩,rfl,rfl⟩
   ·rename_i hc1
    exact ⟨(sn,p),by rw [Ky,iN (λh=>by simp [h.1] at hc)],⟨hRx,hax⟩,rfl,rfl⟩
  ·rintro ⟨sn,p⟩ ⟨hRx,hax⟩ hF
   simp only [go_sem,AX,dF,hw]
   have hF':Ky s u.name s.contracts (seen,q)=(sn,p):=hF
   have e2:s.tenants.length+2 - i=(s.tenants.length+2 - (i+1))+1:=FQ
   have hpi:=(AC.1 hax).1
   simp only at hpi
   refine ⟨(i+1,sn,p),⟨by simp only;omega,hRx, ?_⟩,by simp only;omega,rfl,rfl⟩
   rw [hE]
   simp only
   rw [e2,Mn]
   simp only [ha]
   rw [hu3,hF']
 ·have hlt2 : ¬ (i:Int)<(q.length:Int):=FQ
  have hfr:(s.tenants.length<=(Nt seen).length/\(False\/True))=True:=eq_true ⟨by rw [Wz];omega,.inr trivial⟩
  have hch:Hy false 1 s.tenants.length ((Nt seen).map borrow1)=Nt seen:=by rw [<- hsl];exact pR seen
  have e2:s.tenants.length+2 - i=(s.tenants.length+1 - i)+1:=FQ
  have hE2:lQ s k=seen:=by
   rw [hE]
   simp only
   rw [e2,Mn]
   simp only [List.getElem?_eq_none (Nat.le_of_not_lt hlt)]
  rw [hE2]
  simp only [go_sem,hlt2,dF,hfr,hch]
theorem eU(s:E3)(nm:ByteArray): ∀ (l:List E5) (x:List Bool×List Int),(Ky s nm l x).1.length=x.1.length
 | [],x=>rfl
 | c::r,x=>by
  rw [Ky,eU s nm r]
  split<;>simp
theorem Y7(s:E3): ∀ (f i:Nat) (x:List Bool×List Int),(Mn s f i x).length=x.1.length
 | 0,_,_=>rfl
 | f+1,i,x=>by
  rw [Mn]
  split
  ·rfl
  ·rw [Y7 s f,eU]
theorem Ra(s:E3)(k:Int):(lQ s k).length=s.tenants.length:=by rw [lQ,Y7];simp
theorem O4{s:E3}: ∀ {l:List E5} {i:Nat},Ke s i l=none -> ∀ c∈l,TJ s c=0
 | [],_,_,c,hc=>by cases hc
 | x::r,i,h,c,hc=>by
  rw [Ke] at h
  split at h
  ·cases h
  ·rename_i hx
   rcases AW.1 hc with rfl|hc
   ·simpa using hx
   ·exact O4 h c hc
theorem Tl{s:E3}: ∀ {l:List E4} {i:Nat},KM s i l=none -> ∀ (j:Nat) (t:E4),l[j]? =some t->RV s (i+j) t=0
 | [],_,_,j,t,hc=>by simp at hc
 | x::r,i,h,j,t,hc=>by
  rw [KM] at h
  split at h
  ·cases h
  ·rename_i hx
   cases j with
   | zero=>simp at hc;subst hc;simpa using hx
   | succ j =>
    have:=Tl h j t (by simpa using hc)
    rwa [show i+1+j=i+(j+1) by omega] at this
theorem Lz{s:E3}{c:E5}(h:TJ s c=0):0<=GP s c.src/\0<=GP s c.dst:=by
 unfold TJ at h
 split at h
 ·cases h
 ·omega
theorem AUB(s:E3)(hs:FT s.c<=1048576):A' AA 29 [.agg s.c] (.tup [.int .i64 (UV s).1,.int .i64 (UV s).2]):=by
 have hnt:s.tenants.length<=1048576:=Qk (Hj hs)
 have hnc:s.contracts.length<=1048576:=LR (Hm hs)
 have hs2:FT s.c<=1073741824:=AK hs dc
 have q1:=AGV s.network (NG hs2)
 have q2:=AcV s.fields (LG hs2)
 refine pC AZI rfl ?_
 by_cases e1:I9 s.network=0
 ·by_cases e2:O5 s.fields=0
  ·have hl:zT s.fields:=λf hf=>Int.le_trans (Zi e2 f hf) dc
   have e3:(I9 s.network !=0)=false:=by simp [e1]
   have e4:(O5 s.fields !=0)=false:=by simp [e2]
   by_cases e5:64<s.tenants.length\/100<s.contracts.length
   ·have h0:UV s=(0,2):=by unfold UV;rw [iN (by simp [e1]),iN (by simp [e2]),iP e5]
    rw [h0]
    simp only [f29,go_sem]
    repeat' (first|((first|refine pK (q1) ?_|refine pK (q2) ?_);simp only [go_sem,e3,e4])|(first|apply cS|apply gS)<;>intro hc<;>simp only [go_sem,hc])
    all_goals first|rfl|(simp only [decide_eq_false_iff_not] at *;omega)|skip
   ·have h0:UV s=(match KM s 0 s.tenants with
      | some x=>x
      | none=>match Ke s 0 s.contracts with
       | some x=>x
       | none=>(Ie s 0 s.tenants).getD (0,0)):=by unfold UV;rw [iN (by simp [e1]),iN (by simp [e2]),iN e5]<;>rfl
    have g1 : ¬ (64:Int)<(s.tenants.length:Int):=FQ
    have g2 : ¬ (100:Int)<(s.contracts.length:Int):=FQ
    simp only [f29,go_sem]
    repeat' (first|((first|refine pK (q1) ?_|refine pK (q2) ?_);simp only [go_sem,e3,e4,g1,g2,dF])|(first|apply cS|apply gS)<;>intro hc<;>simp only [go_sem,hc,e3,e4,g1,g2,dF])
    refine Fd s.tenants (λr=>KM s (s.tenants.length - r.length) r) (λk=>[(1,.ptr 0 0),(5,.int .i64 k)]) FQ rfl ?_ ?_
    ·intro k y ys hd hx hF k0 k1 hw
     have hk2:=Fo hd
     have d1:s.tenants.length - (ys.length+1)=k:=FQ
     have d2:s.tenants.length - ys.length=k+1:=FQ
     simp only [AD,d1,AP] at hF ⊢
     have hby:FT y.c<=1048576:=by have:=Ql (Hj hs) (AB hx);simpa only [AV.bulk] using this
     simp only [go_sem,k1]
     repeat' (first|(refine pK (ATx s k y hx hl hs2 hby FQ) ?_;simp only [go_sem])|(first|apply cS|apply gS)<;>intro hc<;>simp only [go_sem,hc,hw,d1,d2])
     ·have h1:KM s 0 s.tenants=some ((k:Int),RV s k y):=by rw [hF,KM,iP (by simpa using hc)]
      rw [h0,h1]
     ·rw [KM,iN (by simpa using hc)]
    ·intro hF hlt
     have hT:KM s 0 s.tenants=none:=by rw [AP] at hF;rw [hF];rfl
     simp only [go_sem,hlt,dF]
     refine Fd s.contracts (λr=>Ke s (s.contracts.length - r.length) r) (λk=>[(1,.ptr 0 0),(6,.int .i64 k)]) FQ rfl ?_ ?_
     ·intro k y ys hd hx hF2 k0 k1 hw
      have hk2:=Fo hd
      have d1:s.contracts.length - (ys.length+1)=k:=FQ
      have d2:s.contracts.length - ys.length=k+1:=FQ
      simp only [AD,d1,AP] at hF2 ⊢
      have hby:FT y.c<=1073741824:=by
       have h5:=az (Hm hs) (AB hx)
       have h6:FT y.c<=1048576:=by simpa only [AV.bulk] using h5
       exact AK h6 dc
      simp only [go_sem,k0,k1,H6 hx]
      repeat' (first|(refine pK (AT6 s y hl hby FQ) ?_;simp only [go_sem])|(first|apply cS|apply gS)<;>intro hc<;>simp only [go_sem,hc,hw,d1,d2])
      ·have h1:Ke s 0 s.contracts=some ((k:Int),TJ s y):=by rw [hF2,Ke,iP (by simpa using hc)]
       rw [h0,hT,h1]
      ·rw [Ke,iN (by simpa using hc)]
     ·intro hF2 hlt2
      have hC:Ke s 0 s.contracts=none:=by rw [AP] at hF2;rw [hF2];rfl
      have hdst : ∀ c∈s.contracts,0<=GP s c.dst:=λc hc=>(Lz (O4 hC c hc)).2
      simp only [go_sem,hlt2,dF]
      refine Fd s.tenants (λr=>Ie s (s.tenants.length - r.length) r) (λk=>[(1,.ptr 0 0),(7,.int .i64 k)]) FQ rfl ?_ ?_
      ·intro k y ys hd hx hF3 k0 k1 hw
       have hk2:=Fo hd
       have d1:s.tenants.length - (ys.length+1)=k:=FQ
       have d2:s.tenants.length - ys.length=k+1:=FQ
       simp only [AD,d1,AP] at hF3 ⊢
       have q3:=yK s k FQ hnt hnc hdst
       have hrl:(lQ s k).length=s.tenants.length:=Ra s k
       obtain ⟨b,hb⟩ : ∃ b,(lQ s k)[k]? =some b:=⟨_,AL FQ⟩
       have hb2:=jh hb
       simp only [go_sem,k1]
       repeat' (first|(refine pK (q3) ?_;simp only [go_sem,k0,hb2])|(first|apply cS|apply gS)<;>intro hc<;>simp only [go_sem,hc,hw,d1,d2])
       ·have h1:Ie s 0 s.tenants=some (0,21):=by rw [hF3,Ie,iP (by rw [hb];simpa using hc)]
        rw [h0,hT,hC,h1];rfl
       ·rw [Ie,iN (by rw [hb];simpa using hc)]
      ·intro hF3 hlt3
       have hL:Ie s 0 s.tenants=none:=by rw [AP] at hF3;rw [hF3];rfl
       simp only [go_sem,hlt3,dF]
       rw [h0,hT,hC,hL];rfl
  ·have e3:(I9 s.network !=0)=false:=by simp [e1]
   have e4:(O5 s.fields !=0)=true:=by simp [e2]
   have h0:UV s=(0,O5 s.fields):=by unfold UV;rw [iN (by simp [e1]),iP e2]
   rw [h0]
   simp only [f29,go_sem]
   repeat' (first|((first|refine pK (q1) ?_|refine pK (q2) ?_);simp only [go_sem,e3,e4])|(first|apply cS|apply gS)<;>intro hc<;>simp only [go_sem,hc,e3,e4])
 ·have e3:(I9 s.network !=0)=true:=by simp [e1]
  have h0:UV s=(0,I9 s.network):=by unfold UV;rw [iP e1]
  rw [h0]
  simp only [f29,go_sem]
  repeat' (first|((first|refine pK (q1) ?_|refine pK (q2) ?_);simp only [go_sem,e3])|(first|apply cS|apply gS)<;>intro hc<;>simp only [go_sem,hc,e3])
theorem yJ(s:E3)(hs:FT s.c<=1048576):A' AA 11 [.agg s.c] (.bool (Jw s)):=by
 refine pC AZh rfl ?_
 simp only [f11,go_sem]
 repeat' (first|((first|refine pK (AGS s) ?_|refine pK (AUB s hs) ?_);simp only [go_sem])|(first|apply cS|apply gS)<;>intro hc<;>simp only [go_sem,hc])
 all_goals first
  | rfl
  | (simp only [Jw];rfl)
  | grind [Jw]
  | (simp only [Jw];grind)
  | (simp [Jw, *];done)
  | (simp_all [Jw];done)
  | skip
theorem AAw(l:List Fld)(hl:I0 l)(hln:l.length<=9223372036854775807)(x:Pred)(hx:IM l x)(t:Int)(h:Head)(hr:FX h=true):A' AA 88 [.sl none (GN l),.agg x.c,.agg h.c,.int .i64 t] (.bool (hP l t x h)):=by
 have c1:FZ AA 145 [.sl none (GN l),.int .i64 t] [some x.c,some h.c] λv H'=>v = .ptr 4 0/\H'=[some x.c,some h.c]++[some [.sl none (GN l)],some [.int .i64 t],some (Z0 2),some [.ptr 4 0]]:=AWS l t [some x.c,some h.c]
 have hW:iA l t 3 5 2 4 ([some x.c,some h.c]++[some [.sl none (GN l)],some [.int .i64 t],some (Z0 2),some [.ptr 4 0]]):=⟨rfl,rfl,⟨none,rfl⟩,rfl⟩
 have c2:PK AA 212 [.agg x.c,.agg h.c,.ptr 3 0,.ptr 5 0,.ptr 2 0] ([some x.c,some h.c]++[some [.sl none (GN l)],some [.int .i64 t],some (Z0 2),some [.ptr 4 0]]) (.bool (hP l t x h)):=λH2 hv=>e8 l hl hln t 3 5 2 4 x hx h hr H2 (hW.view hv)
 have ho : ∀ ops,h88.ord 1 ops=(me [6,7] ops.size).filterMap λi=>ops[i]?:=λops=>rfl
 have hI:me [6,7] 10=[6,7,0,1,2,3,4,5,8,9]:=dc
 simp only [Z0] at c1 c2
 refine pB AXa rfl ?_
 simp only [f88,go_sem]
 rw [PE _ _ _ (by simp only [go_sem]) rfl,ho]
 simp only [List.size_toArray,AD,AH,Nat.reduceAdd,hI,List.filterMap_cons,List.getElem?_toArray,List.getElem?_cons_succ,A7,List.filterMap_nil]
 simp only [go_sem]
 refine ⟨_,_,c1, ?_⟩
 simp only [go_sem]
 repeat' (first|(refine rK (c2) ?_;simp only [go_sem])|(first|apply cS|apply gS)<;>intro hc<;>simp only [go_sem,hc])
 all_goals first|rfl|skip
def VN(s:E3)(nm:ByteArray)(h:Head)(t:Int)(c:E5):Bool:=decide (c.src=nm)&&(c.fromPort==h.h0&&hP s.fields t c.pred h)
theorem AA4 {H:FR} (s:E3) (hl:I0 s.fields) (hln:s.fields.length<=9223372036854775807) (k:Nat) (u:E4) (hu:s.tenants[k]? =some u) (h:Head) (hr:FX h=true) (t:Int) (c:E5) (hx:IM s.fields c.pred)
  (os ok oh ot:Nat) (h1:H[os]? =some (some s.c)) (h2:H[ok]? =some (some [.int .i64 k])) (h3:H[oh]? =some (some h.c)) (h4:H[ot]? =some (some [.int .i64 t])) :
  GJ AA 87 [.agg c.c,.ptr os 0,.ptr ok 0,.ptr oh 0,.ptr ot 0] H (.bool (VN s u.name h t c)):=by
 refine FZ.drop rfl ?_
 have g1:=FY h1
 have g2:=FY h2
 have g3:=FY h3
 have g4:=FY h4
 have q0:=q_0 H
 have hu2:=GV hu
 have hk0:(0:Int)<=(k:Int):=FQ
 refine aC AXe rfl ?_
 simp only [f87,go_sem,g1,g2,q0,hu2,hk0,FU]
 repeat' (first|(refine pK (AAw s.fields hl hln c.pred hx t h hr) ?_;simp only [go_sem])|(first|apply cS|apply gS)<;>intro hc<;>simp only [go_sem,hc,g1,g3,g4,q0])
 all_goals first|(simp only [VN];grind)|skip
theorem AFQ(s:E3)(hl:I0 s.fields)(hln:s.fields.length<=9223372036854775807)(hcl:s.contracts.length<=9223372036854775807)(k:Nat)(u:E4)(hu:s.tenants[k]? =some u)(h:Head)(hr:FX h=true)(t:Int)(hx : ∀ c∈s.contracts,IM s.fields c.pred):
  A' AA 45 [.agg s.c,.int .i64 k,.agg h.c,.int .i64 t] (.int .i64 (H7 (VN s u.name h t) s.contracts)):=by
 have c1:=UK (H:=[some s.c,some [.int .i64 k],some h.c,some [.int .i64 t]]) s.contracts hcl 87 [] [.ptr 0 0,.ptr 1 0,.ptr 2 0,.ptr 3 0] (VN s u.name h t)
  (λc hc=>AA4 s hl hln k u hu h hr t c (hx c hc) 0 1 2 3 rfl rfl rfl rfl)
 refine pC AYs rfl ?_
 simp only [f45,go_sem]
 repeat' (first|(refine aS (c1) ?_;simp only [go_sem])|(first|apply cS|apply gS)<;>intro hc<;>simp only [go_sem,hc])
 all_goals first|rfl|skip
theorem xt{l:List Fld}{x:Pred}(h:UU l x=0):IM l x:=by
 unfold UU at h
 split at h
 ·rename_i h1
  refine ⟨?_,(Pk l _).1 h⟩
  unfold ckP rI at h1
  split at h1
  ·split at h1
   ·assumption
   ·cases h1
  ·rename_i h2;exact absurd h1 h2
 ·rename_i h1;exact absurd h h1
structure R19 (s:E3):Prop where
 net:I9 s.network=0
 fld:I0 s.fields
 fld0:O5 s.fields=0
 ten : ∀ (k:Nat) (t:E4),s.tenants[k]? =some t->RV s k t=0
 con : ∀ c∈s.contracts,TJ s c=0
 loop:Ie s 0 s.tenants=none
theorem Y4{s:E3}(h:Jw s=true):R19 s:=by
 unfold Jw at h
 simp only [AQ,beq_iff_eq] at h
 obtain ⟨_,h⟩:=h
 have l1 : ∀ {i:Nat} {r:List E4} {x:Int×Int},KM s i r=some x->x.2≠0:=by
  intro i r
  induction r generalizing i with
  | nil=>intro x hx;cases hx
  | cons y r ih =>
   intro x hx
   rw [KM] at hx
   split at hx
   ·rename_i hne;cases hx;exact hne
   ·exact ih hx
 have l2 : ∀ {i:Nat} {r:List E5} {x:Int×Int},Ke s i r=some x->x.2≠0:=by
  intro i r
  induction r generalizing i with
  | nil=>intro x hx;cases hx
  | cons y r ih =>
   intro x hx
   rw [Ke] at hx
   split at hx
   ·rename_i hne;cases hx;exact hne
   ·exact ih hx
 have l3 : ∀ {i:Nat} {r:List E4} {x:Int×Int},Ie s i r=some x->x.2≠0:=by
  intro i r
  induction r generalizing i with
  | nil=>intro x hx;cases hx
  | cons y r ih =>
   intro x hx
   rw [Ie] at hx
   split at hx
   ·cases hx;decide
   ·exact ih hx
 unfold UV at h
 split at h
 ·rename_i hne;exact absurd h hne
 rename_i h1
 split at h
 ·rename_i hne;exact absurd h hne
 rename_i h2
 split at h
 ·cases h
 have hF:O5 s.fields=0:=by simpa using h2
 cases hT:KM s 0 s.tenants with
 | some x=>rw [hT] at h;exact absurd h (l1 hT)
 | none =>
  rw [hT] at h
  cases hC:Ke s 0 s.contracts with
  | some x=>rw [hC] at h;exact absurd h (l2 hC)
  | none =>
   rw [hC] at h
   cases hL:Ie s 0 s.tenants with
   | some x=>rw [hL] at h;exact absurd h (l3 hL)
   | none =>
    exact ⟨by simpa using h1,ATv hF,hF,λk t ht=>by have:=Tl hT k t ht;rwa [AY] at this,O4 hC,hL⟩
theorem R19.pred{s:E3}(h:R19 s){c:E5}(hc:c∈s.contracts):IM s.fields c.pred:=by
 have h1:=h.con c hc
 unfold TJ at h1
 split at h1
 ·cases h1
 split at h1
 ·cases h1
 split at h1
 ·rename_i h2;exact absurd h1 h2
 rename_i h2
 exact xt (by simpa using h2)
theorem s6{H:FR}(t:E4)(nm:ByteArray)(o:Nat)(ho:H[o]? =some (some [.str nm])):GJ AA 90 [.agg t.c,.ptr o 0] H (.bool (decide (t.name=nm))):=by
 refine FZ.drop rfl ?_
 refine aC AXS rfl ?_
 have ho' : ∀ z,(H++z)[o]? =some (some [.str nm]):=λz=>by
  have:=(AC.1 ho).1
  rw [AT this];exact ho
 simp only [f90,go_sem,ho',FU]
theorem fC(s:E3)(nm:ByteArray)(hl:s.tenants.length<=1073741824):A' AA 47 [.agg s.c,.str nm] (dZ (GP s nm)):=by
 have c1:=Xn (H:=[some s.c,some [.str nm]]) s.tenants FQ 90 [] [.ptr 1 0] (λt=>decide (t.name=nm)) (λt _=>s6 t nm 1 rfl)
 refine pC AYm rfl ?_
 simp only [f47,go_sem]
 repeat' (first|(refine aS (c1) ?_;simp only [go_sem])|(first|apply cS|apply gS)<;>intro hc<;>simp only [go_sem,hc])
 all_goals first|rfl|skip
def LI(x:List Bool)(j:Nat):Prop:=x[j]? =some true
theorem AFa{x:List Bool}{m j:Nat}(h:LI x j):LI (x.set m true) j:=by
 unfold LI at *
 rw [Au]
 split
 ·rename_i he;subst he;rw [iP (AC.1 h).1]
 ·exact h
theorem Vu{x:List Bool}{m j:Nat}(h:LI (x.set m true) j):j=m\/LI x j:=by
 unfold LI at *
 rw [Au] at h
 split at h
 ·rename_i he;exact .inl he.symm
 ·exact .inr h
section
variable {s:E3} {nm:ByteArray}
theorem Sp : ∀ {l:List E5} {x:List Bool×List Int} {j:Nat},LI x.1 j->LI (Ky s nm l x).1 j
 | [],_,_,h=>h
 | c::r,x,j,h=>by
  rw [Ky]
  refine Sp ?_
  split
  ·exact AFa h
  ·exact h
theorem eV : ∀ {l:List E5} {x:List Bool×List Int} {c:E5},c∈l->c.src=nm->(GP s c.dst).toNat<x.1.length->LI (Ky s nm l x).1 (GP s c.dst).toNat
 | d::r,x,c,hc,hs,hl=>by
  rw [Ky]
  rcases AW.1 hc with rfl|hc
  ·refine Sp ?_
   split
   ·show (x.1.set _ true)[_]? =some true
    rw [Au,iP rfl,iP hl]
   ·rename_i hn
    have:(x.1[(GP s c.dst).toNat]?).getD true≠false:=λh=>hn ⟨hs,h⟩
    unfold LI
    rw [AL hl] at this ⊢
    cases hx:x.1[(GP s c.dst).toNat]<;>simp_all
  ·refine eV hc hs ?_
   split<;>simpa using hl
theorem VZ : ∀ {l:List E5} {x:List Bool×List Int},(∀ j,LI x.1 j->(j:Int)∈x.2) -> ∀ j,LI (Ky s nm l x).1 j->(j:Int)∈(Ky s nm l x).2
 | [],_,h=>h
 | c::r,x,h=>by
  rw [Ky]
  refine VZ ?_
  split
  ·intro j hj
   rcases Vu hj with rfl|hj
   ·refine List.mem_append_right _ (Ab.2 ?_)
    unfold Qv;split<;>omega
   ·exact List.mem_append_left _ (h j hj)
  ·exact h
theorem Va : ∀ (l:List E5) (x:List Bool×List Int),∃ t,(Ky s nm l x).2=x.2++t
 | [],x=>⟨[],by simp [Ky]⟩
 | c::r,x=>by
  rw [Ky]
  split
  ·obtain ⟨t,ht⟩:=Va r (x.1.set (GP s c.dst).toNat true,x.2++[Qv (GP s c.dst) 0])
   exact ⟨[Qv (GP s c.dst) 0]++t,by rw [ht];simp⟩
  ·exact Va r x
theorem eQ : ∀ {l:List E5} {x:List Bool×List Int},∀ b∈(Ky s nm l x).2,b∈x.2 \/ ∃ c∈l,c.src=nm/\b=((GP s c.dst).toNat:Int)
 | [],_,b,h => .inl h
 | c::r,x,b,h=>by
  rw [Ky] at h
  rcases eQ b h with h|⟨d,hd,hs,rfl⟩
  ·split at h
   ·rename_i he
    rcases Ar.1 h with h|h
    ·exact .inl h
    ·rcases Ab.1 h with rfl
     exact .inr ⟨c,sm,he.1,by unfold Qv;split<;>omega⟩
   ·exact .inl h
  ·exact .inr ⟨d,by simp [hd],hs,rfl⟩
theorem eR{M:Nat->Prop}: ∀ {l:List E5} {x:List Bool×List Int},(∀ c∈l,c.src=nm->M (GP s c.dst).toNat)->(∀ j,LI x.1 j->M j) -> ∀ j,LI (Ky s nm l x).1 j->M j
 | [],_,_,h=>h
 | c::r,x,hc,h=>by
  rw [Ky]
  refine eR (λd hd=>hc d (by simp [hd])) ?_
  split
  ·rename_i he
   intro j hj
   rcases Vu hj with rfl|hj
   ·exact hc c sm he.1
   ·exact h j hj
  ·exact h
theorem eN : ∀ {l:List E5} {x:List Bool×List Int},(∀ c∈l,0<=GP s c.dst)->rOk s x->rOk s (Ky s nm l x)
 | [],_,_,h=>h
 | c::r,x,hc,h=>by
  rw [Ky]
  refine eN (λd hd=>hc d (by simp [hd])) ?_
  split
  ·rename_i he
   obtain ⟨v,_,_,_,hv⟩:=Kv (hc c sm)
   have h0:=hc c sm
   refine ⟨by simpa using h.1, ?_, ?_⟩
   ·have hlt:(GP s c.dst).toNat<x.1.length:=by rw [h.1];omega
    have hb:x.1[(GP s c.dst).toNat]? =some false:=by
     have h2:=he.2
     rw [AL hlt] at h2 ⊢
     simpa using h2
    rw [jG hb]
    have:=h.2.1
    simp;omega
   ·intro a ha
    rcases Ar.1 ha with ha|ha
    ·exact h.2.2 a ha
    ·rcases Ab.1 ha with rfl
     rw [ZR h0];exact ⟨h0,hv⟩
  ·exact h
end
section
variable {s:E3} (hd : ∀ c∈s.contracts,0<=GP s c.dst)
include hd
theorem Rb : ∀ (f i:Nat) (x:List Bool×List Int),rOk s x->(∀ j,LI x.1 j->(j:Int)∈x.2)->(∀ (j:Nat) (a:Int),j<i->x.2[j]? =some a -> ∀ c∈s.contracts,c.src=(HJ s a).name->LI x.1 (GP s c.dst).toNat)->s.tenants.length+2<=f+i ->
  (∀ (j:Nat) (a:Int),x.2[j]? =some a -> ∀ c∈s.contracts,c.src=(HJ s a).name->LI (Mn s f i x) (GP s c.dst).toNat) /\
  (∀ a,LI (Mn s f i x) a -> ∀ c∈s.contracts,c.src=(HJ s (a:Int)).name->LI (Mn s f i x) (GP s c.dst).toNat)
 | 0,i,x,hr,hq,hp,hf=>by
  have h1:=hr.2.1
  have h2:=U9 x.1
  have h3:=hr.1
  have all : ∀ (j:Nat) (a:Int),x.2[j]? =some a -> ∀ c∈s.contracts,c.src=(HJ s a).name->LI x.1 (GP s c.dst).toNat:=λj a hj=>hp j a (by have:=(AC.1 hj).1;omega) hj
  refine ⟨all,λa ha c hc=>?_⟩
  obtain ⟨j,hj⟩:=Ae (hq a ha)
  exact all j a hj c hc
 | f+1,i,x,hr,hq,hp,hf=>by
  rw [Mn]
  split
  ·rename_i hn
   have hle:=List.getElem?_eq_none_iff.1 hn
   have all : ∀ (j:Nat) (a:Int),x.2[j]? =some a -> ∀ c∈s.contracts,c.src=(HJ s a).name->LI x.1 (GP s c.dst).toNat:=λj a hj=>hp j a (by have:=(AC.1 hj).1;omega) hj
   refine ⟨all,λa ha c hc=>?_⟩
   obtain ⟨j,hj⟩:=Ae (hq a ha)
   exact all j a hj c hc
  ·rename_i a ha
   obtain ⟨t,ht⟩:=Va (s:=s) (nm:=(HJ s a).name) s.contracts x
   have hi:=(AC.1 ha).1
   have ih:=Rb f (i+1) (Ky s (HJ s a).name s.contracts x) (eN hd hr) (VZ hq) (λj b hj hb c hc hs=>by
    rw [ht,AT FQ] at hb
    rcases Nat.lt_or_ge j i with hji|hji
    ·exact Sp (hp j b hji hb c hc hs)
    ·have:j=i:=FQ
     subst this
     rw [ha] at hb;cases hb
     obtain ⟨v,_,_,_,hv⟩:=Kv (hd c hc)
     have:=hd c hc
     exact eV hc hs (by rw [hr.1];omega)) FQ
   refine ⟨λj b hj c hc hs=>ih.1 j b ?_ c hc hs,ih.2⟩
   rw [ht,AT (AC.1 hj).1];exact hj
omit hd in
theorem Y6{M:Nat->Prop}(hM : ∀ a,M a -> ∀ c∈s.contracts,c.src=(HJ s (a:Int)).name->M (GP s c.dst).toNat): ∀ (f i:Nat) (x:List Bool×List Int),(∀ a∈x.2,∀ c∈s.contracts,c.src=(HJ s a).name->M (GP s c.dst).toNat)->(∀ j,LI x.1 j->M j) -> ∀ j,LI (Mn s f i x) j->M j
 | 0,_,_,_,h=>h
 | f+1,i,x,hq,h=>by
  rw [Mn]
  split
  ·exact h
  ·rename_i a ha
   have hma:=AB ha
   refine Y6 hM f (i+1) _ (λb hb c hc hs=>?_) (eR (λc hc hs=>hq a hma c hc hs) h)
   rcases eQ b hb with hb|⟨d,hd,hds,rfl⟩
   ·exact hq b hb c hc hs
   ·exact hM _ (hq a hma d hd hds) c hc hs
theorem mE{k:Nat}(hk:k<s.tenants.length):(∀ c∈s.contracts,c.src=(HJ s (k:Int)).name->LI (lQ s k) (GP s c.dst).toNat)/\(∀ a,LI (lQ s k) a -> ∀ c∈s.contracts,c.src=(HJ s (a:Int)).name->LI (lQ s k) (GP s c.dst).toNat):=by
 have h0:rOk s (Ay s.tenants.length false,[(k:Int)]):=⟨sm,by rw [jH];rfl,λa ha=>by rcases Ab.1 ha with rfl;omega⟩
 have h1 : ∀ j,LI (Ay s.tenants.length false) j->(j:Int)∈[(k:Int)]:=λj hj=>by
  unfold LI at hj
  have:=AB hj
  simp at this
 obtain ⟨g1,g2⟩:=Rb hd (s.tenants.length+2) 0 _ h0 h1 (λj a hj=>FQ) FQ
 exact ⟨λc hc hs=>g1 0 (k:Int) rfl c hc hs,g2⟩
omit hd in
theorem AE5{k:Nat}{M:Nat->Prop}(h0 : ∀ c∈s.contracts,c.src=(HJ s (k:Int)).name->M (GP s c.dst).toNat)(hM : ∀ a,M a -> ∀ c∈s.contracts,c.src=(HJ s (a:Int)).name->M (GP s c.dst).toNat): ∀ j,LI (lQ s k) j->M j:=by
 refine Y6 hM _ _ _ (λa ha=>?_) (λj hj=>?_)
 ·rcases Ab.1 ha with rfl;exact h0
 ·unfold LI at hj
  have:=AB hj
  simp at this
end
theorem rS : ∀ {a b:List Bool} {j:Nat},a.length=b.length->(∀ i,LI a i->LI b i)->LI b j -> ¬ LI a j->OJ a<OJ b
 | [],[],j,_,_,hb,_=>by simp [LI] at hb
 | [],_::_,_,h,_,_,_=>by simp at h
 | _::_,[],_,h,_,_,_=>by simp at h
 | x::a,y::b,j,h,hs,hb,ha=>by
  have le : ∀ {a b:List Bool},a.length=b.length->(∀ i,LI a i->LI b i)->OJ a<=OJ b:=by
   intro a
   induction a with
   | nil=>intro b _ _;simp [OJ]
   | cons x a ih =>
    intro b hl h
    cases b with
    | nil=>simp at hl
    | cons y b =>
     have h1:=ih (b:=b) (by simpa using hl) (λi hi=>by have:=h (i+1) (by simpa [LI] using hi);simpa [LI] using this)
     have h0:=h 0
     simp only [LI,A7,Option.some.injEq] at h0
     simp only [OJ,DT] at h1 ⊢
     cases x<;>cases y<;>simp at h0 ⊢ <;> omega
  have h0:=hs 0
  simp only [LI,A7,Option.some.injEq] at h0
  have hs1 : ∀ i,LI a i->LI b i:=λi hi=>by have:=hs (i+1) (by simpa [LI] using hi);simpa [LI] using this
  have hl:a.length=b.length:=by simpa using h
  cases j with
  | zero =>
   have h1:=le hl hs1
   simp only [LI,A7,Option.some.injEq] at hb ha
   subst hb
   simp only [OJ,DT] at h1 ⊢
   cases x<;>simp at ha ⊢
   omega
  | succ j =>
   have h1:=rS hl hs1 (j:=j) (by simpa [LI] using hb) (by simpa [LI] using ha)
   simp only [OJ,DT] at h1 ⊢
   cases x<;>cases y<;>simp at h0 ⊢ <;> omega
def zR(s:E3)(k:Nat):Nat:=OJ (lQ s k)
theorem Rm{s:E3}: ∀ {l:List E4} {i:Nat},Ie s i l=none -> ∀ j,j<l.length -> ¬ LI (lQ s ((i+j:Nat):Int)) (i+j)
 | [],_,_,j,hj=>by simp at hj
 | x::r,i,h,j,hj=>by
  rw [Ie] at h
  split at h
  ·cases h
  ·rename_i hn
   cases j with
   | zero =>
    intro hm
    unfold LI at hm
    apply hn
    simp at hm ⊢
    rw [hm];rfl
   | succ j =>
    have:=Rm h j (by simpa using hj)
    rwa [show i+1+j=i+(j+1) by omega] at this
theorem R19.rank{s:E3}(h:R19 s){k:Nat}(hk:k<s.tenants.length){c:E5}(hc:c∈s.contracts)(hs:c.src=(HJ s (k:Int)).name):zR s (GP s c.dst).toNat<zR s k:=by
 have hd : ∀ c∈s.contracts,0<=GP s c.dst:=λc hc=>(Lz (h.con c hc)).2
 obtain ⟨g1,g2⟩:=mE hd hk
 obtain ⟨v,_,_,_,hv⟩:=Kv (hd c hc)
 have h0:=hd c hc
 have hm:=g1 c hc hs
 have hlt:(GP s c.dst).toNat<s.tenants.length:=FQ
 have hn:=Rm h.loop (GP s c.dst).toNat hlt
 rw [AY] at hn
 exact rS (by rw [Ra,Ra]) (AE5 (λd hd2 hs2=>g2 _ hm d hd2 hs2) g2) hm hn
end Go.AI
namespace Go.AI
open Go.Proofs
set_option maxRecDepth 50000
def Sc(s:E3)(b:Nat):Nat->Nat->List Int->List (List Int)
 | 0,_,_=>[]
 | f+1,a,ch=>if a=b then [ch] else (s.contracts.zipIdx).flatMap λp=>if p.1.src=(HJ s (a:Int)).name then Sc s b f (GP s p.1.dst).toNat (ch++[(p.2:Int)]) else []
def chR(s:E3)(b f a:Nat)(ch:List Int)(i:Nat)(r:List E5):List (List Int) :=
 (r.zipIdx i).flatMap λp=>if p.1.src=(HJ s (a:Int)).name then Sc s b f (GP s p.1.dst).toNat (ch++[(p.2:Int)]) else []
theorem AGH(s:E3)(b f a:Nat)(ch:List Int)(i:Nat):chR s b f a ch i []=[]:=rfl
theorem ACv(s:E3)(b f a:Nat)(ch:List Int)(i:Nat)(c:E5)(r:List E5):chR s b f a ch i (c::r)=(if c.src=(HJ s (a:Int)).name then Sc s b f (GP s c.dst).toNat (ch++[(i:Int)]) else [])++chR s b f a ch (i+1) r:=by
 simp [chR,List.zipIdx_cons]
theorem oR(s:E3)(b f:Nat)(ch:List Int):Sc s b (f+1) b ch=[ch]:=by rw [Sc,iP rfl]
theorem ATw{s:E3}{b f a:Nat}{ch:List Int}(h:a≠b):Sc s b (f+1) a ch=chR s b f a ch 0 s.contracts:=by rw [Sc,iN h];rfl
theorem fI(l:List Int)(hl:l.length<=1048576):A' AA 46 [.sl none (GC l)] (.sl (some 1) (GC l)):=λH =>
 fM _ (V9 l) (by rw [HK];exact hl) H
theorem s4 (s:E3) (hs:FT s.c<=1048576) (hR:R19 s) (b o ya fo n os ob:Nat) (L:LoopRec) (Pre:Nat->FR->Prop) (Qp:FR->Prop) (l:List (List Int))
  (hS : ∀ k pre,Pre k pre->pre[os]? =some (some s.c)/\pre[ob]? =some (some [.int .i64 (b:Int)]))
  (round : ∀ g k y H,l[k]? =some y->Iv Pre n g k H->L4 AA o L [.sl (some 1) (GC y)] H λv H'=>(v = .bool true/\Iv Pre n g (k+1) H')\/(v = .bool false/\Iv (λ_=>Qp) n g 0 H')) :
  ∀ (f a:Nat) (ch:List Int) (k:Nat) (H g:FR) (rest:List (List Int)),a<s.tenants.length->zR s a<f->ch.length+f<=1048577->g[ya]? =some (some [.yld o L]) ->
   g[fo]? =some (some [.fn (.func 92) [] [.ptr ob 0,.ptr (n+ya) 0,.ptr os 0,.ptr (n+fo) 0]])->l.drop k=Sc s b f a ch++rest->Iv Pre n g k H ->
   FZ AA 92 [.int .i64 (a:Int),.sl none (GC ch),.ptr ob 0,.ptr (n+ya) 0,.ptr os 0,.ptr (n+fo) 0] H λv H'=>(v = .bool true/\Iv Pre n g (k+(Sc s b f a ch).length) H')\/(v = .bool false/\Iv (λ_=>Qp) n g 0 H'):=by
 intro f
 induction f with
 | zero=>intro a ch k H g rest ha hr;omega
 | succ f ih =>
 intro a ch k H g rest ha hr hch hya hfo hd hI
 have hnc:s.contracts.length<=1048576:=LR (Hm hs)
 have hnt:s.tenants.length<=1048576:=Qk (Hj hs)
 have dJ : ∀ {k:Nat} {H:FR},Iv Pre n g k H -> ∀ z,(H++z)[os]? =some (some s.c)/\(H++z)[ob]? =some (some [.int .i64 (b:Int)]):=λh z=>by
  obtain ⟨pre,g',rfl,h1,h2⟩:=h
  obtain ⟨e1,e2⟩:=hS _ _ h2
  have l1:=(AC.1 e1).1
  have l2:=(AC.1 e2).1
  rw [AE,AT l1,AT l2]
  exact ⟨e1,e2⟩
 obtain ⟨e1,e2⟩:=dJ hI []
 rw [List.append_nil] at e1 e2
 have y1:=hI.at hya
 refine aC AXM rfl ?_
 by_cases hab:a=b
 ·subst hab
  rw [oR] at hd
  have hk:l[k]? =some ch:=by
   have:=congrArg (·[0]?) hd
   simpa using this
  have hr:=round g k ch H hk hI
  have he:((a:Int)==(a:Int))=true:=sm
  simp only [f92,go_sem,e2,y1,he]
  refine pK (fI ch FQ) ?_
  simp only [go_sem]
  refine Md.intro hr λv H' hq=>?_
  simp only [go_sem]
  rcases hq with ⟨rfl,hq⟩|⟨rfl,hq⟩
  ·refine .inl ⟨rfl, ?_⟩
   rw [oR];exact hq
  ·exact .inr ⟨rfl,hq⟩
 ·have he:((a:Int)==(b:Int))=false:=by simp;omega
  rw [ATw hab] at hd ⊢
  simp only [f92,go_sem,e1,e2,he]
  refine Fq s.contracts (λ(_:FR×Nat) (_:List E5)=>()) (λi q=>Iv Pre n g q.2 q.1/\q.2+(chR s b f a ch i (s.contracts.drop i)).length=k+(chR s b f a ch 0 s.contracts).length/\l.drop q.2=chR s b f a ch i (s.contracts.drop i)++rest)
   (λi q=>[(0,.int .i64 (a:Int)),(1,.sl none (GC ch)),(4,.ptr os 0),(5,.ptr (n+fo) 0),(21,.sl none (GX s.contracts)),(22,.int .i64 s.contracts.length),(23,.int .i64 i)]) (λ_ q=>q.1) (H,k) FQ ⟨hI,rfl,hd⟩ rfl rfl ?_ ?_
  ·rintro i ⟨H2,k2⟩ c cs hdi hcx ⟨hi2,hk2,hl2⟩ _ h0 h1 hwr
   dsimp only at hi2 hk2 hl2 ⊢
   have hcm:=AB hcx
   rw [hdi,ACv] at hk2 hl2
   have hdi2:s.contracts.drop (i+1)=cs:=by rw [<- A8,hdi];rfl
   obtain ⟨u,hu⟩ : ∃ u,s.tenants[a]? =some u:=⟨_,AL ha⟩
   have hu2:=GV hu
   have hua:HJ s (a:Int)=u:=Yz hu
   have ha0:(0:Int)<=(a:Int):=FQ
   have eS:=λz=>(dJ hi2 z).1
   have eF:=hi2.atG (x:=[some c.c]) hfo
   have q0:=q_0 H2
   have hdst:=(Lz (hR.con c hcm)).2
   obtain ⟨v,_,_,_,hv⟩:=Kv hdst
   have qT:=fC s c.dst FQ
   rw [dZ,ZR hdst,decide_eq_true hdst] at qT
   obtain ⟨m,hm⟩ : ∃ m:Nat,GP s c.dst=(m:Int):=⟨(GP s c.dst).toNat,FQ⟩
   rw [hm] at qT hv
   have hlen:(GC ch).length=ch.length:=HK ch
   simp only [go_sem,h0,h1,H6 hcx,eS,q0,hu2,ha0,FU]
   repeat' (first|(refine pK qT ?_;simp only [go_sem,eF,hlen])|(first|apply cS|apply gS)<;>intro hc<;>simp only [go_sem,hc,eS,q0,hwr])
   ·have hne : ¬ c.src=u.name:=by simpa using hc
    rw [iN (by rw [hua];exact hne),AO] at hk2 hl2
    exact ⟨(H2++[some c.c],k2),⟨hi2.grow _,by rw [hdi2];exact hk2,by rw [hdi2];exact hl2⟩,rfl,rfl⟩
   ·have heq:c.src=u.name:=by simpa using hc
    rw [iP (by rw [hua];exact heq),hm,Af] at hk2 hl2
    have hrk:=hR.rank ha hcm (by rw [hua];exact heq)
    rw [hm,Af] at hrk
    have ihm:=ih m (ch++[(i:Int)]) k2 (H2++[some c.c]) g (chR s b f a ch (i+1) cs++rest) FQ FQ  (by simp;omega) hya hfo (by rw [hl2,AE]) (hi2.grow _)
    refine ⟨FQ,FQ,FQ, ?_⟩
    refine Fr.intro (FZ.weak (vs:=[.int .i64 (m:Int),.sl (some 1) (GC (ch++[(i:Int)])),.ptr ob 0,.ptr (n+ya) 0,.ptr os 0,.ptr (n+fo) 0]) ihm) λv H3 hq=>?_
    rcases hq with ⟨rfl,hi3⟩|⟨rfl,hq3⟩
    ·simp only [go_sem,Bool.not_true,hwr]
     refine ⟨(H3,k2+(Sc s b f m (ch++[(i:Int)])).length),⟨hi3, ?_, ?_⟩,rfl,rfl⟩
     ·dsimp only;rw [hdi2];rw [AF] at hk2;omega
     ·dsimp only;rw [hdi2,<- A8,hl2,AE,List.drop_left]
    ·simp only [go_sem,Bool.not_false]
     exact .inr hq3
  ·rintro ⟨H2,k2⟩ ⟨hi2,hk2,hl2⟩ _
   dsimp only at hi2 hk2 hl2 ⊢
   rw [List.drop_length,AGH,AH,Nat.add_zero] at hk2
   subst hk2
   simp only [go_sem,AX,dF]
   exact .inl hi2
theorem AA2(s:E3)(a b:Nat)(H:FR):FZ AA 48 [.agg s.c,.int .i64 (a:Int),.int .i64 (b:Int)] H (λv H'=>v = .fn (.func 91) [] [.ptr (H.length+2) 0,.ptr H.length 0,.ptr (H.length+1) 0]/\H'=H++[some s.c,some [.int .i64 (a:Int)],some [.int .i64 (b:Int)]]):=by
 refine aC AYi rfl ?_
 simp only [f48,go_sem,AF,AE,AS,AO,AD,AH,Nat.reduceAdd]
 all_goals first|rfl|exact ⟨rfl,rfl⟩|skip
theorem mQ (s:E3) (hs:FT s.c<=1048576) (hR:R19 s) (a b o n os oa ob:Nat) (ha:a<s.tenants.length) (L:LoopRec) (Pre:Nat->FR->Prop) (Qp:FR->Prop) (H0:FR) (hn:H0.length=n) (h0:Pre 0 H0)
  (hS : ∀ k pre,Pre k pre->pre[os]? =some (some s.c)/\pre[ob]? =some (some [.int .i64 (b:Int)])) (hA:H0[oa]? =some (some [.int .i64 (a:Int)]))
  (round : ∀ g k y H,(Sc s b (s.tenants.length+1) a [])[k]? =some y->Iv Pre n g k H->L4 AA o L [.sl (some 1) (GC y)] H λv H'=>(v = .bool true/\Iv Pre n g (k+1) H')\/(v = .bool false/\Iv (λ_=>Qp) n g 0 H'))
  (fin : ∀ pre,Pre (Sc s b (s.tenants.length+1) a []).length pre->Qp pre):FZ AA 91 [.yld o L,.ptr ob 0,.ptr os 0,.ptr oa 0] H0 (λ_ H' => ∃ pre g,H'=pre++g/\pre.length=n/\Qp pre):=by
 subst hn
 have hnt:s.tenants.length<=1048576:=Qk (Hj hs)
 have hlt:=(AC.1 hA).1
 have e1 : ∀ z:FR,(H0++z)[oa]? =some (some [.int .i64 (a:Int)]):=λz=>by rw [AT hlt];exact hA
 have hrk:zR s a<s.tenants.length+1:=by
  have:=U9 (lQ s a)
  rw [Ra] at this
  unfold zR;omega
 refine aC AXP rfl ?_
 have e2 : ∀ u v:Option (List AV),(H0++[u,v])[H0.length+1]? =some v:=λu v=>by rw [List.getElem?_append_right FQ,A1];rfl
 have e3 : ∀ u v z:Option (List AV),(H0++[u,v]).set (H0.length+1) z=H0++[u,z]:=λu v z=>by rw [List.set_append_right _ _ FQ,A1];rfl
 simp only [f91,go_sem,AF,AE,AS,AO,e1,e2,e3]
 have hw:=s4 s hs hR b o 0 1 H0.length os ob L Pre Qp (Sc s b (s.tenants.length+1) a []) hS round (s.tenants.length+1) a [] 0 (H0++[some [.yld o L],some [.fn (.func 92) [] [.ptr ob 0,.ptr (H0.length+0) 0,.ptr os 0,.ptr (H0.length+1) 0]]])
  [some [.yld o L],some [.fn (.func 92) [] [.ptr ob 0,.ptr (H0.length+0) 0,.ptr os 0,.ptr (H0.length+1) 0]]] [] ha hrk (by simp;omega) rfl rfl sm ⟨H0,[],sm,rfl,h0⟩
 refine Fr.intro hw λv H' hr=>?_
 simp only [go_sem]
 rcases hr with ⟨rfl,pre,g',rfl,h1,h2⟩|⟨rfl,pre,g',rfl,h1,h2⟩
 ·exact ⟨pre,_,rfl,h1,fin pre (by rwa [AY] at h2)⟩
 ·exact ⟨pre,_,rfl,h1,h2⟩
def dN(l:List (List Int)):List AV:=l.map λc => .sl none (GC c)
theorem bA(l:List (List Int)):(dN l).length=l.length:=by simp [dN]
theorem ABu(l:List (List Int))(c:List Int):dN l++[.sl none (GC c)]=dN (l++[c]):=by simp [dN]
@[go_sem] theorem ABv(l:List (List Int)):FV (dN l)=true:=by
 induction l with
 | nil=>rfl
 | cons c l ih=>simp only [dN,List.map_cons,FV,AV.pure,Jh,Bool.true_and];exact ih
def chB(s:E3)(a b:Nat)(r:List AV)(e:Int)(out:List (List Int))(st:Int):FR :=
 [some s.c,some [.sl (some 1) r],some [.int .i64 e],some [.sl (some 1) (dN out)],some s.c,some [.int .i64 (a:Int)],some [.int .i64 (b:Int)],some (G6 st (HY 23 [(6,.ptr 1 0),(7,.ptr 2 0),(8,.ptr 3 0),(13,.fn (.func 91) [] [.ptr 6 0,.ptr 4 0,.ptr 5 0])]))]
def bS(l:List (List Int)):AV:=if 200<l.length then .tup [.sl none [],.int .i64 2] else .tup [.sl none (dN l),.int .i64 0]
theorem xx(l:List (List Int)):(bS l).pure=true:=by
 unfold bS;split
 ·rfl
 ·simp only [AV.pure,FV,ABv,Bool.and_true]
theorem fN(s:E3)(hs:FT s.c<=1048576)(hR:R19 s)(a b:Nat)(ha:a<s.tenants.length):A' AA 19 [.agg s.c,.int .i64 (a:Int),.int .i64 (b:Int)] (bS (Sc s b (s.tenants.length+1) a [])):=by
 have c1:=AA2 s a b [some s.c,some [.sl (some 1) []],some [.int .i64 0],some [.sl (some 1) []]]
 generalize hl:Sc s b (s.tenants.length+1) a []=l
 refine pB AZZ rfl ?_ (hv:=xx l)
 simp only [f19,go_sem]
 refine Fr.intro c1 λv H' hq=>?_
 obtain ⟨rfl,rfl⟩:=hq
 simp only [go_sem]
 refine Sn (tag:=19) rfl (FZ.mono (mQ s hs hR a b 7 8 4 5 6 ha _ (λk pre=>pre=chB s a b [] 0 (l.take k) 0/\k<=200) (λpre=>(pre=chB s a b [] 0 l 0/\l.length<=200)\/(∃ out,pre=chB s a b [] 2 out (-2)/\200<l.length)) (chB s a b [] 0 [] 0) rfl ⟨rfl,FQ⟩ ?_ rfl ?_ ?_) λv H2 hq=>?_)
 ·rintro k pre ⟨rfl,_⟩;exact ⟨rfl,rfl⟩
 ·rw [hl]
  rintro g k y H hy ⟨pre,g',rfl,hn,rfl,hk⟩
  have hkl:=(AC.1 hy).1
  have htk:l.take (k+1)=l.take k++[y]:=by
   rw [BF,hy];rfl
  refine Js (h:=h19) (n:=23) mixed rfl ⟨kr,kr⟩ dc _ _ _ _ rfl rfl rfl ?_
  show I3 _ _ _ _ _ _ [(14,.sl (some 1) (GC y)),(0,.undef),(1,.undef),(2,.undef),(3,.undef),(4,.undef),(5,.undef),(6,.ptr 1 0),(7,.ptr 2 0),(8,.ptr 3 0),(9,.undef),(10,.undef),(11,.undef),(12,.undef),(13,.fn (.func 91) [] [.ptr 6 0,.ptr 4 0,.ptr 5 0]),(14,.undef),(15,.undef),(16,.undef),(17,.undef),(18,.undef),(19,.undef),(20,.undef),(21,.undef),(22,.undef)] _
  generalize hG:g++g'=G
  have hkl2:(dN (l.take k)).length=k:=by rw [bA,BD];omega
  have hsn:dN (l.take k)++[.sl none (GC y)]=dN (l.take (k+1)):=by rw [ABu,htk]
  have hkl3:(dN (l.take (k+1))).length=k+1:=by rw [bA,BD];omega
  by_cases ni:k=200
  ·have hd2:(200:Int)<((k+1:Nat):Int):=FQ
   simp only [go_sem,chB,hsn,hkl2,hkl3,hd2]
   exact ⟨_,rfl,FQ,FQ,_,rfl,.inr ⟨chB s a b [] 2 (l.take (k+1)) (-2),g',by rw [<- hG];rfl,rfl,.inr ⟨_,rfl,FQ⟩⟩⟩
  ·have hd2 : ¬ (200:Int)<((k+1:Nat):Int):=FQ
   simp only [go_sem,chB,hsn,hkl2,hkl3,hd2,dF]
   exact ⟨_,rfl,FQ,FQ,_,rfl,.inl ⟨chB s a b [] 0 (l.take (k+1)) 0,g',by rw [<- hG];rfl,rfl,rfl,FQ⟩⟩
 ·rw [hl]
  rintro pre ⟨rfl,hk⟩
  exact .inl ⟨by rw [BI],hk⟩
 ·obtain ⟨pre,g,rfl,hn,hq⟩:=hq
  rcases hq with ⟨rfl,h⟩|⟨out,rfl,h⟩
  ·refine ⟨0,_,rfl,.inl ⟨rfl, ?_⟩⟩
   rw [bS,iN FQ]
   simp only [go_sem,chB]
  ·refine ⟨-2,_,rfl,.inr (.inl ⟨rfl, ?_⟩)⟩
   rw [bS,iP h]
   simp only [go_sem,chB]
section
variable {P:Program} {t kt et:TypeId} {K:Kt} {e:Ft} {H:FR} {d:Tmp} {o:Nat} {l:List (Int×Int)}
end
@[go_sem] theorem AcX(k:Nat)(l:List Int):Fl k (GC l)=true:=GM.2 λc hc=>by
 obtain ⟨p,_,rfl⟩:=List.mem_map.1 hc;rfl
end Go.AI
namespace Go.AI
open Go.Proofs
set_option maxRecDepth 50000
theorem AIv{α:Type}{A B:List α}{k:Nat}{x y:α}(hx:A[k]? =some x)(hy:B[k]? =some y)(h : ¬ x=y): ¬ A=B:=by
 rintro rfl
 rw [hx] at hy;cases hy;exact h rfl
theorem AEz{α:Type}{A B:List α}{k:Nat}{x:α}(h:A.take k=B.take k)(hx:A[k]? =some x)(hy:B[k]? =some x):A.take (k+1)=B.take (k+1):=by
 rw [BF,BF,h,hx,hy]
theorem z8{α:Type}{A B:List α}(h:A.take A.length=B.take A.length)(hl:A.length=B.length):A=B:=by
 rw [BI,hl,BI] at h;exact h
theorem Acf{b:Bool}{p:Prop}(hb:b=true↔p)(h : ¬ p):b=false:=by
 cases b with
 | false=>rfl
 | true=>exact absurd (hb.1 rfl) h
theorem Ace{b:Bool}{p:Prop}(hb:b=true↔p)(h:p):b=true:=hb.2 h
theorem pD(a c:List Int)(b:Bool)(hb:b=true↔a=c)(ha:a.length<=1073741824):A' AA 24 [.sl none (GC a),.sl none (GC c)] (.bool b):=by
 have ea:(GC a).length=a.length:=HK a
 have ec:(GC c).length=c.length:=HK c
 refine pC AZT rfl ?_
 simp only [f24,go_sem,ea,ec]
 repeat' (first|(first|apply cS|apply gS)<;>intro hc<;>simp only [go_sem,hc])
 all_goals first
  | (rw [Acf hb (by rintro rfl;simp_all)];done)
  | skip
 have l0:a.length=c.length:=by simp_all;omega
 refine Fq a (λ(_:Unit) (_:List Int)=>()) (λk _=>a.take k=c.take k) (λk _=>[(0,.sl none (GC a)),(1,.sl none (GC c)),(5,.int .i64 k)]) (λ_ _=>[]) () FQ rfl rfl rfl ?_ ?_
 ·intro k _ x xs hd hx hI _ h0 h1 hw
  obtain ⟨y,hy⟩ : ∃ y,c[k]? =some y:=⟨_,AL (by have:=(AC.1 hx).1;omega)⟩
  simp only [go_sem,h0,h1,ea,Gk hx,Gk hy]
  repeat' (first|(first|apply cS|apply gS)<;>intro hc<;>simp only [go_sem,hc,hw])
  ·have hxy : ¬ x=y:=by simpa using hc
   rw [Acf hb (λe=>AIv hx hy hxy (by rw [e]))]
  ·have hxy:x=y:=by simpa using hc
   subst hxy
   exact ⟨(),AEz hI hx hy⟩
 ·intro _ hI _
  have hA:=z8 hI FQ
  simp only [go_sem,ea,AX,dF]
  rw [Ace hb hA]
end Go.AI
