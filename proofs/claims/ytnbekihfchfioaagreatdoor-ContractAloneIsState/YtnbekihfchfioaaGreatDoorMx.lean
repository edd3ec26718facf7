/- What the specification of layer 19 checks,in plain Lean. -/
import Derived.Test.YtnbekihfchfioaaGreatDoorMz
set_option linter.unusedSimpArgs false
set_option linter.unusedVariables false
set_option maxHeartbeats 4000000
open Go.Proofs.Tryz
open Go.AI renaming Setup->Ey,Tenant->Ez,Contract->E1
open Bool renaming and_eq_true->AR
open Int renaming lt_irrefl->AY
open List renaming all_cons->Ak,all_nil->Aw,any_cons->Au,getElem?_append_left->AW,getElem?_eq_getElem->AL,getElem?_eq_some_iff->AD,getElem?_take->Aj,length_cons->AC,mem_of_getElem?->AB,mem_singleton->Al,replicate->A5,replicate_succ->Cm,take_add_one->BF,take_length->BO
open Nat renaming le_trans->AK,sub_self->AQ
open Go.Proofs.Tryz renaming prog->AA
namespace Go.AI
section
variable {P:Program} {t:TypeId} {x y:ByteArray} {d:Tmp} {K:Kt} {e:Fp} {H:FN}
@[go_sem] theorem ATa:Ie P .geq t (.str x) (.str y) d K e H=K ((d,.bool !(Op.bytesLess x.toList y.toList))::e) H:=by rw [Oy];simp [KA]
@[go_sem] theorem ATZ:Ie P .gtr t (.str x) (.str y) d K e H=K ((d,.bool !(Op.bytesLess x.toList y.toList||x.toList==y.toList))::e) H:=by rw [Oy];simp [KA]
end
def IT(s:Ey):Bool :=
 mQ s.network 20 40 20&&(decide ((s.fields.length:Int)<=20)&&(decide ((s.tenants.length:Int)<=8)&&(decide ((s.contracts.length:Int)<=12)&&(s.tenants.all Lq&&s.contracts.all λc=>XL c.pred))))
def Hn(s:Ey)(nm:ByteArray):Int:=H9 (λt:Ez=>decide (t.name=nm)) s.tenants
def Lh(s:Ey)(k:Int):Ez:=(s.tenants[k.toNat]?).getD Tenant.z
theorem ei{α:Type}(p:α->Bool): ∀ (l:List α) (i:Nat),HF p i l = -1 \/ ∃ j x,l[j]? =some x/\p x=true/\HF p i l=((i+j:Nat):Int) /\ ∀ m y,m<j->l[m]? =some y->p y=false
 | [],i => .inl rfl
 | x::l,i=>by
  rw [HF]
  cases h:p x with
  | true=>exact .inr ⟨0,x,rfl,h,sm,λm y hm=>FM⟩
  | false =>
   rcases ei p l (i+1) with h1|⟨j,y,h1,h2,h3,h4⟩
   ·exact .inl (by simpa using h1)
   ·refine .inr ⟨j+1,y,h1,h2,by rw [iN sm,h3];congr 1;omega,λm z hm hz=>?_⟩
    cases m with
    | zero=>simp at hz;subst hz;exact h
    | succ m=>exact h4 m z FM (by simpa using hz)
theorem l6{α:Type}(p:α->Bool)(l:List α):(H9 p l = -1 /\ ∀ y∈l,p y=false) \/ ∃ (j:Nat) (x:α),j<l.length/\l[j]? =some x/\p x=true/\H9 p l=(j:Int) /\ ∀ (m:Nat) (y:α),m<j->l[m]? =some y->p y=false:=by
 rcases ei p l 0 with h|⟨j,x,h1,h2,h3,h4⟩
 ·refine .inl ⟨h,λy hy=>?_⟩
  have h2:=PP p l 0
  rw [h] at h2
  have h3:l.any p=false:=by rw [<- h2];rfl
  rw [List.any_eq_false] at h3
  simpa using h3 y hy
 ·exact .inr ⟨j,x,(AD.1 h1).1,h1,h2,by unfold H9;rw [h3];simp,h4⟩
def JU(s:Ey)(k:Nat)(t:Ez):Bool:=t.ports.any λp=>(s.tenants.take k).any λu=>decide (0<=p.edge)&&decide (0<=IG u p.edge)
def YL(s:Ey)(k:Nat)(t:Ez):Bool:=decide (0<k) && !TD (Lh s ((k:Int) - 1)).name t.name
def Q5(s:Ey)(k:Nat)(t:Ez):Int :=
 if Jr s t≠0 then Jr s t else if (GP t).2≠0 then (GP t).2 else if YL s k t=true then 4 else if JU s k t=true then 10 else 0
def KJ(s:Ey):Nat->List Ez->Option (Int×Int)
 | _,[]=>none
 | k,t::r=>if Q5 s k t≠0 then some ((k:Int),Q5 s k t) else KJ s (k+1) r
def dL(t:Ez)(n:Int):Bool:=decide (0<=n)&&(decide (n<(t.ports.length:Int))&&decide (0<=Om t n))
def ABg(s:Ey)(n:Int):Bool:=((s.network.nodes[n.toNat]?).map (·.box)).getD false
def AGa(s:Ey)(c:E1):Bool :=
 decide (-1<=c.via)&&(decide (c.via<(s.network.nodes.length:Int))&&((decide (c.via<0)||ABg s c.via)&&(decide (0<=c.capacity)&&(decide (c.capacity<=1048576)&&(decide (0<=c.price)&&decide (c.price<=1000))))))
def Sf(s:Ey)(c:E1):Int :=
 if Hn s c.src<0\/Hn s c.dst<0 then 9
 else if Hn s c.src=Hn s c.dst\/dL (Lh s (Hn s c.src)) c.fromPort=false\/dL (Lh s (Hn s c.dst)) c.toPort=false then 1
 else if Tq s.fields c.pred≠0 then Tq s.fields c.pred
 else if AGa s c=false then 1 else 0
def Kc(s:Ey):Nat->List E1->Option (Int×Int)
 | _,[]=>none
 | k,c::r=>if Sf s c≠0 then some ((k:Int),Sf s c) else Kc s (k+1) r
def ZJ(s:Ey)(nm:ByteArray):List E1->List Bool×List Int->List Bool×List Int
 | [],x=>x
 | c::r,x=>ZJ s nm r (if c.src=nm/\(x.1[(Hn s c.dst).toNat]?).getD true=false then (x.1.set (Hn s c.dst).toNat true,x.2++[Vj (Hn s c.dst) 0]) else x)
def Ur(s:Ey):Nat->Nat->List Bool×List Int->List Bool
 | 0,_,x=>x.1
 | f+1,i,x=>match x.2[i]? with
  | none=>x.1
  | some a=>Ur s f (i+1) (ZJ s (Lh s a).name s.contracts x)
def rch(s:Ey)(k:Int):List Bool:=Ur s (s.tenants.length+2) 0 (A5 s.tenants.length false,[k])
def JR(s:Ey):Nat->List Ez->Option (Int×Int)
 | _,[]=>none
 | k,_::r=>if ((rch s k)[k]?).getD true=true then some (0,21) else JR s (k+1) r
def Tr(s:Ey):Int×Int :=
 if I7 s.network≠0 then (0,I7 s.network) else if Oq s.fields≠0 then (0,Oq s.fields)
 else if 64<s.tenants.length\/100<s.contracts.length then (0,2)
 else match KJ s 0 s.tenants with
  | some x=>x
  | none=>match Kc s 0 s.contracts with
   | some x=>x
   | none=>(JR s 0 s.tenants).getD (0,0)
def Ju(s:Ey):Bool:=IT s&&(Tr s).2==0
end Go.AI
namespace Go.AI
open Go.Proofs
set_option maxRecDepth 50000
theorem Tg {H:FN} (l:List E1) (hl:l.length<=9223372036854775807) (g:FuncId) (fi ca:List AV) (p:E1->Bool)
  (h : ∀ x∈l,GI AA g (fi.map AV.borrow++(.agg x.c::ca.map AV.borrow)) H (.bool (p x))) :
  GI AA 56 [.sl none (GW l),.fn (.func g) fi ca] H (.int .i64 (H9 p l)):=by
 unfold GI
 refine aC AWc rfl ?_
 simp only [f56,go_sem]
 refine FZ l (λr=>HF p (l.length - r.length) r) (λk=>[(0,.sl none (GW l)),(1,.fn (.func g) fi ca),(7,.int .i64 l.length),(8,.int .i64 k)]) hl rfl ?_ ?_
 ·intro k x xs hd hx hF h0 h1 hw
  have hk2:=Fl hd
  have e1:l.length - (xs.length+1)=k:=FM
  have e2:l.length - xs.length=k+1:=FM
  simp only [AC,e1,AQ] at hF
  simp only [go_sem,h0,h1,GT hx,e1,e2]
  repeat' (first|(refine aS (h x (AB hx)) ?_;simp only [go_sem,h0,h1,hw,GT hx,e1,e2])|(first|apply cS|apply gS)<;>intro hc<;>simp only [go_sem,hc,h0,h1,hw,GT hx,e1,e2])
  ·rw [H9,hF,HF,iP hc]
  ·rw [HF,iN (by rw [hc];decide)]
 ·intro hF hlt
  simp only [go_sem,hlt,dF]
  rw [AQ] at hF
  rw [H9,hF];rfl
theorem Wy {H:FN} (l:List Ez) (hl:l.length<=9223372036854775807) (g:FuncId) (fi ca:List AV) (p:Ez->Bool)
  (h : ∀ x∈l,GI AA g (fi.map AV.borrow++(.agg x.c::ca.map AV.borrow)) H (.bool (p x))) :
  GI AA 59 [.sl none (HT l),.fn (.func g) fi ca] H (.int .i64 (H9 p l)):=by
 unfold GI
 refine aC AWQ rfl ?_
 simp only [f59,go_sem]
 refine FZ l (λr=>HF p (l.length - r.length) r) (λk=>[(0,.sl none (HT l)),(1,.fn (.func g) fi ca),(7,.int .i64 l.length),(8,.int .i64 k)]) hl rfl ?_ ?_
 ·intro k x xs hd hx hF h0 h1 hw
  have hk2:=Fl hd
  have e1:l.length - (xs.length+1)=k:=FM
  have e2:l.length - xs.length=k+1:=FM
  simp only [AC,e1,AQ] at hF
  simp only [go_sem,h0,h1,Fq hx,e1,e2]
  repeat' (first|(refine aS (h x (AB hx)) ?_;simp only [go_sem,h0,h1,hw,Fq hx,e1,e2])|(first|apply cS|apply gS)<;>intro hc<;>simp only [go_sem,hc,h0,h1,hw,Fq hx,e1,e2])
  ·rw [H9,hF,HF,iP hc]
  ·rw [HF,iN (by rw [hc];decide)]
 ·intro hF hlt
  simp only [go_sem,hlt,dF]
  rw [AQ] at hF
  rw [H9,hF];rfl
theorem AEh(s:Ey):FO AA 43 [.agg s.c] (.bool (IT s)):=by
 refine FO.fit AFr.c λhf=>?_
 have hl1:=Rp (RS hf)
 have hl2:=Pm (RS hf)
 refine pC AFr rfl ?_
 simp only [f43,go_sem]
 repeat' (first|(refine pK (ARg _ _ _ _) ?_;simp only [go_sem])|(first|apply cS|apply gS)<;>intro hc<;>simp only [go_sem,hc])
 all_goals first
  | rfl
  | (simp only [IT];rfl)
  | grind [IT]
  | (simp only [IT];grind)
  | (simp [IT, *];done)
  | (simp_all [IT];done)
  | skip
 all_goals
  refine FZ s.tenants (λr=>r.all Lq) (λk=>[(1,.ptr 0 0),(4,.int .i64 k)]) hl1 rfl ?_ ?_
  ·intro k y ys hd hx hF h0 h1 hw
   simp only [go_sem,h0,h1,Fq hx]
   repeat' (first|(refine pK (ARe _) ?_;simp only [go_sem,h0,h1,hw,Fq hx])|(first|apply cS|apply gS)<;>intro hc<;>simp only [go_sem,hc,h0,h1,hw,Fq hx])
   all_goals first
    | rfl
    | (simp only [IT,Ak,Aw];rfl)
    | grind [IT]
    | (simp only [IT,Ak,Aw];grind)
    | (simp [IT,Ak,Aw, *];done)
    | (simp_all [IT,Ak,Aw];done)
    | skip
  ·intro hF hlt
   simp only [go_sem,hlt,dF]
   refine FZ s.contracts (λr=>r.all λx=>XL x.pred) (λk=>[(1,.ptr 0 0),(6,.int .i64 k)]) hl2 rfl ?_ ?_
   ·intro k y ys hd hx hF h0 h1 hw
    simp only [go_sem,h0,h1,GT hx]
    repeat' (first|(refine pK (ABT _) ?_;simp only [go_sem,h0,h1,hw,GT hx])|(first|apply cS|apply gS)<;>intro hc<;>simp only [go_sem,hc,h0,h1,hw,GT hx])
    all_goals first
     | rfl
     | (simp only [IT,Ak,Aw];rfl)
     | grind [IT]
     | (simp only [IT,Ak,Aw];grind)
     | (simp [IT,Ak,Aw, *];done)
     | (simp_all [IT,Ak,Aw];done)
     | skip
   ·intro hF2 hlt2
    simp only [go_sem,hlt2,dF]
    repeat' (first|(first|apply cS|apply gS)<;>intro hc<;>simp only [go_sem,hc])
    all_goals first
     | rfl
     | (simp only [IT,Ak,Aw];rfl)
     | grind [IT]
     | (simp only [IT,Ak,Aw];grind)
     | (simp [IT,Ak,Aw, *];done)
     | (simp_all [IT,Ak,Aw];done)
     | skip
def kH(k:Int):AV:=.tup [.int .i64 (Vj k 0),.bool (decide (0<=k))]
theorem aE(s:Ey)(nm:ByteArray)(hl:s.tenants.length<=1073741824):FO AA 165 [.agg s.c,.str nm] (kH (Hn s nm)):=by
 refine pC ANL rfl ?_
 simp only [f165,go_sem,FL]
 refine FZ s.tenants (λr=>HF (λt:Ez=>decide (t.name=nm)) (s.tenants.length - r.length) r) (λk=>[(1,.str nm),(2,.ptr 0 0),(6,.int .i64 k)]) FM rfl ?_ ?_
 ·intro k y ys hd hx hF h0 h1 hw
  have hk2:=Fl hd
  have e1:s.tenants.length - (ys.length+1)=k:=FM
  have e2:s.tenants.length - ys.length=k+1:=FM
  simp only [AC,e1,AQ] at hF
  simp only [go_sem,h0,h1,Fq hx,FL,e1,e2]
  repeat' (first|(first|apply cS|apply gS)<;>intro hc<;>simp only [go_sem,hc,h0,h1,hw,Fq hx,FL,e1,e2])
  ·have h2:Hn s nm=(k:Int):=by rw [Hn,H9,hF,HF,iP hc]
   rw [h2]
   have h3:Vj (k:Int) 0=k:=by unfold Vj;split<;>omega
   rw [kH,h3,decide_eq_true h0]
  ·rw [HF,iN (by rw [hc];decide)]
 ·intro hF hlt
  simp only [go_sem,hlt,dF]
  rw [AQ] at hF
  have h2:Hn s nm = -1:=by rw [Hn,H9,hF];rfl
  rw [h2];rfl
theorem pi(t:Ez)(n:Int):FO AA 166 [.agg t.c,.int .i64 n] (.bool (dL t n)):=by
 refine pC ANI rfl ?_
 by_cases h:0<=n/\n<(t.ports.length:Int)
 ·obtain ⟨h0,h1⟩:=h
  obtain ⟨x,hx⟩ : ∃ x,t.ports[n.toNat]? =some x:=⟨_,AL FM⟩
  have hg:=GR hx
  have he:Om t n=x.edge:=by simp [Om,hx]
  simp only [f166,go_sem,h0,h1,hg]
  repeat' (first|(first|apply cS|apply gS)<;>intro hc<;>simp only [go_sem,hc,h0,h1,hg])
  all_goals (rw [dL,he];simp [h0,h1])
 ·simp only [f166,go_sem]
  repeat' (first|(first|apply cS|apply gS)<;>intro hc<;>simp only [go_sem,hc])
  all_goals first|(simp only [dL];grind)|skip
theorem qS{s:Ey}{k:Nat}{t:Ez}(h:s.tenants[k]? =some t):Lh s (k:Int)=t:=by simp [Lh,h]
theorem ARZ(s:Ey)(k:Nat)(t:Ez)(hk:s.tenants[k]? =some t)(hl:xO s.fields)(hs:FP s.c<=1073741824)(hb:FP t.c<=1048576)(hn:s.tenants.length<=1073741824):FO AA 90 [.agg s.c,.int .i64 k] (.int .i64 (Q5 s k t)) := by
  have hkl:k<s.tenants.length := (AD.1 hk).1
  have hw1:t.wires.length<=1073741824 := AK (OS (IW hb)) dc
  have hp1:t.ports.length<=1048576 := eH (Nw hb)
  have hk1 := Fq hk
  have hk2:(k:Int)<(s.tenants.length:Int) := by omega
  have hk3:(0:Int)<=(k:Int) := by omega
  have hbw : ∀ x∈t.program,FP (HD t x.policy).c<=1073741824 := λx hx=>Yu (by
    have h1 := KR (HV hb) hx
    have h2:FP x.c<=1048576 := by simpa only [AV.bulk] using h1
    exact Ho h2) (AK (OS (IW hb)) (Nat.le_refl _))
  have hpg:t.program.length<=1073741824 := AK (Mm (HV hb)) dc
  have q1 := ARo s t hl hs (AK hb dc)
  have q2 := ADU t hw1 hpg hbw
  have htk:(s.tenants.take k).length=k := by rw [List.length_take];omega
  refine pC AUy rfl ?_
  cases q3:(Jr s t !=0) with
  | true =>
    simp only [f90,go_sem,hk1,hk2,hk3]
    repeat' (first|((first|refine pK (q1) ?_|refine pK (q2) ?_);simp only [go_sem,hk1,hk2,hk3,q3])|(first|apply cS|apply gS)<;>intro hc<;>simp only [go_sem,hc,hk1,hk2,hk3,q3])
    rw [Q5,iP (by simpa using q3)]
  | false =>
  cases q4:((GP t).2 !=0) with
  | true =>
    simp only [f90,go_sem,hk1,hk2,hk3]
    repeat' (first|((first|refine pK (q1) ?_|refine pK (q2) ?_);simp only [go_sem,hk1,hk2,hk3,q3,q4])|(first|apply cS|apply gS)<;>intro hc<;>simp only [go_sem,hc,hk1,hk2,hk3,q3,q4])
    rw [Q5,iN (by simpa using q3),iP (by simpa using q4)]
  | false =>
  rcases Nat.eq_zero_or_pos k with hz|hz
  · have hgt:decide ((0:Int)<(k:Int))=false := decide_eq_false FM
    have q5:YL s k t=false := by unfold YL;simp [hz]
    simp only [f90,go_sem,hk1,hk2,hk3]
    repeat' (first|((first|refine pK (q1) ?_|refine pK (q2) ?_);simp only [go_sem,hk1,hk2,hk3,q3,q4,hgt])|(first|apply cS|apply gS)<;>intro hc<;>simp only [go_sem,hc,hk1,hk2,hk3,q3,q4,hgt])
    refine FZ t.ports (λr=>r.any λp=>(s.tenants.take k).any λu=>decide (0<=p.edge)&&decide (0<=IG u p.edge)) (λi=>[(1,.int .i64 k),(2,.ptr 0 0),(5,.ptr 1 0),(9,.int .i64 i)]) FM rfl ?_ ?_
    · intro i y ys hd hy hF h0 h1 hw
      have hy2 := GR hy
      simp only [go_sem,h0,h1,hy2]
      refine FZ (s.tenants.take k) (λr=>r.any λu=>decide (0<=y.edge)&&decide (0<=IG u y.edge)) (λj=>[(1,.int .i64 k),(2,.ptr 0 0),(5,.ptr 1 0),(9,.int .i64 i),(10,.int .i64 j)]) FM rfl ?_ ?_
      · intro j u us hd3 hu3 hF3 g0 g1 gw
        have g1':(j:Int)<(k:Int) := by omega
        have hu4:s.tenants[j]? =some u := by
          rw [Aj] at hu3
          split at hu3
          · exact hu3
          · cases hu3
        have hu5 := Fq hu4
        simp only [go_sem,g0,g1',hy2,h0,hu5]
        repeat' (first|(refine pK (gV u y.edge) ?_;simp only [go_sem,h0,h1,hy2,g0,g1',gw,hu5])|(first|apply cS|apply gS)<;>intro hc<;>simp only [go_sem,hc,h0,h1,hy2,g0,g1',gw,hu5])
        all_goals first
          | (have e1:JU s k t=true := by
               unfold JU;rw [hF,Au,hF3,Au]
               simp_all
             simp only [decide_eq_true_eq] at *
             rw [Q5,iN (by simpa using q3),iN (by simpa using q4),iN (by rw [q5];decide),iP e1])
          | (rw [Au];simp_all;done)
          | skip
      · intro hF3 hlt
        have hlt2 : ¬ ((s.tenants.take k).length:Int)<(k:Int) := by omega
        simp only [go_sem,hlt2,dF,hw]
        have hF4:((s.tenants.take k).any λu=>decide (0<=y.edge)&&decide (0<=IG u y.edge))=false := hF3
        rw [hF4];rfl
    · intro hF hlt
      simp only [go_sem,hlt,dF]
      have e1:JU s k t=false := by unfold JU;rw [hF];rfl
      rw [Q5,iN (by simpa using q3),iN (by simpa using q4),iN (by rw [q5];decide),iN (by rw [e1];decide)]
  · obtain ⟨u,hu⟩ : ∃ u,s.tenants[k - 1]? =some u := ⟨_,AL FM⟩
    have hgt:decide ((0:Int)<(k:Int))=true := decide_eq_true FM
    have hw1:IntKind.i64.wrap ((k:Int) - 1)=((k - 1:Nat):Int) := by rw [OD FM FM];omega
    have hw0:(0:Int)<=((k - 1:Nat):Int) := by omega
    have hu2 := Fq hu
    have hu3:Lh s ((k:Int) - 1)=u := by
      have:((k:Int) - 1)=((k - 1:Nat):Int) := by omega
      rw [this];exact qS hu
    cases q5:YL s k t with
    | true =>
      have q6:(!Op.bytesLess u.name.toList t.name.toList)=true := by
        unfold YL at q5;rw [hu3] at q5;simp only [AR] at q5;exact q5.2
      simp only [f90,go_sem,hk1,hk2,hk3]
      repeat' (first|((first|refine pK (q1) ?_|refine pK (q2) ?_);simp only [go_sem,hk1,hk2,hk3,q3,q4,hgt,hw1,hw0,hu2,q6])|(first|apply cS|apply gS)<;>intro hc<;>simp only [go_sem,hc,hk1,hk2,hk3,q3,q4,hgt,hw1,hw0,hu2,q6])
      all_goals first|(rw [Q5,iN (by simpa using q3),iN (by simpa using q4),iP q5])|skip
    | false =>
      have q6:(!Op.bytesLess u.name.toList t.name.toList)=false := by
        unfold YL at q5;rw [hu3] at q5;simp only [Bool.and_eq_false_iff,decide_eq_false_iff_not] at q5
        exact q5.resolve_left FM
      simp only [f90,go_sem,hk1,hk2,hk3]
      repeat' (first|((first|refine pK (q1) ?_|refine pK (q2) ?_);simp only [go_sem,hk1,hk2,hk3,q3,q4,hgt,hw1,hw0,hu2,q6])|(first|apply cS|apply gS)<;>intro hc<;>simp only [go_sem,hc,hk1,hk2,hk3,q3,q4,hgt,hw1,hw0,hu2,q6])
      refine FZ t.ports (λr=>r.any λp=>(s.tenants.take k).any λu=>decide (0<=p.edge)&&decide (0<=IG u p.edge)) (λi=>[(1,.int .i64 k),(2,.ptr 0 0),(5,.ptr 1 0),(9,.int .i64 i)]) FM rfl ?_ ?_
      · intro i y ys hd hy hF h0 h1 hw
        have hy2 := GR hy
        simp only [go_sem,h0,h1,hy2]
        refine FZ (s.tenants.take k) (λr=>r.any λu=>decide (0<=y.edge)&&decide (0<=IG u y.edge)) (λj=>[(1,.int .i64 k),(2,.ptr 0 0),(5,.ptr 1 0),(9,.int .i64 i),(10,.int .i64 j)]) FM rfl ?_ ?_
        · intro j u us hd3 hu3 hF3 g0 g1 gw
          have g1':(j:Int)<(k:Int) := by omega
          have hu4:s.tenants[j]? =some u := by
            rw [Aj] at hu3
            split at hu3
            · exact hu3
            · cases hu3
          have hu5 := Fq hu4
          simp only [go_sem,g0,g1',hy2,h0,hu5]
          repeat' (first|(refine pK (gV u y.edge) ?_;simp only [go_sem,h0,h1,hy2,g0,g1',gw,hu5])|(first|apply cS|apply gS)<;>intro hc<;>simp only [go_sem,hc,h0,h1,hy2,g0,g1',gw,hu5])
          all_goals first
            | (have e1:JU s k t=true := by
                 unfold JU;rw [hF,Au,hF3,Au]
                 simp_all
               simp only [decide_eq_true_eq] at *
               rw [Q5,iN (by simpa using q3),iN (by simpa using q4),iN (by rw [q5];decide),iP e1])
            | (rw [Au];simp_all;done)
            | skip
        · intro hF3 hlt
          have hlt2 : ¬ ((s.tenants.take k).length:Int)<(k:Int) := by omega
          simp only [go_sem,hlt2,dF,hw]
          have hF4:((s.tenants.take k).any λu=>decide (0<=y.edge)&&decide (0<=IG u y.edge))=false := hF3
          rw [hF4];rfl
      · intro hF hlt
        simp only [go_sem,hlt,dF]
        have e1:JU s k t=false := by unfold JU;rw [hF];rfl
        rw [Q5,iN (by simpa using q3),iN (by simpa using q4),iN (by rw [q5];decide),iN (by rw [e1];decide)]
theorem Q4{s:Ey}{nm:ByteArray}(h:0<=Hn s nm): ∃ t,s.tenants[(Hn s nm).toNat]? =some t/\t.name=nm/\Lh s (Hn s nm)=t/\Hn s nm<(s.tenants.length:Int):=by
 rcases l6 (λt:Ez=>decide (t.name=nm)) s.tenants with ⟨h1,_⟩|⟨j,x,h1,h2,h3,h4,_⟩
 ·unfold Hn at h;omega
 ·have h5:Hn s nm=(j:Int):=h4
  rw [h5]
  exact ⟨x,by simpa using h2,by simpa using h3,by simp [Lh,h2],FM⟩
theorem pI{k:Int}(h:0<=k):Vj k 0=k:=by unfold Vj;split<;>omega
theorem ARi(s:Ey)(c:E1)(hl:xO s.fields)(hb:FP c.c<=1073741824)(hn:s.tenants.length<=1073741824):FO AA 91 [.agg s.c,.agg c.c] (.int .i64 (Sf s c)):=by
 have q1:=aE s c.src hn
 have q2:=aE s c.dst hn
 simp only [kH] at q1 q2
 refine pC AUv rfl ?_
 by_cases ha:0<=Hn s c.src
 ·by_cases hd:0<=Hn s c.dst
  ·obtain ⟨a,ha1,_,ha2,ha3⟩:=Q4 ha
   obtain ⟨b,hb1,_,hb2,hb3⟩:=Q4 hd
   have ha4:=Fq ha1
   have hb4:=Fq hb1
   rw [pI ha,decide_eq_true ha] at q1
   rw [pI hd,decide_eq_true hd] at q2
   have q3:=pi a c.fromPort
   have q4:=pi b c.toPort
   have q5:=ABX s.fields c.pred hl (S1 hb)
   have e0 : ¬ (Hn s c.src<0\/Hn s c.dst<0):=FM
   rw [Sf,iN e0,ha2,hb2]
   by_cases hv:0<=c.via/\c.via<(s.network.nodes.length:Int)
   ·obtain ⟨nd,hnd⟩ : ∃ nd,s.network.nodes[c.via.toNat]? =some nd:=⟨_,AL FM⟩
    have hnd2:=Mq hnd
    have hbx:ABg s c.via=nd.box:=by simp [ABg,hnd]
    have hv0:=hv.1
    simp only [f91,go_sem]
    repeat' (first|((first|refine pK (q1) ?_|refine pK (q2) ?_|refine pK (q3) ?_|refine pK (q4) ?_|refine pK (q5) ?_);simp only [go_sem,ha,hd,ha4,hb4,hnd2,hv0])|(first|apply cS|apply gS)<;>intro hc<;>simp only [go_sem,hc,ha,hd,ha4,hb4,hnd2,hv0])
    all_goals first|(simp only [AGa,hbx];grind)|skip
   ·simp only [f91,go_sem]
    repeat' (first|((first|refine pK (q1) ?_|refine pK (q2) ?_|refine pK (q3) ?_|refine pK (q4) ?_|refine pK (q5) ?_);simp only [go_sem,ha,hd,ha4,hb4])|(first|apply cS|apply gS)<;>intro hc<;>simp only [go_sem,hc,ha,hd,ha4,hb4])
    all_goals first|(simp only [AGa];grind)|skip
  ·rw [decide_eq_false hd] at q2
   simp only [f91,go_sem]
   repeat' (first|((first|refine pK (q1) ?_|refine pK (q2) ?_);simp only [go_sem])|(first|apply cS|apply gS)<;>intro hc<;>simp only [go_sem,hc])
   all_goals first|(rw [Sf,iP FM])|skip
 ·rw [decide_eq_false ha] at q1
  simp only [f91,go_sem]
  repeat' (first|((first|refine pK (q1) ?_|refine pK (q2) ?_);simp only [go_sem])|(first|apply cS|apply gS)<;>intro hc<;>simp only [go_sem,hc])
  all_goals first|(rw [Sf,iP FM])|skip
def Nh(l:List Bool):List AV:=l.map .bool
theorem WF(l:List Bool):(Nh l).length=l.length:=by simp [Nh]
theorem hO{l:List Bool}{i:Nat}{b:Bool}(h:l[i]? =some b):(Nh l)[i]? =some (.bool b):=by simp [Nh,h]
theorem AB2{l:List Bool}{i:Nat}(h:i<l.length)(b:Bool):splice (Nh l) i [.bool b]=Nh (l.set i b):=by
 apply List.ext_getElem?
 intro j
 have hl:=WF l
 rw [JY (by simp;omega)]
 simp only [Nh,List.getElem?_map,List.getElem?_set,List.length_singleton]
 by_cases hj:i<=j/\j<i+1
 ·have:j=i:=FM
  subst this
  rw [iP hj,iP rfl,iP h];simp
 ·rw [iN hj,iN FM]
@[go_sem] theorem ATd(l:List Bool):FQ (Nh l)=true:=by
 induction l with
 | nil=>rfl
 | cons b l ih=>exact ih
theorem nO(l:List Bool):IV false 1 l.length ((Nh l).map borrow1)=Nh l:=by
 induction l with
 | nil=>rfl
 | cons b l ih =>
  show AV.bool b::IV false 1 l.length ((Nh l).map borrow1)=AV.bool b::Nh l
  rw [ih]
theorem AB3(n:Nat):(A5 n [AV.bool false]).flatten=Nh (A5 n false):=by
 induction n with
 | zero=>rfl
 | succ n ih=>rw [Cm,List.flatten_cons,ih];rfl
def ma(l:List Bool):Nat:=(l.filter id).length
theorem pZ(l:List Bool):ma l<=l.length:=List.length_filter_le _ _
theorem ABG{l:List Bool}{i:Nat}(h:l[i]? =some false):ma (l.set i true)=ma l+1:=by
 induction l generalizing i with
 | nil=>simp at h
 | cons b l ih =>
  cases i with
  | zero=>simp at h;subst h;simp [ma]
  | succ i =>
   have:=ih (i:=i) (by simpa using h)
   simp only [List.set_cons_succ,ma,List.filter_cons] at this ⊢
   split<;>simp_all
theorem ABH(n:Nat):ma (A5 n false)=0:=by
 induction n with
 | zero=>rfl
 | succ n ih=>rw [Cm];exact ih
def rOk(s:Ey)(x:List Bool×List Int):Prop:=x.1.length=s.tenants.length/\x.2.length=1+ma x.1 /\ ∀ a∈x.2,0<=a/\a<(s.tenants.length:Int)
theorem wG(s:Ey)(k:Nat)(hk:k<s.tenants.length)(hn:s.tenants.length<=1048576)(hc:s.contracts.length<=1048576)(hf : ∀ c∈s.contracts,0<=Hn s c.dst):FO AA 92 [.agg s.c,.int .i64 k] (.sl none (Nh (rch s k))):=by
 refine pB AUr rfl ?_
 have hz:Fg AA 4=some (.bool false):=kr
 have n0:(s.tenants.length:Int)*((1:Nat):Int)<=140737488355328:=FM
 simp only [f92,go_sem]
 refine ⟨FM,n0,FM, ?_⟩
 refine Kj (σ:=Nat×List Bool×List Int) (λx=>[(2,.ptr 0 0),(5,.msl 1 0 s.tenants.length 1),(6,.sl (some 1) (GH x.2.2)),(7,.int .i64 x.1)]) (λx=>[some s.c,some (Nh x.2.1)])
  (λx=>x.1<=x.2.2.length/\rOk s x.2/\rch s k=Ur s (s.tenants.length+2 - x.1) x.1 x.2) (λx=>s.tenants.length+2 - x.1) (0,A5 s.tenants.length false,[(k:Int)])
  ⟨Nat.zero_le _,⟨sm,by rw [ABH];rfl,λa ha=>by rcases Al.1 ha with rfl;omega⟩,rfl⟩ rfl (by rw [AB3]) ?_
 rintro ⟨i,seen,q⟩ ⟨hi,hR,hE⟩
 have hq:=hR.2.1
 have hcn:=pZ seen
 have hsl:=hR.1
 simp only at hi hq hcn hsl
 by_cases hlt:i<q.length
 ·obtain ⟨a,ha⟩ : ∃ a,q[i]? =some a:=⟨_,AL hlt⟩
  obtain ⟨ha0,ha1⟩:=hR.2.2 a (AB ha)
  obtain ⟨u,hu⟩ : ∃ u,s.tenants[a.toNat]? =some u:=⟨_,AL FM⟩
  have hu2:=Fq hu
  have hu3:Lh s a=u:=by simp [Lh,hu]
  have hlt2:(i:Int)<(q.length:Int):=FM
  have hw:=Mc (k:=i) FM
  have hi0:(0:Int)<=(i:Int):=FM
  simp only [go_sem,hlt2]
  refine Fo s.contracts (λx r=>ZJ s u.name r x) (λ_ x=>rOk s x/\x.2[i]? =some a) (λj x=>[(2,.ptr 0 0),(5,.msl 1 0 s.tenants.length 1),(6,.sl (some 1) (GH x.2)),(7,.int .i64 i),(8,.int .i64 j)]) (λj x=>[some s.c,some (Nh x.1)]) (seen,q) FM ⟨hR,ha⟩ rfl rfl ?_ ?_
  ·rintro j ⟨sn,p⟩ c cs hd hcx ⟨hRx,hax⟩ hF g0 g1 gw
   have hcm:=AB hcx
   have hc2:=GT hcx
   have ht0:=hf c hcm
   obtain ⟨v,hv1,_,_,hv4⟩:=Q4 ht0
   obtain ⟨m,hm⟩ : ∃ m:Nat,Hn s c.dst=(m:Int):=⟨(Hn s c.dst).toNat,FM⟩
   have q1:=aE s c.dst FM
   rw [kH,pI ht0,decide_eq_true ht0,hm] at q1
   have hm1:m<sn.length:=by rw [hRx.1];omega
   have hm2:(m:Int)<(s.tenants.length:Int):=FM
   have hm0:(0:Int)<=(m:Int):=FM
   obtain ⟨b,hb⟩ : ∃ b,sn[m]? =some b:=⟨_,AL hm1⟩
   have hb2:=hO hb
   have hp2:=GF hax
   have hst:=AB2 hm1 true
   have hpl:(GH p).length=p.length:=HO p
   have hrl:=WF sn
   have hq2:=hRx.2.1
   have hcn2:=pZ sn
   simp only at hq2 hcn2
   have hsn:=hRx.1
   simp only at hsn
   have hm3:(m+1<=sn.length)=True:=eq_true FM
   simp only [go_sem,g0,g1,hc2,hi0,hp2,ha0,hu2,hm0,hm2,hb2,hst,hrl,FL]
   repeat' (first|(refine pK (q1) ?_;simp only [go_sem,g0,g1,hc2,hi0,hp2,ha0,hu2,hm0,hm2,hb2,hst,hrl,FL,gw,hm3])|(first|apply cS|apply gS)<;>intro hc<;>simp only [go_sem,hc,g0,g1,hc2,hi0,hp2,ha0,hu2,hm0,hm2,hb2,hst,hrl,FL,gw,hm3])
   ·have hb3:b=false:=by simpa using hc
    subst hb3
    rename_i hc1
    refine ⟨FM,FM,(sn.set m true,p++[(m:Int)]), ?_,⟨⟨by simpa using hsn,by rw [ABG hb];simp;omega, ?_⟩, ?_⟩, ?_⟩
    ·rw [ZJ,iP ⟨by simpa using hc1,by rw [hm];simp [hb]⟩,hm,pI hm0];simp
    ·intro z hz
     rcases List.mem_append.1 hz with hz|hz
     ·exact hRx.2.2 z hz
     ·rcases Al.1 hz with rfl;exact ⟨hm0,hm2⟩
    ·rw [AW (AD.1 hax).1];exact hax
    ·exact ⟨rfl,rfl⟩
   ·have hb3:b=true:=by simpa using hc
    subst hb3
    exact ⟨(sn,p),by rw [ZJ,iN (by rw [hm];simp [hb])],⟨hRx,hax⟩,rfl,rfl⟩
   ·rename_i hc1
    exact ⟨(sn,p),by rw [ZJ,iN (λh=>by simp [h.1] at hc)],⟨hRx,hax⟩,rfl,rfl⟩
  ·rintro ⟨sn,p⟩ ⟨hRx,hax⟩ hF
   simp only [go_sem,AY,dF,hw]
   have hF':ZJ s u.name s.contracts (seen,q)=(sn,p):=hF
   have e2:s.tenants.length+2 - i=(s.tenants.length+2 - (i+1))+1:=FM
   have hpi:=(AD.1 hax).1
   simp only at hpi
   refine ⟨(i+1,sn,p),⟨by simp only;omega,hRx, ?_⟩,by simp only;omega,rfl,rfl⟩
   rw [hE]
   simp only
   rw [e2,Ur]
   simp only [ha]
   rw [hu3,hF']
 ·have hlt2 : ¬ (i:Int)<(q.length:Int):=FM
  have hfr:(s.tenants.length<=(Nh seen).length/\(False\/True))=True:=eq_true ⟨by rw [WF];omega,.inr trivial⟩
  have hch:IV false 1 s.tenants.length ((Nh seen).map borrow1)=Nh seen:=by rw [<- hsl];exact nO seen
  have e2:s.tenants.length+2 - i=(s.tenants.length+1 - i)+1:=FM
  have hE2:rch s k=seen:=by
   rw [hE]
   simp only
   rw [e2,Ur]
   simp only [List.getElem?_eq_none (Nat.le_of_not_lt hlt)]
  rw [hE2]
  simp only [go_sem,hlt2,dF,hfr,hch]
theorem cW(s:Ey)(nm:ByteArray): ∀ (l:List E1) (x:List Bool×List Int),(ZJ s nm l x).1.length=x.1.length
 | [],x=>rfl
 | c::r,x=>by
  rw [ZJ,cW s nm r]
  split<;>simp
theorem YH(s:Ey): ∀ (f i:Nat) (x:List Bool×List Int),(Ur s f i x).length=x.1.length
 | 0,_,_=>rfl
 | f+1,i,x=>by
  rw [Ur]
  split
  ·rfl
  ·rw [YH s f,cW]
theorem ADQ(s:Ey)(k:Int):(rch s k).length=s.tenants.length:=by rw [rch,YH];simp
theorem Oo{s:Ey}: ∀ {l:List E1} {i:Nat},Kc s i l=none -> ∀ c∈l,Sf s c=0
 | [],_,_,c,hc=>by cases hc
 | x::r,i,h,c,hc=>by
  rw [Kc] at h
  split at h
  ·cases h
  ·rename_i hx
   rcases List.mem_cons.1 hc with rfl|hc
   ·simpa using hx
   ·exact Oo h c hc
theorem S7{s:Ey}: ∀ {l:List Ez} {i:Nat},KJ s i l=none -> ∀ (j:Nat) (t:Ez),l[j]? =some t->Q5 s (i+j) t=0
 | [],_,_,j,t,hc=>by simp at hc
 | x::r,i,h,j,t,hc=>by
  rw [KJ] at h
  split at h
  ·cases h
  ·rename_i hx
   cases j with
   | zero=>simp at hc;subst hc;simpa using hx
   | succ j =>
    have:=S7 h j t (by simpa using hc)
    rwa [show i+1+j=i+(j+1) by omega] at this
theorem RZ{s:Ey}{c:E1}(h:Sf s c=0):0<=Hn s c.src/\0<=Hn s c.dst:=by
 unfold Sf at h
 split at h
 ·cases h
 ·omega
theorem ARn(s:Ey)(hs:FP s.c<=1048576):FO AA 44 [.agg s.c] (.tup [.int .i64 (Tr s).1,.int .i64 (Tr s).2]):=by
 have hnt:s.tenants.length<=1048576:=lV (I2 hs)
 have hnc:s.contracts.length<=1048576:=NU (IL hs)
 have hs2:FP s.c<=1073741824:=AK hs dc
 have q1:=AEk s.network (M6 hs2)
 have q2:=Aak s.fields (LB hs2)
 refine pC AWj rfl ?_
 by_cases e1:I7 s.network=0
 ·by_cases e2:Oq s.fields=0
  ·have hl:xO s.fields:=λf hf=>Int.le_trans (Yq e2 f hf) dc
   have e3:(I7 s.network !=0)=false:=by simp [e1]
   have e4:(Oq s.fields !=0)=false:=by simp [e2]
   by_cases e5:64<s.tenants.length\/100<s.contracts.length
   ·have h0:Tr s=(0,2):=by unfold Tr;rw [iN (by simp [e1]),iN (by simp [e2]),iP e5]
    rw [h0]
    simp only [f44,go_sem]
    repeat' (first|((first|refine pK (q1) ?_|refine pK (q2) ?_);simp only [go_sem,e3,e4])|(first|apply cS|apply gS)<;>intro hc<;>simp only [go_sem,hc,e3,e4])
    all_goals first|rfl|(simp only [decide_eq_true_eq,decide_eq_false_iff_not] at *;omega)|skip
   ·have h0:Tr s=(match KJ s 0 s.tenants with
      | some x=>x
      | none=>match Kc s 0 s.contracts with
       | some x=>x
       | none=>(JR s 0 s.tenants).getD (0,0)):=by unfold Tr;rw [iN (by simp [e1]),iN (by simp [e2]),iN e5]<;>rfl
    have g1 : ¬ (64:Int)<(s.tenants.length:Int):=FM
    have g2 : ¬ (100:Int)<(s.contracts.length:Int):=FM
    simp only [f44,go_sem]
    repeat' (first|((first|refine pK (q1) ?_|refine pK (q2) ?_);simp only [go_sem,e3,e4,g1,g2,dF])|(first|apply cS|apply gS)<;>intro hc<;>simp only [go_sem,hc,e3,e4,g1,g2,dF])
    refine FZ s.tenants (λr=>KJ s (s.tenants.length - r.length) r) (λk=>[(1,.ptr 0 0),(5,.int .i64 k)]) FM rfl ?_ ?_
    ·intro k y ys hd hx hF k0 k1 hw
     have hk2:=Fl hd
     have d1:s.tenants.length - (ys.length+1)=k:=FM
     have d2:s.tenants.length - ys.length=k+1:=FM
     simp only [AC,d1,d2,AQ] at hF ⊢
     have hby:FP y.c<=1048576:=by have:=QS (I2 hs) (AB hx);simpa only [AV.bulk] using this
     simp only [go_sem,k0,k1]
     repeat' (first|(refine pK (ARZ s k y hx hl hs2 hby FM) ?_;simp only [go_sem,k0,k1,hw,d1,d2])|(first|apply cS|apply gS)<;>intro hc<;>simp only [go_sem,hc,k0,k1,hw,d1,d2])
     ·have h1:KJ s 0 s.tenants=some ((k:Int),Q5 s k y):=by rw [hF,KJ,iP (by simpa using hc)]
      rw [h0,h1]
     ·rw [KJ,iN (by simpa using hc)]
    ·intro hF hlt
     have hT:KJ s 0 s.tenants=none:=by rw [AQ] at hF;rw [hF];rfl
     simp only [go_sem,hlt,dF]
     refine FZ s.contracts (λr=>Kc s (s.contracts.length - r.length) r) (λk=>[(1,.ptr 0 0),(6,.int .i64 k)]) FM rfl ?_ ?_
     ·intro k y ys hd hx hF2 k0 k1 hw
      have hk2:=Fl hd
      have d1:s.contracts.length - (ys.length+1)=k:=FM
      have d2:s.contracts.length - ys.length=k+1:=FM
      simp only [AC,d1,d2,AQ] at hF2 ⊢
      have hby:FP y.c<=1073741824:=by
       have h5:=Zs (IL hs) (AB hx)
       have h6:FP y.c<=1048576:=by simpa only [AV.bulk] using h5
       exact AK h6 dc
      simp only [go_sem,k0,k1,GT hx]
      repeat' (first|(refine pK (ARi s y hl hby FM) ?_;simp only [go_sem,k0,k1,hw,d1,d2,GT hx])|(first|apply cS|apply gS)<;>intro hc<;>simp only [go_sem,hc,k0,k1,hw,d1,d2,GT hx])
      ·have h1:Kc s 0 s.contracts=some ((k:Int),Sf s y):=by rw [hF2,Kc,iP (by simpa using hc)]
       rw [h0,hT,h1]
      ·rw [Kc,iN (by simpa using hc)]
     ·intro hF2 hlt2
      have hC:Kc s 0 s.contracts=none:=by rw [AQ] at hF2;rw [hF2];rfl
      have hdst : ∀ c∈s.contracts,0<=Hn s c.dst:=λc hc=>(RZ (Oo hC c hc)).2
      simp only [go_sem,hlt2,dF]
      refine FZ s.tenants (λr=>JR s (s.tenants.length - r.length) r) (λk=>[(1,.ptr 0 0),(7,.int .i64 k)]) FM rfl ?_ ?_
      ·intro k y ys hd hx hF3 k0 k1 hw
       have hk2:=Fl hd
       have d1:s.tenants.length - (ys.length+1)=k:=FM
       have d2:s.tenants.length - ys.length=k+1:=FM
       simp only [AC,d1,d2,AQ] at hF3 ⊢
       have q3:=wG s k FM hnt hnc hdst
       have hrl:(rch s k).length=s.tenants.length:=ADQ s k
       obtain ⟨b,hb⟩ : ∃ b,(rch s k)[k]? =some b:=⟨_,AL FM⟩
       have hb2:=hO hb
       simp only [go_sem,k0,k1]
       repeat' (first|(refine pK (q3) ?_;simp only [go_sem,k0,k1,hw,d1,d2,hb2])|(first|apply cS|apply gS)<;>intro hc<;>simp only [go_sem,hc,k0,k1,hw,d1,d2,hb2])
       ·have h1:JR s 0 s.tenants=some (0,21):=by rw [hF3,JR,iP (by rw [hb];simpa using hc)]
        rw [h0,hT,hC,h1];rfl
       ·rw [JR,iN (by rw [hb];simpa using hc)]
      ·intro hF3 hlt3
       have hL:JR s 0 s.tenants=none:=by rw [AQ] at hF3;rw [hF3];rfl
       simp only [go_sem,hlt3,dF]
       rw [h0,hT,hC,hL];rfl
  ·have e3:(I7 s.network !=0)=false:=by simp [e1]
   have e4:(Oq s.fields !=0)=true:=by simp [e2]
   have h0:Tr s=(0,Oq s.fields):=by unfold Tr;rw [iN (by simp [e1]),iP e2]
   rw [h0]
   simp only [f44,go_sem]
   repeat' (first|((first|refine pK (q1) ?_|refine pK (q2) ?_);simp only [go_sem,e3,e4])|(first|apply cS|apply gS)<;>intro hc<;>simp only [go_sem,hc,e3,e4])
 ·have e3:(I7 s.network !=0)=true:=by simp [e1]
  have h0:Tr s=(0,I7 s.network):=by unfold Tr;rw [iP e1]
  rw [h0]
  simp only [f44,go_sem]
  repeat' (first|((first|refine pK (q1) ?_|refine pK (q2) ?_);simp only [go_sem,e3])|(first|apply cS|apply gS)<;>intro hc<;>simp only [go_sem,hc,e3])
theorem wF(s:Ey)(hs:FP s.c<=1048576):FO AA 15 [.agg s.c] (.bool (Ju s)):=by
 refine pC AXj rfl ?_
 simp only [f15,go_sem]
 repeat' (first|((first|refine pK (AEh s) ?_|refine pK (ARn s hs) ?_);simp only [go_sem])|(first|apply cS|apply gS)<;>intro hc<;>simp only [go_sem,hc])
 all_goals first
  | rfl
  | (simp only [Ju];rfl)
  | grind [Ju]
  | (simp only [Ju];grind)
  | (simp [Ju, *];done)
  | (simp_all [Ju];done)
  | skip
theorem yu(l:List Fld)(hl:Iy l)(hln:l.length<=9223372036854775807)(x:Pred)(hx:IE l x)(t:Int)(h:Head)(hr:FV h=true):FO AA 58 [.sl none (GL l),.agg x.c,.agg h.c,.int .i64 t] (.bool (hP l t x h)):=by
 have c1:FT AA 72 [.sl none (GL l),.int .i64 t] [some x.c,some h.c] λv H'=>v = .ptr 4 0/\H'=[some x.c,some h.c]++[some [.sl none (GL l)],some [.int .i64 t],some (Y4 2),some [.ptr 4 0]]:=AT6 l t [some x.c,some h.c]
 have hW:eY l t 3 5 2 4 ([some x.c,some h.c]++[some [.sl none (GL l)],some [.int .i64 t],some (Y4 2),some [.ptr 4 0]]):=⟨rfl,rfl,⟨none,rfl⟩,rfl⟩
 have c2:O7 AA 130 [.agg x.c,.agg h.c,.ptr 3 0,.ptr 5 0,.ptr 2 0] ([some x.c,some h.c]++[some [.sl none (GL l)],some [.int .i64 t],some (Y4 2),some [.ptr 4 0]]) (.bool (hP l t x h)):=λH2 hv=>cr l hl hln t 3 5 2 4 x hx h hr H2 (hW.view hv)
 have ho : ∀ ops,h58.ord 1 ops=(lC [6,7] ops.size).filterMap λi=>ops[i]?:=λops=>rfl
 have hI:lC [6,7] 10=[6,7,0,1,2,3,4,5,8,9]:=dc
 simp only [Y4] at c1 c2
 refine pB AWV rfl ?_
 simp only [f58,go_sem]
 rw [O1 _ _ _ (by simp only [go_sem]) rfl,ho]
 simp only [List.size_toArray,AC,List.length_nil,Nat.reduceAdd,hI,List.filterMap_cons,List.getElem?_toArray,List.getElem?_cons_succ,List.getElem?_cons_zero,List.filterMap_nil]
 simp only [go_sem]
 refine ⟨_,_,c1, ?_⟩
 simp only [go_sem]
 repeat' (first|(refine rK (c2) ?_;simp only [go_sem])|(first|apply cS|apply gS)<;>intro hc<;>simp only [go_sem,hc])
 all_goals first|rfl|skip
def kI(s:Ey)(nm:ByteArray)(h:Head)(t:Int)(c:E1):Bool:=decide (c.src=nm)&&(c.fromPort==h.h0&&hP s.fields t c.pred h)
theorem zA {H:FN} (s:Ey) (hl:Iy s.fields) (hln:s.fields.length<=9223372036854775807) (k:Nat) (u:Ez) (hu:s.tenants[k]? =some u) (h:Head) (hr:FV h=true) (t:Int) (c:E1) (hx:IE s.fields c.pred)
  (os ok oh ot:Nat) (h1:H[os]? =some (some s.c)) (h2:H[ok]? =some (some [.int .i64 k])) (h3:H[oh]? =some (some h.c)) (h4:H[ot]? =some (some [.int .i64 t])) :
  GI AA 57 [.agg c.c,.ptr os 0,.ptr ok 0,.ptr oh 0,.ptr ot 0] H (.bool (kI s u.name h t c)):=by
 refine FT.drop rfl ?_
 have g1:=A' h1
 have g2:=A' h2
 have g3:=A' h3
 have g4:=A' h4
 have q0:=q_0 H
 have hu2:=Fq hu
 have hk0:(0:Int)<=(k:Int):=FM
 refine aC AWZ rfl ?_
 simp only [f57,go_sem,g1,g2,g3,g4,q0,hu2,hk0,FL]
 repeat' (first|(refine pK (yu s.fields hl hln c.pred hx t h hr) ?_;simp only [go_sem,g1,g2,g3,g4,q0,hu2,hk0,FL])|(first|apply cS|apply gS)<;>intro hc<;>simp only [go_sem,hc,g1,g2,g3,g4,q0,hu2,hk0,FL])
 all_goals first|(simp only [kI];grind)|skip
theorem ADi(s:Ey)(hl:Iy s.fields)(hln:s.fields.length<=9223372036854775807)(hcl:s.contracts.length<=9223372036854775807)(k:Nat)(u:Ez)(hu:s.tenants[k]? =some u)(h:Head)(hr:FV h=true)(t:Int)(hx : ∀ c∈s.contracts,IE s.fields c.pred):
  FO AA 30 [.agg s.c,.int .i64 k,.agg h.c,.int .i64 t] (.int .i64 (H9 (kI s u.name h t) s.contracts)):=by
 have c1:=Tg (H:=[some s.c,some [.int .i64 k],some h.c,some [.int .i64 t]]) s.contracts hcl 57 [] [.ptr 0 0,.ptr 1 0,.ptr 2 0,.ptr 3 0] (kI s u.name h t)
  (λc hc=>zA s hl hln k u hu h hr t c (hx c hc) 0 1 2 3 rfl rfl rfl rfl)
 refine pC AXV rfl ?_
 simp only [f30,go_sem]
 repeat' (first|(refine aS (c1) ?_;simp only [go_sem])|(first|apply cS|apply gS)<;>intro hc<;>simp only [go_sem,hc])
 all_goals first|rfl|skip
theorem vr{l:List Fld}{x:Pred}(h:Tq l x=0):IE l x:=by
 unfold Tq at h
 split at h
 ·rename_i h1
  refine ⟨?_,(PU l _).1 h⟩
  unfold ckP pP at h1
  split at h1
  ·split at h1
   ·assumption
   ·cases h1
  ·rename_i h2;exact absurd h1 h2
 ·rename_i h1;exact absurd h h1
structure R19 (s:Ey):Prop where
 net:I7 s.network=0
 fld:Iy s.fields
 fld0:Oq s.fields=0
 ten : ∀ (k:Nat) (t:Ez),s.tenants[k]? =some t->Q5 s k t=0
 con : ∀ c∈s.contracts,Sf s c=0
 loop:JR s 0 s.tenants=none
theorem YD{s:Ey}(h:Ju s=true):R19 s:=by
 unfold Ju at h
 simp only [AR,beq_iff_eq] at h
 obtain ⟨_,h⟩:=h
 have l1 : ∀ {i:Nat} {r:List Ez} {x:Int×Int},KJ s i r=some x->x.2≠0:=by
  intro i r
  induction r generalizing i with
  | nil=>intro x hx;cases hx
  | cons y r ih =>
   intro x hx
   rw [KJ] at hx
   split at hx
   ·rename_i hne;cases hx;exact hne
   ·exact ih hx
 have l2 : ∀ {i:Nat} {r:List E1} {x:Int×Int},Kc s i r=some x->x.2≠0:=by
  intro i r
  induction r generalizing i with
  | nil=>intro x hx;cases hx
  | cons y r ih =>
   intro x hx
   rw [Kc] at hx
   split at hx
   ·rename_i hne;cases hx;exact hne
   ·exact ih hx
 have l3 : ∀ {i:Nat} {r:List Ez} {x:Int×Int},JR s i r=some x->x.2≠0:=by
  intro i r
  induction r generalizing i with
  | nil=>intro x hx;cases hx
  | cons y r ih =>
   intro x hx
   rw [JR] at hx
   split at hx
   ·cases hx;decide
   ·exact ih hx
 unfold Tr at h
 split at h
 ·rename_i hne;exact absurd h hne
 rename_i h1
 split at h
 ·rename_i hne;exact absurd h hne
 rename_i h2
 split at h
 ·cases h
 have hF:Oq s.fields=0:=by simpa using h2
 cases hT:KJ s 0 s.tenants with
 | some x=>rw [hT] at h;exact absurd h (l1 hT)
 | none =>
  rw [hT] at h
  cases hC:Kc s 0 s.contracts with
  | some x=>rw [hC] at h;exact absurd h (l2 hC)
  | none =>
   rw [hC] at h
   cases hL:JR s 0 s.tenants with
   | some x=>rw [hL] at h;exact absurd h (l3 hL)
   | none =>
    exact ⟨by simpa using h1,ARY hF,hF,λk t ht=>by have:=S7 hT k t ht;rwa [Nat.zero_add] at this,Oo hC,hL⟩
theorem R19.pred{s:Ey}(h:R19 s){c:E1}(hc:c∈s.contracts):IE s.fields c.pred:=by
 have h1:=h.con c hc
 unfold Sf at h1
 split at h1
 ·cases h1
 split at h1
 ·cases h1
 split at h1
 ·rename_i h2;exact absurd h1 h2
 rename_i h2
 exact vr (by simpa using h2)
theorem qp{H:FN}(t:Ez)(nm:ByteArray)(o:Nat)(ho:H[o]? =some (some [.str nm])):GI AA 60 [.agg t.c,.ptr o 0] H (.bool (decide (t.name=nm))):=by
 refine FT.drop rfl ?_
 refine aC AWN rfl ?_
 have ho' : ∀ z,(H++z)[o]? =some (some [.str nm]):=λz=>by
  have:=(AD.1 ho).1
  rw [AW this];exact ho
 simp only [f60,go_sem,ho',FL]
theorem y6(s:Ey)(nm:ByteArray)(hl:s.tenants.length<=1073741824):FO AA 32 [.agg s.c,.str nm] (kH (Hn s nm)):=by
 have c1:=Wy (H:=[some s.c,some [.str nm]]) s.tenants FM 60 [] [.ptr 1 0] (λt=>decide (t.name=nm)) (λt _=>qp t nm 1 rfl)
 refine pC AXP rfl ?_
 simp only [f32,go_sem]
 repeat' (first|(refine aS (c1) ?_;simp only [go_sem])|(first|apply cS|apply gS)<;>intro hc<;>simp only [go_sem,hc])
 all_goals first|rfl|skip
section
variable {s:Ey} {nm:ByteArray}
end
section
variable {s:Ey} (hd : ∀ c∈s.contracts,0<=Hn s c.dst)
include hd
omit hd in
omit hd in
end
end Go.AI
namespace Go.AI
open Go.Proofs
set_option maxRecDepth 50000
theorem zH(l:List Int)(hl:l.length<=1048576):FO AA 31 [.sl none (GH l)] (.sl (some 1) (GH l)):=λH =>
 dH _ (VR l) (by rw [HO];exact hl) H
def lCh(l:List (List Int)):List AV:=l.map λc => .sl none (GH c)
@[go_sem] theorem AUa(l:List (List Int)):FQ (lCh l)=true:=by
 induction l with
 | nil=>rfl
 | cons c l ih=>simp only [lCh,List.map_cons,FQ,AV.pure,Jk,Bool.true_and];exact ih
section
variable {P:Program} {t kt et:TypeId} {K:Kt} {e:Fp} {H:FN} {d:Tmp} {o:Nat} {l:List (Int×Int)}
end
@[go_sem] theorem Aam(k:Nat)(l:List Int):Fj k (GH l)=true:=GK.2 λc hc=>by
 obtain ⟨p,_,rfl⟩:=List.mem_map.1 hc;rfl
end Go.AI
namespace Go.AI
open Go.Proofs
set_option maxRecDepth 50000
theorem AG4{α:Type}{A B:List α}{k:Nat}{x y:α}(hx:A[k]? =some x)(hy:B[k]? =some y)(h : ¬ x=y): ¬ A=B:=by
 rintro rfl
 rw [hx] at hy;cases hy;exact h rfl
theorem ADK{α:Type}{A B:List α}{k:Nat}{x:α}(h:A.take k=B.take k)(hx:A[k]? =some x)(hy:B[k]? =some x):A.take (k+1)=B.take (k+1):=by
 rw [BF,BF,h,hx,hy]
theorem xu{α:Type}{A B:List α}(h:A.take A.length=B.take A.length)(hl:A.length=B.length):A=B:=by
 rw [BO,hl,BO] at h;exact h
theorem Aau{b:Bool}{p:Prop}(hb:b=true↔p)(h : ¬ p):b=false:=by
 cases b with
 | false=>rfl
 | true=>exact absurd (hb.1 rfl) h
theorem Aat{b:Bool}{p:Prop}(hb:b=true↔p)(h:p):b=true:=hb.2 h
theorem nC(a c:List Int)(b:Bool)(hb:b=true↔a=c)(ha:a.length<=1073741824):FO AA 26 [.sl none (GH a),.sl none (GH c)] (.bool b):=by
 have ea:(GH a).length=a.length:=HO a
 have ec:(GH c).length=c.length:=HO c
 refine pC AXc rfl ?_
 simp only [f26,go_sem,ea,ec]
 repeat' (first|(first|apply cS|apply gS)<;>intro hc<;>simp only [go_sem,hc,ea,ec])
 all_goals first
  | (rw [Aau hb (by rintro rfl;simp_all)];done)
  | skip
 have l0:a.length=c.length:=by simp_all;omega
 refine Fo a (λ(_:Unit) (_:List Int)=>()) (λk _=>a.take k=c.take k) (λk _=>[(0,.sl none (GH a)),(1,.sl none (GH c)),(5,.int .i64 k)]) (λ_ _=>[]) () FM rfl rfl rfl ?_ ?_
 ·intro k _ x xs hd hx hI _ h0 h1 hw
  obtain ⟨y,hy⟩ : ∃ y,c[k]? =some y:=⟨_,AL (by have:=(AD.1 hx).1;omega)⟩
  simp only [go_sem,h0,h1,ea,GF hx,GF hy]
  repeat' (first|(first|apply cS|apply gS)<;>intro hc<;>simp only [go_sem,hc,hw])
  ·have hxy : ¬ x=y:=by simpa using hc
   rw [Aau hb (λe=>AG4 hx hy hxy (by rw [e]))]
  ·have hxy:x=y:=by simpa using hc
   subst hxy
   exact ⟨(),ADK hI hx hy⟩
 ·intro _ hI _
  have hA:=xu hI FM
  simp only [go_sem,ea,AY,dF]
  rw [Aat hb hA]
end Go.AI
