/- What the specification of layer 19 checks,in plain Lean. -/
import Derived.Test.YtofajkggflobkaaGreatDoorMz
set_option linter.unusedSimpArgs false
set_option linter.unusedVariables false
set_option maxHeartbeats 4000000
open Go.Proofs.Tryz
open Go.AI renaming Setup->Ez,Tenant->E1,Contract->E3
open Bool renaming and_eq_true->AQ
open Int renaming lt_irrefl->AW,toNat_natCast->Aa
open List renaming all_cons->Al,all_nil->Ay,any_cons->Au,append_assoc->AE,cons_append->AR,drop_drop->A8,filter_cons->DR,getElem?_append_left->AT,getElem?_cons_zero->A7,getElem?_eq_getElem->AL,getElem?_eq_some_iff->AC,getElem?_of_mem->Af,getElem?_set->Aw,getElem?_take->Ak,length_append->AF,length_cons->AD,length_nil->AH,length_take->BC,mem_append->As,mem_cons->AX,mem_of_getElem?->AB,mem_singleton->Ac,nil_append->AN,replicate->A4,replicate_succ->Ck
open Nat renaming add_sub_cancel_left->A0,le_trans->AK,sub_self->AO,zero_add->AY
open Go.Proofs.Tryz renaming prog->AA
namespace Go.AI
section
variable {P:Program} {t:TypeId} {x y:ByteArray} {d:Tmp} {K:Kt} {e:Fs} {H:FP}
@[go_sem] theorem AVE:JF P .geq t (.str x) (.str y) d K e H=K ((d,.bool !(Op.bytesLess x.toList y.toList))::e) H:=by rw [O7];simp [KE]
@[go_sem] theorem AVD:JF P .gtr t (.str x) (.str y) d K e H=K ((d,.bool !(Op.bytesLess x.toList y.toList||x.toList==y.toList))::e) H:=by rw [O7];simp [KE]
end
def IY(s:Ez):Bool :=
 nL s.network 20 40 20&&(decide ((s.fields.length:Int)<=20)&&(decide ((s.tenants.length:Int)<=8)&&(decide ((s.contracts.length:Int)<=12)&&(s.tenants.all L0&&s.contracts.all λc=>Xk c.pred))))
def GO(s:Ez)(nm:ByteArray):Int:=H8 (λt:E1=>decide (t.name=nm)) s.tenants
def HL(s:Ez)(k:Int):E1:=(s.tenants[k.toNat]?).getD Tenant.z
theorem ft{α:Type}(p:α->Bool): ∀ (l:List α) (i:Nat),HN p i l = -1 \/ ∃ j x,l[j]? =some x/\p x=true/\HN p i l=((i+j:Nat):Int) /\ ∀ m y,m<j->l[m]? =some y->p y=false
 | [],i => .inl rfl
 | x::l,i=>by
  rw [HN]
  cases h:p x with
  | true=>exact .inr ⟨0,x,rfl,h,sm,λm y hm=>FO⟩
  | false =>
   rcases ft p l (i+1) with h1|⟨j,y,h1,h2,h3,h4⟩
   ·exact .inl (by simpa using h1)
   ·refine .inr ⟨j+1,y,h1,h2,by rw [iN sm,h3];congr 1;omega,λm z hm hz=>?_⟩
    cases m with
    | zero=>simp at hz;subst hz;exact h
    | succ m=>exact h4 m z FO (by simpa using hz)
theorem mi{α:Type}(p:α->Bool)(l:List α):(H8 p l = -1 /\ ∀ y∈l,p y=false) \/ ∃ (j:Nat) (x:α),j<l.length/\l[j]? =some x/\p x=true/\H8 p l=(j:Int) /\ ∀ (m:Nat) (y:α),m<j->l[m]? =some y->p y=false:=by
 rcases ft p l 0 with h|⟨j,x,h1,h2,h3,h4⟩
 ·refine .inl ⟨h,λy hy=>?_⟩
  have h2:=PZ p l 0
  rw [h] at h2
  have h3:l.any p=false:=by rw [<- h2];rfl
  rw [List.any_eq_false] at h3
  simpa using h3 y hy
 ·exact .inr ⟨j,x,(AC.1 h1).1,h1,h2,by unfold H8;rw [h3];simp,h4⟩
def JW(s:Ez)(k:Nat)(t:E1):Bool:=t.ports.any λp=>(s.tenants.take k).any λu=>decide (0<=p.edge)&&decide (0<=IM u p.edge)
def Ym(s:Ez)(k:Nat)(t:E1):Bool:=decide (0<k) && !TV (HL s ((k:Int) - 1)).name t.name
def RE(s:Ez)(k:Nat)(t:E1):Int :=
 if Jh s t≠0 then Jh s t else if (Gf t).2≠0 then (Gf t).2 else if Ym s k t=true then 4 else if JW s k t=true then 10 else 0
def KO(s:Ez):Nat->List E1->Option (Int×Int)
 | _,[]=>none
 | k,t::r=>if RE s k t≠0 then some ((k:Int),RE s k t) else KO s (k+1) r
def eN(t:E1)(n:Int):Bool:=decide (0<=n)&&(decide (n<(t.ports.length:Int))&&decide (0<=MZ t n))
def ACr(s:Ez)(n:Int):Bool:=((s.network.nodes[n.toNat]?).map (·.box)).getD false
def AHp(s:Ez)(c:E3):Bool :=
 decide (-1<=c.via)&&(decide (c.via<(s.network.nodes.length:Int))&&((decide (c.via<0)||ACr s c.via)&&(decide (0<=c.capacity)&&(decide (c.capacity<=1048576)&&(decide (0<=c.price)&&decide (c.price<=1000))))))
def Sx(s:Ez)(c:E3):Int :=
 if GO s c.src<0\/GO s c.dst<0 then 9
 else if GO s c.src=GO s c.dst\/eN (HL s (GO s c.src)) c.fromPort=false\/eN (HL s (GO s c.dst)) c.toPort=false then 1
 else if T8 s.fields c.pred≠0 then T8 s.fields c.pred
 else if AHp s c=false then 1 else 0
def Kh(s:Ez):Nat->List E3->Option (Int×Int)
 | _,[]=>none
 | k,c::r=>if Sx s c≠0 then some ((k:Int),Sx s c) else Kh s (k+1) r
def K4(s:Ez)(nm:ByteArray):List E3->List Bool×List Int->List Bool×List Int
 | [],x=>x
 | c::r,x=>K4 s nm r (if c.src=nm/\(x.1[(GO s c.dst).toNat]?).getD true=false then (x.1.set (GO s c.dst).toNat true,x.2++[Qi (GO s c.dst) 0]) else x)
def Mp(s:Ez):Nat->Nat->List Bool×List Int->List Bool
 | 0,_,x=>x.1
 | f+1,i,x=>match x.2[i]? with
  | none=>x.1
  | some a=>Mp s f (i+1) (K4 s (HL s a).name s.contracts x)
def kX(s:Ez)(k:Int):List Bool:=Mp s (s.tenants.length+2) 0 (A4 s.tenants.length false,[k])
def Ih(s:Ez):Nat->List E1->Option (Int×Int)
 | _,[]=>none
 | k,_::r=>if ((kX s k)[k]?).getD true=true then some (0,21) else Ih s (k+1) r
def T9(s:Ez):Int×Int :=
 if JC s.network≠0 then (0,JC s.network) else if O1 s.fields≠0 then (0,O1 s.fields)
 else if 64<s.tenants.length\/100<s.contracts.length then (0,2)
 else match KO s 0 s.tenants with
  | some x=>x
  | none=>match Kh s 0 s.contracts with
   | some x=>x
   | none=>(Ih s 0 s.tenants).getD (0,0)
def Jy(s:Ez):Bool:=IY s&&(T9 s).2==0
end Go.AI
namespace Go.AI
open Go.Proofs
set_option maxRecDepth 50000
theorem Tz {H:FP} (l:List E3) (hl:l.length<=9223372036854775807) (g:FuncId) (fi ca:List AV) (p:E3->Bool)
  (h : ∀ x∈l,GK AA g (fi.map AV.borrow++(.agg x.c::ca.map AV.borrow)) H (.bool (p x))) :
  GK AA 56 [.sl none (GY l),.fn (.func g) fi ca] H (.int .i64 (H8 p l)):=by
 unfold GK
 refine aC AXe rfl ?_
 simp only [f56,go_sem]
 refine Fa l (λr=>HN p (l.length - r.length) r) (λk=>[(0,.sl none (GY l)),(1,.fn (.func g) fi ca),(7,.int .i64 l.length),(8,.int .i64 k)]) hl rfl ?_ ?_
 ·intro k x xs hd hx hF h0 h1 hw
  have hk2:=Fl hd
  have e1:l.length - (xs.length+1)=k:=FO
  have e2:l.length - xs.length=k+1:=FO
  simp only [AD,e1,AO] at hF
  simp only [go_sem,h0,h1,GL hx,e1,e2]
  repeat' (first|(refine aS (h x (AB hx)) ?_;simp only [go_sem,h0,h1,hw,GL hx,e1,e2])|(first|apply cS|apply gS)<;>intro hc<;>simp only [go_sem,hc,h0,h1,hw,GL hx,e1,e2])
  ·rw [H8,hF,HN,iP hc]
  ·rw [HN,iN (by rw [hc];decide)]
 ·intro hF hlt
  simp only [go_sem,hlt,dF]
  rw [AO] at hF
  rw [H8,hF];rfl
theorem XN {H:FP} (l:List E1) (hl:l.length<=9223372036854775807) (g:FuncId) (fi ca:List AV) (p:E1->Bool)
  (h : ∀ x∈l,GK AA g (fi.map AV.borrow++(.agg x.c::ca.map AV.borrow)) H (.bool (p x))) :
  GK AA 59 [.sl none (HQ l),.fn (.func g) fi ca] H (.int .i64 (H8 p l)):=by
 unfold GK
 refine aC AXS rfl ?_
 simp only [f59,go_sem]
 refine Fa l (λr=>HN p (l.length - r.length) r) (λk=>[(0,.sl none (HQ l)),(1,.fn (.func g) fi ca),(7,.int .i64 l.length),(8,.int .i64 k)]) hl rfl ?_ ?_
 ·intro k x xs hd hx hF h0 h1 hw
  have hk2:=Fl hd
  have e1:l.length - (xs.length+1)=k:=FO
  have e2:l.length - xs.length=k+1:=FO
  simp only [AD,e1,AO] at hF
  simp only [go_sem,h0,h1,F2 hx,e1,e2]
  repeat' (first|(refine aS (h x (AB hx)) ?_;simp only [go_sem,h0,h1,hw,F2 hx,e1,e2])|(first|apply cS|apply gS)<;>intro hc<;>simp only [go_sem,hc,h0,h1,hw,F2 hx,e1,e2])
  ·rw [H8,hF,HN,iP hc]
  ·rw [HN,iN (by rw [hc];decide)]
 ·intro hF hlt
  simp only [go_sem,hlt,dF]
  rw [AO] at hF
  rw [H8,hF];rfl
theorem AFx(s:Ez):FQ AA 39 [.agg s.c] (.bool (IY s)):=by
 refine FQ.fit AG7.c λhf=>?_
 have hl1:=R2 (Ri hf)
 have hl2:=Pw (Ri hf)
 refine pC AG7 rfl ?_
 simp only [f39,go_sem]
 repeat' (first|(refine pK (ATP _ _ _ _) ?_;simp only [go_sem])|(first|apply cS|apply gS)<;>intro hc<;>simp only [go_sem,hc])
 all_goals first
  | rfl
  | (simp only [IY];rfl)
  | grind [IY]
  | (simp only [IY];grind)
  | (simp [IY, *];done)
  | (simp_all [IY];done)
  | skip
 all_goals
  refine Fa s.tenants (λr=>r.all L0) (λk=>[(1,.ptr 0 0),(4,.int .i64 k)]) hl1 rfl ?_ ?_
  ·intro k y ys hd hx hF h0 h1 hw
   simp only [go_sem,h0,h1,F2 hx]
   repeat' (first|(refine pK (ATN _) ?_;simp only [go_sem,h0,h1,hw,F2 hx])|(first|apply cS|apply gS)<;>intro hc<;>simp only [go_sem,hc,h0,h1,hw,F2 hx])
   all_goals first
    | rfl
    | (simp only [IY,Al,Ay];rfl)
    | grind [IY]
    | (simp only [IY,Al,Ay];grind)
    | (simp [IY,Al,Ay, *];done)
    | (simp_all [IY,Al,Ay];done)
    | skip
  ·intro hF hlt
   simp only [go_sem,hlt,dF]
   refine Fa s.contracts (λr=>r.all λx=>Xk x.pred) (λk=>[(1,.ptr 0 0),(6,.int .i64 k)]) hl2 rfl ?_ ?_
   ·intro k y ys hd hx hF h0 h1 hw
    simp only [go_sem,h0,h1,GL hx]
    repeat' (first|(refine pK (ACf _) ?_;simp only [go_sem,h0,h1,hw,GL hx])|(first|apply cS|apply gS)<;>intro hc<;>simp only [go_sem,hc,h0,h1,hw,GL hx])
    all_goals first
     | rfl
     | (simp only [IY,Al,Ay];rfl)
     | grind [IY]
     | (simp only [IY,Al,Ay];grind)
     | (simp [IY,Al,Ay, *];done)
     | (simp_all [IY,Al,Ay];done)
     | skip
   ·intro hF2 hlt2
    simp only [go_sem,hlt2,dF]
    repeat' (first|(first|apply cS|apply gS)<;>intro hc<;>simp only [go_sem,hc])
    all_goals first
     | rfl
     | (simp only [IY,Al,Ay];rfl)
     | grind [IY]
     | (simp only [IY,Al,Ay];grind)
     | (simp [IY,Al,Ay, *];done)
     | (simp_all [IY,Al,Ay];done)
     | skip
def cm(k:Int):AV:=.tup [.int .i64 (Qi k 0),.bool (decide (0<=k))]
theorem aq(s:Ez)(nm:ByteArray)(hl:s.tenants.length<=1073741824):FQ AA 133 [.agg s.c,.str nm] (cm (GO s nm)):=by
 refine pC AP9 rfl ?_
 simp only [f133,go_sem,FN]
 refine Fa s.tenants (λr=>HN (λt:E1=>decide (t.name=nm)) (s.tenants.length - r.length) r) (λk=>[(1,.str nm),(2,.ptr 0 0),(6,.int .i64 k)]) FO rfl ?_ ?_
 ·intro k y ys hd hx hF h0 h1 hw
  have hk2:=Fl hd
  have e1:s.tenants.length - (ys.length+1)=k:=FO
  have e2:s.tenants.length - ys.length=k+1:=FO
  simp only [AD,e1,AO] at hF
  simp only [go_sem,h0,h1,F2 hx,FN,e1,e2]
  repeat' (first|(first|apply cS|apply gS)<;>intro hc<;>simp only [go_sem,hc,h0,h1,hw,F2 hx,FN,e1,e2])
  ·have h2:GO s nm=(k:Int):=by rw [GO,H8,hF,HN,iP hc]
   rw [h2]
   have h3:Qi (k:Int) 0=k:=by unfold Qi;split<;>omega
   rw [cm,h3,decide_eq_true h0]
  ·rw [HN,iN (by rw [hc];decide)]
 ·intro hF hlt
  simp only [go_sem,hlt,dF]
  rw [AO] at hF
  have h2:GO s nm = -1:=by rw [GO,H8,hF];rfl
  rw [h2];rfl
theorem qj(t:E1)(n:Int):FQ AA 134 [.agg t.c,.int .i64 n] (.bool (eN t n)):=by
 refine pC AP6 rfl ?_
 by_cases h:0<=n/\n<(t.ports.length:Int)
 ·obtain ⟨h0,h1⟩:=h
  obtain ⟨x,hx⟩ : ∃ x,t.ports[n.toNat]? =some x:=⟨_,AL FO⟩
  have hg:=GV hx
  have he:MZ t n=x.edge:=by simp [MZ,hx]
  simp only [f134,go_sem,h0,h1,hg]
  repeat' (first|(first|apply cS|apply gS)<;>intro hc<;>simp only [go_sem,hc,h0,h1,hg])
  all_goals (rw [eN,he];simp [h0,h1])
 ·simp only [f134,go_sem]
  repeat' (first|(first|apply cS|apply gS)<;>intro hc<;>simp only [go_sem,hc])
  all_goals first|(simp only [eN];grind)|skip
theorem YZ{s:Ez}{k:Nat}{t:E1}(h:s.tenants[k]? =some t):HL s (k:Int)=t:=by simp [HL,h]
theorem ATI(s:Ez)(k:Nat)(t:E1)(hk:s.tenants[k]? =some t)(hl:yb s.fields)(hs:FR s.c<=1073741824)(hb:FR t.c<=1048576)(hn:s.tenants.length<=1073741824):FQ AA 73 [.agg s.c,.int .i64 k] (.int .i64 (RE s k t)) := by
  have hkl:k<s.tenants.length := (AC.1 hk).1
  have hw1:t.wires.length<=1073741824 := AK (Oc (Ib hb)) dc
  have hp1:t.ports.length<=1048576 := Vn (LM hb)
  have hk1 := F2 hk
  have hk2:(k:Int)<(s.tenants.length:Int) := by omega
  have hk3:(0:Int)<=(k:Int) := by omega
  have hbw : ∀ x∈t.program,FR (HJ t x.policy).c<=1073741824 := λx hx=>ZN (by
    have h1 := KW (Hb hb) hx
    have h2:FR x.c<=1048576 := by simpa only [AV.bulk] using h1
    exact Hu h2) (AK (Oc (Ib hb)) (Nat.le_refl _))
  have hpg:t.program.length<=1073741824 := AK (Mv (Hb hb)) dc
  have q1 := ATX s t hl hs (AK hb dc)
  have q2 := AEd t hw1 hpg hbw
  have htk:(s.tenants.take k).length=k := by rw [BC];omega
  refine pC AWm rfl ?_
  cases q3:(Jh s t !=0) with
  | true =>
    simp only [f73,go_sem,hk1,hk2,hk3]
    repeat' (first|((first|refine pK (q1) ?_|refine pK (q2) ?_);simp only [go_sem,hk1,hk2,hk3,q3])|(first|apply cS|apply gS)<;>intro hc<;>simp only [go_sem,hc,hk1,hk2,hk3,q3])
    rw [RE,iP (by simpa using q3)]
  | false =>
  cases q4:((Gf t).2 !=0) with
  | true =>
    simp only [f73,go_sem,hk1,hk2,hk3]
    repeat' (first|((first|refine pK (q1) ?_|refine pK (q2) ?_);simp only [go_sem,hk1,hk2,hk3,q3,q4])|(first|apply cS|apply gS)<;>intro hc<;>simp only [go_sem,hc,hk1,hk2,hk3,q3,q4])
    rw [RE,iN (by simpa using q3),iP (by simpa using q4)]
  | false =>
  rcases Nat.eq_zero_or_pos k with hz|hz
  · have hgt:decide ((0:Int)<(k:Int))=false := decide_eq_false FO
    have q5:Ym s k t=false := by unfold Ym;simp [hz]
    simp only [f73,go_sem,hk1,hk2,hk3]
    repeat' (first|((first|refine pK (q1) ?_|refine pK (q2) ?_);simp only [go_sem,hk1,hk2,hk3,q3,q4,hgt])|(first|apply cS|apply gS)<;>intro hc<;>simp only [go_sem,hc,hk1,hk2,hk3,q3,q4,hgt])
    refine Fa t.ports (λr=>r.any λp=>(s.tenants.take k).any λu=>decide (0<=p.edge)&&decide (0<=IM u p.edge)) (λi=>[(1,.int .i64 k),(2,.ptr 0 0),(5,.ptr 1 0),(9,.int .i64 i)]) FO rfl ?_ ?_
    · intro i y ys hd hy hF h0 h1 hw
      have hy2 := GV hy
      simp only [go_sem,h0,h1,hy2]
      refine Fa (s.tenants.take k) (λr=>r.any λu=>decide (0<=y.edge)&&decide (0<=IM u y.edge)) (λj=>[(1,.int .i64 k),(2,.ptr 0 0),(5,.ptr 1 0),(9,.int .i64 i),(10,.int .i64 j)]) FO rfl ?_ ?_
      · intro j u us hd3 hu3 hF3 g0 g1 gw
        have g1':(j:Int)<(k:Int) := by omega
        have hu4:s.tenants[j]? =some u := by
          rw [Ak] at hu3
          split at hu3
          · exact hu3
          · cases hu3
        have hu5 := F2 hu4
        simp only [go_sem,g0,g1',hy2,h0,hu5]
        repeat' (first|(refine pK (ia u y.edge) ?_;simp only [go_sem,h0,h1,hy2,g0,g1',gw,hu5])|(first|apply cS|apply gS)<;>intro hc<;>simp only [go_sem,hc,h0,h1,hy2,g0,g1',gw,hu5])
        all_goals first
          | (have e1:JW s k t=true := by
               unfold JW;rw [hF,Au,hF3,Au]
               simp_all
             simp only [decide_eq_true_eq] at *
             rw [RE,iN (by simpa using q3),iN (by simpa using q4),iN (by rw [q5];decide),iP e1])
          | (rw [Au];simp_all;done)
          | skip
      · intro hF3 hlt
        have hlt2 : ¬ ((s.tenants.take k).length:Int)<(k:Int) := by omega
        simp only [go_sem,hlt2,dF,hw]
        have hF4:((s.tenants.take k).any λu=>decide (0<=y.edge)&&decide (0<=IM u y.edge))=false := hF3
        rw [hF4];rfl
    · intro hF hlt
      simp only [go_sem,hlt,dF]
      have e1:JW s k t=false := by unfold JW;rw [hF];rfl
      rw [RE,iN (by simpa using q3),iN (by simpa using q4),iN (by rw [q5];decide),iN (by rw [e1];decide)]
  · obtain ⟨u,hu⟩ : ∃ u,s.tenants[k - 1]? =some u := ⟨_,AL FO⟩
    have hgt:decide ((0:Int)<(k:Int))=true := decide_eq_true FO
    have hw1:IntKind.i64.wrap ((k:Int) - 1)=((k - 1:Nat):Int) := by rw [OA FO FO];omega
    have hw0:(0:Int)<=((k - 1:Nat):Int) := by omega
    have hu2 := F2 hu
    have hu3:HL s ((k:Int) - 1)=u := by
      have:((k:Int) - 1)=((k - 1:Nat):Int) := by omega
      rw [this];exact YZ hu
    cases q5:Ym s k t with
    | true =>
      have q6:(!Op.bytesLess u.name.toList t.name.toList)=true := by
        unfold Ym at q5;rw [hu3] at q5;simp only [AQ] at q5;exact q5.2
      simp only [f73,go_sem,hk1,hk2,hk3]
      repeat' (first|((first|refine pK (q1) ?_|refine pK (q2) ?_);simp only [go_sem,hk1,hk2,hk3,q3,q4,hgt,hw1,hw0,hu2,q6])|(first|apply cS|apply gS)<;>intro hc<;>simp only [go_sem,hc,hk1,hk2,hk3,q3,q4,hgt,hw1,hw0,hu2,q6])
      all_goals first|(rw [RE,iN (by simpa using q3),iN (by simpa using q4),iP q5])|skip
    | false =>
      have q6:(!Op.bytesLess u.name.toList t.name.toList)=false := by
        unfold Ym at q5;rw [hu3] at q5;simp only [Bool.and_eq_false_iff,decide_eq_false_iff_not] at q5
        exact q5.resolve_left FO
      simp only [f73,go_sem,hk1,hk2,hk3]
      repeat' (first|((first|refine pK (q1) ?_|refine pK (q2) ?_);simp only [go_sem,hk1,hk2,hk3,q3,q4,hgt,hw1,hw0,hu2,q6])|(first|apply cS|apply gS)<;>intro hc<;>simp only [go_sem,hc,hk1,hk2,hk3,q3,q4,hgt,hw1,hw0,hu2,q6])
      refine Fa t.ports (λr=>r.any λp=>(s.tenants.take k).any λu=>decide (0<=p.edge)&&decide (0<=IM u p.edge)) (λi=>[(1,.int .i64 k),(2,.ptr 0 0),(5,.ptr 1 0),(9,.int .i64 i)]) FO rfl ?_ ?_
      · intro i y ys hd hy hF h0 h1 hw
        have hy2 := GV hy
        simp only [go_sem,h0,h1,hy2]
        refine Fa (s.tenants.take k) (λr=>r.any λu=>decide (0<=y.edge)&&decide (0<=IM u y.edge)) (λj=>[(1,.int .i64 k),(2,.ptr 0 0),(5,.ptr 1 0),(9,.int .i64 i),(10,.int .i64 j)]) FO rfl ?_ ?_
        · intro j u us hd3 hu3 hF3 g0 g1 gw
          have g1':(j:Int)<(k:Int) := by omega
          have hu4:s.tenants[j]? =some u := by
            rw [Ak] at hu3
            split at hu3
            · exact hu3
            · cases hu3
          have hu5 := F2 hu4
          simp only [go_sem,g0,g1',hy2,h0,hu5]
          repeat' (first|(refine pK (ia u y.edge) ?_;simp only [go_sem,h0,h1,hy2,g0,g1',gw,hu5])|(first|apply cS|apply gS)<;>intro hc<;>simp only [go_sem,hc,h0,h1,hy2,g0,g1',gw,hu5])
          all_goals first
            | (have e1:JW s k t=true := by
                 unfold JW;rw [hF,Au,hF3,Au]
                 simp_all
               simp only [decide_eq_true_eq] at *
               rw [RE,iN (by simpa using q3),iN (by simpa using q4),iN (by rw [q5];decide),iP e1])
            | (rw [Au];simp_all;done)
            | skip
        · intro hF3 hlt
          have hlt2 : ¬ ((s.tenants.take k).length:Int)<(k:Int) := by omega
          simp only [go_sem,hlt2,dF,hw]
          have hF4:((s.tenants.take k).any λu=>decide (0<=y.edge)&&decide (0<=IM u y.edge))=false := hF3
          rw [hF4];rfl
      · intro hF hlt
        simp only [go_sem,hlt,dF]
        have e1:JW s k t=false := by unfold JW;rw [hF];rfl
        rw [RE,iN (by simpa using q3),iN (by simpa using q4),iN (by rw [q5];decide),iN (by rw [e1];decide)]
theorem K1{s:Ez}{nm:ByteArray}(h:0<=GO s nm): ∃ t,s.tenants[(GO s nm).toNat]? =some t/\t.name=nm/\HL s (GO s nm)=t/\GO s nm<(s.tenants.length:Int):=by
 rcases mi (λt:E1=>decide (t.name=nm)) s.tenants with ⟨h1,_⟩|⟨j,x,h1,h2,h3,h4,_⟩
 ·unfold GO at h;omega
 ·have h5:GO s nm=(j:Int):=h4
  rw [h5]
  exact ⟨x,by simpa using h2,by simpa using h3,by simp [HL,h2],FO⟩
theorem Y1{k:Int}(h:0<=k):Qi k 0=k:=by unfold Qi;split<;>omega
theorem ATR(s:Ez)(c:E3)(hl:yb s.fields)(hb:FR c.c<=1073741824)(hn:s.tenants.length<=1073741824):FQ AA 74 [.agg s.c,.agg c.c] (.int .i64 (Sx s c)):=by
 have q1:=aq s c.src hn
 have q2:=aq s c.dst hn
 simp only [cm] at q1 q2
 refine pC AWj rfl ?_
 by_cases ha:0<=GO s c.src
 ·by_cases hd:0<=GO s c.dst
  ·obtain ⟨a,ha1,_,ha2,ha3⟩:=K1 ha
   obtain ⟨b,hb1,_,hb2,hb3⟩:=K1 hd
   have ha4:=F2 ha1
   have hb4:=F2 hb1
   rw [Y1 ha,decide_eq_true ha] at q1
   rw [Y1 hd,decide_eq_true hd] at q2
   have q3:=qj a c.fromPort
   have q4:=qj b c.toPort
   have q5:=ACj s.fields c.pred hl (TI hb)
   have e0 : ¬ (GO s c.src<0\/GO s c.dst<0):=FO
   rw [Sx,iN e0,ha2,hb2]
   by_cases hv:0<=c.via/\c.via<(s.network.nodes.length:Int)
   ·obtain ⟨nd,hnd⟩ : ∃ nd,s.network.nodes[c.via.toNat]? =some nd:=⟨_,AL FO⟩
    have hnd2:=Mz hnd
    have hbx:ACr s c.via=nd.box:=by simp [ACr,hnd]
    have hv0:=hv.1
    simp only [f74,go_sem]
    repeat' (first|((first|refine pK (q1) ?_|refine pK (q2) ?_|refine pK (q3) ?_|refine pK (q4) ?_|refine pK (q5) ?_);simp only [go_sem,ha,hd,ha4,hb4,hnd2,hv0])|(first|apply cS|apply gS)<;>intro hc<;>simp only [go_sem,hc,ha,hd,ha4,hb4,hnd2,hv0])
    all_goals first|(simp only [AHp,hbx];grind)|skip
   ·simp only [f74,go_sem]
    repeat' (first|((first|refine pK (q1) ?_|refine pK (q2) ?_|refine pK (q3) ?_|refine pK (q4) ?_|refine pK (q5) ?_);simp only [go_sem,ha,hd,ha4,hb4])|(first|apply cS|apply gS)<;>intro hc<;>simp only [go_sem,hc,ha,hd,ha4,hb4])
    all_goals first|(simp only [AHp];grind)|skip
  ·rw [decide_eq_false hd] at q2
   simp only [f74,go_sem]
   repeat' (first|((first|refine pK (q1) ?_|refine pK (q2) ?_);simp only [go_sem])|(first|apply cS|apply gS)<;>intro hc<;>simp only [go_sem,hc])
   all_goals first|(rw [Sx,iP FO])|skip
 ·rw [decide_eq_false ha] at q1
  simp only [f74,go_sem]
  repeat' (first|((first|refine pK (q1) ?_|refine pK (q2) ?_);simp only [go_sem])|(first|apply cS|apply gS)<;>intro hc<;>simp only [go_sem,hc])
  all_goals first|(rw [Sx,iP FO])|skip
def Nr(l:List Bool):List AV:=l.map .bool
theorem We(l:List Bool):(Nr l).length=l.length:=by simp [Nr]
theorem iw{l:List Bool}{i:Nat}{b:Bool}(h:l[i]? =some b):(Nr l)[i]? =some (.bool b):=by simp [Nr,h]
theorem ADC{l:List Bool}{i:Nat}(h:i<l.length)(b:Bool):splice (Nr l) i [.bool b]=Nr (l.set i b):=by
 apply List.ext_getElem?
 intro j
 have hl:=We l
 rw [Ja (by simp;omega)]
 simp only [Nr,List.getElem?_map,Aw,List.length_singleton]
 by_cases hj:i<=j/\j<i+1
 ·have:j=i:=FO
  subst this
  rw [iP hj,iP rfl,iP h];simp
 ·rw [iN hj,iN FO]
@[go_sem] theorem AVH(l:List Bool):A' (Nr l)=true:=by
 induction l with
 | nil=>rfl
 | cons b l ih=>exact ih
theorem oH(l:List Bool):Ia false 1 l.length ((Nr l).map borrow1)=Nr l:=by
 induction l with
 | nil=>rfl
 | cons b l ih =>
  show AV.bool b::Ia false 1 l.length ((Nr l).map borrow1)=AV.bool b::Nr l
  rw [ih]
theorem ADD(n:Nat):(A4 n [AV.bool false]).flatten=Nr (A4 n false):=by
 induction n with
 | zero=>rfl
 | succ n ih=>rw [Ck,List.flatten_cons,ih];rfl
def OI(l:List Bool):Nat:=(l.filter id).length
theorem Un(l:List Bool):OI l<=l.length:=List.length_filter_le _ _
theorem iK{l:List Bool}{i:Nat}(h:l[i]? =some false):OI (l.set i true)=OI l+1:=by
 induction l generalizing i with
 | nil=>simp at h
 | cons b l ih =>
  cases i with
  | zero=>simp at h;subst h;simp [OI]
  | succ i =>
   have:=ih (i:=i) (by simpa using h)
   simp only [List.set_cons_succ,OI,DR] at this ⊢
   split<;>simp_all
theorem iL(n:Nat):OI (A4 n false)=0:=by
 induction n with
 | zero=>rfl
 | succ n ih=>rw [Ck];exact ih
def rOk(s:Ez)(x:List Bool×List Int):Prop:=x.1.length=s.tenants.length/\x.2.length=1+OI x.1 /\ ∀ a∈x.2,0<=a/\a<(s.tenants.length:Int)
theorem xS(s:Ez)(k:Nat)(hk:k<s.tenants.length)(hn:s.tenants.length<=1048576)(hc:s.contracts.length<=1048576)(hf : ∀ c∈s.contracts,0<=GO s c.dst):FQ AA 75 [.agg s.c,.int .i64 k] (.sl none (Nr (kX s k))):=by
 refine pB AWf rfl ?_
 have hz:Fi AA 4=some (.bool false):=kr
 have n0:(s.tenants.length:Int)*((1:Nat):Int)<=140737488355328:=FO
 simp only [f75,go_sem]
 refine ⟨FO,n0,FO, ?_⟩
 refine Ko (σ:=Nat×List Bool×List Int) (λx=>[(2,.ptr 0 0),(5,.msl 1 0 s.tenants.length 1),(6,.sl (some 1) (GB x.2.2)),(7,.int .i64 x.1)]) (λx=>[some s.c,some (Nr x.2.1)])
  (λx=>x.1<=x.2.2.length/\rOk s x.2/\kX s k=Mp s (s.tenants.length+2 - x.1) x.1 x.2) (λx=>s.tenants.length+2 - x.1) (0,A4 s.tenants.length false,[(k:Int)])
  ⟨Nat.zero_le _,⟨sm,by rw [iL];rfl,λa ha=>by rcases Ac.1 ha with rfl;omega⟩,rfl⟩ rfl (by rw [ADD]) ?_
 rintro ⟨i,seen,q⟩ ⟨hi,hR,hE⟩
 have hq:=hR.2.1
 have hcn:=Un seen
 have hsl:=hR.1
 simp only at hi hq hcn hsl
 by_cases hlt:i<q.length
 ·obtain ⟨a,ha⟩ : ∃ a,q[i]? =some a:=⟨_,AL hlt⟩
  obtain ⟨ha0,ha1⟩:=hR.2.2 a (AB ha)
  obtain ⟨u,hu⟩ : ∃ u,s.tenants[a.toNat]? =some u:=⟨_,AL FO⟩
  have hu2:=F2 hu
  have hu3:HL s a=u:=by simp [HL,hu]
  have hlt2:(i:Int)<(q.length:Int):=FO
  have hw:=Mk (k:=i) FO
  have hi0:(0:Int)<=(i:Int):=FO
  simp only [go_sem,hlt2]
  refine Fm s.contracts (λx r=>K4 s u.name r x) (λ_ x=>rOk s x/\x.2[i]? =some a) (λj x=>[(2,.ptr 0 0),(5,.msl 1 0 s.tenants.length 1),(6,.sl (some 1) (GB x.2)),(7,.int .i64 i),(8,.int .i64 j)]) (λj x=>[some s.c,some (Nr x.1)]) (seen,q) FO ⟨hR,ha⟩ rfl rfl ?_ ?_
  ·rintro j ⟨sn,p⟩ c cs hd hcx ⟨hRx,hax⟩ hF g0 g1 gw
   have hcm:=AB hcx
   have hc2:=GL hcx
   have ht0:=hf c hcm
   obtain ⟨v,hv1,_,_,hv4⟩:=K1 ht0
   obtain ⟨m,hm⟩ : ∃ m:Nat,GO s c.dst=(m:Int):=⟨(GO s c.dst).toNat,FO⟩
   have q1:=aq s c.dst FO
   rw [cm,Y1 ht0,decide_eq_true ht0,hm] at q1
   have hm1:m<sn.length:=by rw [hRx.1];omega
   have hm2:(m:Int)<(s.tenants.length:Int):=FO
   have hm0:(0:Int)<=(m:Int):=FO
   obtain ⟨b,hb⟩ : ∃ b,sn[m]? =some b:=⟨_,AL hm1⟩
   have hb2:=iw hb
   have hp2:=GI hax
   have hst:=ADC hm1 true
   have hpl:(GB p).length=p.length:=HM p
   have hrl:=We sn
   have hq2:=hRx.2.1
   have hcn2:=Un sn
   simp only at hq2 hcn2
   have hsn:=hRx.1
   simp only at hsn
   have hm3:(m+1<=sn.length)=True:=eq_true FO
   simp only [go_sem,g0,g1,hc2,hi0,hp2,ha0,hu2,hm0,hm2,hb2,hst,hrl,FN]
   repeat' (first|(refine pK (q1) ?_;simp only [go_sem,g0,g1,hc2,hi0,hp2,ha0,hu2,hm0,hm2,hb2,hst,hrl,FN,gw,hm3])|(first|apply cS|apply gS)<;>intro hc<;>simp only [go_sem,hc,g0,g1,hc2,hi0,hp2,ha0,hu2,hm0,hm2,hb2,hst,hrl,FN,gw,hm3])
   ·have hb3:b=false:=by simpa using hc
    subst hb3
    rename_i hc1
    refine ⟨FO,FO,(sn.set m true,p++[(m:Int)]), ?_,⟨⟨by simpa using hsn,by rw [iK hb];simp;omega, ?_⟩, ?_⟩, ?_⟩
    ·rw [K4,iP ⟨by simpa using hc1,by rw [hm];simp [hb]⟩,hm,Y1 hm0];simp
    ·intro z hz
     rcases As.1 hz with hz|hz
     ·exact hRx.2.2 z hz
     ·rcases Ac.1 hz with rfl;exact ⟨hm0,hm2⟩
    ·rw [AT (AC.1 hax).1];exact hax
    ·exact ⟨rfl,rfl⟩
   ·have hb3:b=true:=by simpa using hc
    subst hb3
    exact ⟨(sn,p),by rw [K4,iN (by rw [hm];simp [hb])],⟨hRx,hax⟩,rfl,rfl⟩
   ·rename_i hc1
    exact ⟨(sn,p),by rw [K4,iN (λh=>by simp [h.1] at hc)],⟨hRx,hax⟩,rfl,rfl⟩
  ·rintro ⟨sn,p⟩ ⟨hRx,hax⟩ hF
   simp only [go_sem,AW,dF,hw]
   have hF':K4 s u.name s.contracts (seen,q)=(sn,p):=hF
   have e2:s.tenants.length+2 - i=(s.tenants.length+2 - (i+1))+1:=FO
   have hpi:=(AC.1 hax).1
   simp only at hpi
   refine ⟨(i+1,sn,p),⟨by simp only;omega,hRx, ?_⟩,by simp only;omega,rfl,rfl⟩
   rw [hE]
   simp only
   rw [e2,Mp]
   simp only [ha]
   rw [hu3,hF']
 ·have hlt2 : ¬ (i:Int)<(q.length:Int):=FO
  have hfr:(s.tenants.length<=(Nr seen).length/\(False\/True))=True:=eq_true ⟨by rw [We];omega,.inr trivial⟩
  have hch:Ia false 1 s.tenants.length ((Nr seen).map borrow1)=Nr seen:=by rw [<- hsl];exact oH seen
  have e2:s.tenants.length+2 - i=(s.tenants.length+1 - i)+1:=FO
  have hE2:kX s k=seen:=by
   rw [hE]
   simp only
   rw [e2,Mp]
   simp only [List.getElem?_eq_none (Nat.le_of_not_lt hlt)]
  rw [hE2]
  simp only [go_sem,hlt2,dF,hfr,hch]
theorem dZ(s:Ez)(nm:ByteArray): ∀ (l:List E3) (x:List Bool×List Int),(K4 s nm l x).1.length=x.1.length
 | [],x=>rfl
 | c::r,x=>by
  rw [K4,dZ s nm r]
  split<;>simp
theorem Yg(s:Ez): ∀ (f i:Nat) (x:List Bool×List Int),(Mp s f i x).length=x.1.length
 | 0,_,_=>rfl
 | f+1,i,x=>by
  rw [Mp]
  split
  ·rfl
  ·rw [Yg s f,dZ]
theorem RJ(s:Ez)(k:Int):(kX s k).length=s.tenants.length:=by rw [kX,Yg];simp
theorem O0{s:Ez}: ∀ {l:List E3} {i:Nat},Kh s i l=none -> ∀ c∈l,Sx s c=0
 | [],_,_,c,hc=>by cases hc
 | x::r,i,h,c,hc=>by
  rw [Kh] at h
  split at h
  ·cases h
  ·rename_i hx
   rcases AX.1 hc with rfl|hc
   ·simpa using hx
   ·exact O0 h c hc
theorem TO{s:Ez}: ∀ {l:List E1} {i:Nat},KO s i l=none -> ∀ (j:Nat) (t:E1),l[j]? =some t->RE s (i+j) t=0
 | [],_,_,j,t,hc=>by simp at hc
 | x::r,i,h,j,t,hc=>by
  rw [KO] at h
  split at h
  ·cases h
  ·rename_i hx
   cases j with
   | zero=>simp at hc;subst hc;simpa using hx
   | succ j =>
    have:=TO h j t (by simpa using hc)
    rwa [show i+1+j=i+(j+1) by omega] at this
theorem L4{s:Ez}{c:E3}(h:Sx s c=0):0<=GO s c.src/\0<=GO s c.dst:=by
 unfold Sx at h
 split at h
 ·cases h
 ·omega
theorem ATW(s:Ez)(hs:FR s.c<=1048576):FQ AA 40 [.agg s.c] (.tup [.int .i64 (T9 s).1,.int .i64 (T9 s).2]):=by
 have hnt:s.tenants.length<=1048576:=Nb (HA hs)
 have hnc:s.contracts.length<=1048576:=LZ (Hp hs)
 have hs2:FR s.c<=1073741824:=AK hs dc
 have q1:=AF0 s.network (NF hs2)
 have q2:=Abu s.fields (N6 hs2)
 refine pC AX4 rfl ?_
 by_cases e1:JC s.network=0
 ·by_cases e2:O1 s.fields=0
  ·have hl:yb s.fields:=λf hf=>Int.le_trans (ZI e2 f hf) dc
   have e3:(JC s.network !=0)=false:=by simp [e1]
   have e4:(O1 s.fields !=0)=false:=by simp [e2]
   by_cases e5:64<s.tenants.length\/100<s.contracts.length
   ·have h0:T9 s=(0,2):=by unfold T9;rw [iN (by simp [e1]),iN (by simp [e2]),iP e5]
    rw [h0]
    simp only [f40,go_sem]
    repeat' (first|((first|refine pK (q1) ?_|refine pK (q2) ?_);simp only [go_sem,e3,e4])|(first|apply cS|apply gS)<;>intro hc<;>simp only [go_sem,hc,e3,e4])
    all_goals first|rfl|(simp only [decide_eq_true_eq,decide_eq_false_iff_not] at *;omega)|skip
   ·have h0:T9 s=(match KO s 0 s.tenants with
      | some x=>x
      | none=>match Kh s 0 s.contracts with
       | some x=>x
       | none=>(Ih s 0 s.tenants).getD (0,0)):=by unfold T9;rw [iN (by simp [e1]),iN (by simp [e2]),iN e5]<;>rfl
    have g1 : ¬ (64:Int)<(s.tenants.length:Int):=FO
    have g2 : ¬ (100:Int)<(s.contracts.length:Int):=FO
    simp only [f40,go_sem]
    repeat' (first|((first|refine pK (q1) ?_|refine pK (q2) ?_);simp only [go_sem,e3,e4,g1,g2,dF])|(first|apply cS|apply gS)<;>intro hc<;>simp only [go_sem,hc,e3,e4,g1,g2,dF])
    refine Fa s.tenants (λr=>KO s (s.tenants.length - r.length) r) (λk=>[(1,.ptr 0 0),(5,.int .i64 k)]) FO rfl ?_ ?_
    ·intro k y ys hd hx hF k0 k1 hw
     have hk2:=Fl hd
     have d1:s.tenants.length - (ys.length+1)=k:=FO
     have d2:s.tenants.length - ys.length=k+1:=FO
     simp only [AD,d1,d2,AO] at hF ⊢
     have hby:FR y.c<=1048576:=by have:=Nc (HA hs) (AB hx);simpa only [AV.bulk] using this
     simp only [go_sem,k0,k1]
     repeat' (first|(refine pK (ATI s k y hx hl hs2 hby FO) ?_;simp only [go_sem,k0,k1,hw,d1,d2])|(first|apply cS|apply gS)<;>intro hc<;>simp only [go_sem,hc,k0,k1,hw,d1,d2])
     ·have h1:KO s 0 s.tenants=some ((k:Int),RE s k y):=by rw [hF,KO,iP (by simpa using hc)]
      rw [h0,h1]
     ·rw [KO,iN (by simpa using hc)]
    ·intro hF hlt
     have hT:KO s 0 s.tenants=none:=by rw [AO] at hF;rw [hF];rfl
     simp only [go_sem,hlt,dF]
     refine Fa s.contracts (λr=>Kh s (s.contracts.length - r.length) r) (λk=>[(1,.ptr 0 0),(6,.int .i64 k)]) FO rfl ?_ ?_
     ·intro k y ys hd hx hF2 k0 k1 hw
      have hk2:=Fl hd
      have d1:s.contracts.length - (ys.length+1)=k:=FO
      have d2:s.contracts.length - ys.length=k+1:=FO
      simp only [AD,d1,d2,AO] at hF2 ⊢
      have hby:FR y.c<=1073741824:=by
       have h5:=aL (Hp hs) (AB hx)
       have h6:FR y.c<=1048576:=by simpa only [AV.bulk] using h5
       exact AK h6 dc
      simp only [go_sem,k0,k1,GL hx]
      repeat' (first|(refine pK (ATR s y hl hby FO) ?_;simp only [go_sem,k0,k1,hw,d1,d2,GL hx])|(first|apply cS|apply gS)<;>intro hc<;>simp only [go_sem,hc,k0,k1,hw,d1,d2,GL hx])
      ·have h1:Kh s 0 s.contracts=some ((k:Int),Sx s y):=by rw [hF2,Kh,iP (by simpa using hc)]
       rw [h0,hT,h1]
      ·rw [Kh,iN (by simpa using hc)]
     ·intro hF2 hlt2
      have hC:Kh s 0 s.contracts=none:=by rw [AO] at hF2;rw [hF2];rfl
      have hdst : ∀ c∈s.contracts,0<=GO s c.dst:=λc hc=>(L4 (O0 hC c hc)).2
      simp only [go_sem,hlt2,dF]
      refine Fa s.tenants (λr=>Ih s (s.tenants.length - r.length) r) (λk=>[(1,.ptr 0 0),(7,.int .i64 k)]) FO rfl ?_ ?_
      ·intro k y ys hd hx hF3 k0 k1 hw
       have hk2:=Fl hd
       have d1:s.tenants.length - (ys.length+1)=k:=FO
       have d2:s.tenants.length - ys.length=k+1:=FO
       simp only [AD,d1,d2,AO] at hF3 ⊢
       have q3:=xS s k FO hnt hnc hdst
       have hrl:(kX s k).length=s.tenants.length:=RJ s k
       obtain ⟨b,hb⟩ : ∃ b,(kX s k)[k]? =some b:=⟨_,AL FO⟩
       have hb2:=iw hb
       simp only [go_sem,k0,k1]
       repeat' (first|(refine pK (q3) ?_;simp only [go_sem,k0,k1,hw,d1,d2,hb2])|(first|apply cS|apply gS)<;>intro hc<;>simp only [go_sem,hc,k0,k1,hw,d1,d2,hb2])
       ·have h1:Ih s 0 s.tenants=some (0,21):=by rw [hF3,Ih,iP (by rw [hb];simpa using hc)]
        rw [h0,hT,hC,h1];rfl
       ·rw [Ih,iN (by rw [hb];simpa using hc)]
      ·intro hF3 hlt3
       have hL:Ih s 0 s.tenants=none:=by rw [AO] at hF3;rw [hF3];rfl
       simp only [go_sem,hlt3,dF]
       rw [h0,hT,hC,hL];rfl
  ·have e3:(JC s.network !=0)=false:=by simp [e1]
   have e4:(O1 s.fields !=0)=true:=by simp [e2]
   have h0:T9 s=(0,O1 s.fields):=by unfold T9;rw [iN (by simp [e1]),iP e2]
   rw [h0]
   simp only [f40,go_sem]
   repeat' (first|((first|refine pK (q1) ?_|refine pK (q2) ?_);simp only [go_sem,e3,e4])|(first|apply cS|apply gS)<;>intro hc<;>simp only [go_sem,hc,e3,e4])
 ·have e3:(JC s.network !=0)=true:=by simp [e1]
  have h0:T9 s=(0,JC s.network):=by unfold T9;rw [iP e1]
  rw [h0]
  simp only [f40,go_sem]
  repeat' (first|((first|refine pK (q1) ?_|refine pK (q2) ?_);simp only [go_sem,e3])|(first|apply cS|apply gS)<;>intro hc<;>simp only [go_sem,hc,e3])
theorem xR(s:Ez)(hs:FR s.c<=1048576):FQ AA 13 [.agg s.c] (.bool (Jy s)):=by
 refine pC AYz rfl ?_
 simp only [f13,go_sem]
 repeat' (first|((first|refine pK (AFx s) ?_|refine pK (ATW s hs) ?_);simp only [go_sem])|(first|apply cS|apply gS)<;>intro hc<;>simp only [go_sem,hc])
 all_goals first
  | rfl
  | (simp only [Jy];rfl)
  | grind [Jy]
  | (simp only [Jy];grind)
  | (simp [Jy, *];done)
  | (simp_all [Jy];done)
  | skip
theorem AAM(l:List Fld)(hl:I3 l)(hln:l.length<=9223372036854775807)(x:Pred)(hx:IK l x)(t:Int)(h:Head)(hr:FX h=true):FQ AA 58 [.sl none (GN l),.agg x.c,.agg h.c,.int .i64 t] (.bool (hP l t x h)):=by
 have c1:FV AA 106 [.sl none (GN l),.int .i64 t] [some x.c,some h.c] λv H'=>v = .ptr 4 0/\H'=[some x.c,some h.c]++[some [.sl none (GN l)],some [.int .i64 t],some (ZX 2),some [.ptr 4 0]]:=AVi l t [some x.c,some h.c]
 have hW:fh l t 3 5 2 4 ([some x.c,some h.c]++[some [.sl none (GN l)],some [.int .i64 t],some (ZX 2),some [.ptr 4 0]]):=⟨rfl,rfl,⟨none,rfl⟩,rfl⟩
 have c2:PG AA 173 [.agg x.c,.agg h.c,.ptr 3 0,.ptr 5 0,.ptr 2 0] ([some x.c,some h.c]++[some [.sl none (GN l)],some [.int .i64 t],some (ZX 2),some [.ptr 4 0]]) (.bool (hP l t x h)):=λH2 hv=>dw l hl hln t 3 5 2 4 x hx h hr H2 (hW.view hv)
 have ho : ∀ ops,h58.ord 1 ops=(lw [6,7] ops.size).filterMap λi=>ops[i]?:=λops=>rfl
 have hI:lw [6,7] 10=[6,7,0,1,2,3,4,5,8,9]:=dc
 simp only [ZX] at c1 c2
 refine pB AXX rfl ?_
 simp only [f58,go_sem]
 rw [PA _ _ _ (by simp only [go_sem]) rfl,ho]
 simp only [List.size_toArray,AD,AH,Nat.reduceAdd,hI,List.filterMap_cons,List.getElem?_toArray,List.getElem?_cons_succ,A7,List.filterMap_nil]
 simp only [go_sem]
 refine ⟨_,_,c1, ?_⟩
 simp only [go_sem]
 repeat' (first|(refine rK (c2) ?_;simp only [go_sem])|(first|apply cS|apply gS)<;>intro hc<;>simp only [go_sem,hc])
 all_goals first|rfl|skip
def U0(s:Ez)(nm:ByteArray)(h:Head)(t:Int)(c:E3):Bool:=decide (c.src=nm)&&(c.fromPort==h.h0&&hP s.fields t c.pred h)
theorem AAT {H:FP} (s:Ez) (hl:I3 s.fields) (hln:s.fields.length<=9223372036854775807) (k:Nat) (u:E1) (hu:s.tenants[k]? =some u) (h:Head) (hr:FX h=true) (t:Int) (c:E3) (hx:IK s.fields c.pred)
  (os ok oh ot:Nat) (h1:H[os]? =some (some s.c)) (h2:H[ok]? =some (some [.int .i64 k])) (h3:H[oh]? =some (some h.c)) (h4:H[ot]? =some (some [.int .i64 t])) :
  GK AA 57 [.agg c.c,.ptr os 0,.ptr ok 0,.ptr oh 0,.ptr ot 0] H (.bool (U0 s u.name h t c)):=by
 refine FV.drop rfl ?_
 have g1:=FU h1
 have g2:=FU h2
 have g3:=FU h3
 have g4:=FU h4
 have q0:=q_0 H
 have hu2:=F2 hu
 have hk0:(0:Int)<=(k:Int):=FO
 refine aC AXb rfl ?_
 simp only [f57,go_sem,g1,g2,g3,g4,q0,hu2,hk0,FN]
 repeat' (first|(refine pK (AAM s.fields hl hln c.pred hx t h hr) ?_;simp only [go_sem,g1,g2,g3,g4,q0,hu2,hk0,FN])|(first|apply cS|apply gS)<;>intro hc<;>simp only [go_sem,hc,g1,g2,g3,g4,q0,hu2,hk0,FN])
 all_goals first|(simp only [U0];grind)|skip
theorem AEt(s:Ez)(hl:I3 s.fields)(hln:s.fields.length<=9223372036854775807)(hcl:s.contracts.length<=9223372036854775807)(k:Nat)(u:E1)(hu:s.tenants[k]? =some u)(h:Head)(hr:FX h=true)(t:Int)(hx : ∀ c∈s.contracts,IK s.fields c.pred):
  FQ AA 30 [.agg s.c,.int .i64 k,.agg h.c,.int .i64 t] (.int .i64 (H8 (U0 s u.name h t) s.contracts)):=by
 have c1:=Tz (H:=[some s.c,some [.int .i64 k],some h.c,some [.int .i64 t]]) s.contracts hcl 57 [] [.ptr 0 0,.ptr 1 0,.ptr 2 0,.ptr 3 0] (U0 s u.name h t)
  (λc hc=>AAT s hl hln k u hu h hr t c (hx c hc) 0 1 2 3 rfl rfl rfl rfl)
 refine pC AYZ rfl ?_
 simp only [f30,go_sem]
 repeat' (first|(refine aS (c1) ?_;simp only [go_sem])|(first|apply cS|apply gS)<;>intro hc<;>simp only [go_sem,hc])
 all_goals first|rfl|skip
theorem xC{l:List Fld}{x:Pred}(h:T8 l x=0):IK l x:=by
 unfold T8 at h
 split at h
 ·rename_i h1
  refine ⟨?_,(Pe l _).1 h⟩
  unfold ckP qR at h1
  split at h1
  ·split at h1
   ·assumption
   ·cases h1
  ·rename_i h2;exact absurd h1 h2
 ·rename_i h1;exact absurd h h1
structure R19 (s:Ez):Prop where
 net:JC s.network=0
 fld:I3 s.fields
 fld0:O1 s.fields=0
 ten : ∀ (k:Nat) (t:E1),s.tenants[k]? =some t->RE s k t=0
 con : ∀ c∈s.contracts,Sx s c=0
 loop:Ih s 0 s.tenants=none
theorem Yd{s:Ez}(h:Jy s=true):R19 s:=by
 unfold Jy at h
 simp only [AQ,beq_iff_eq] at h
 obtain ⟨_,h⟩:=h
 have l1 : ∀ {i:Nat} {r:List E1} {x:Int×Int},KO s i r=some x->x.2≠0:=by
  intro i r
  induction r generalizing i with
  | nil=>intro x hx;cases hx
  | cons y r ih =>
   intro x hx
   rw [KO] at hx
   split at hx
   ·rename_i hne;cases hx;exact hne
   ·exact ih hx
 have l2 : ∀ {i:Nat} {r:List E3} {x:Int×Int},Kh s i r=some x->x.2≠0:=by
  intro i r
  induction r generalizing i with
  | nil=>intro x hx;cases hx
  | cons y r ih =>
   intro x hx
   rw [Kh] at hx
   split at hx
   ·rename_i hne;cases hx;exact hne
   ·exact ih hx
 have l3 : ∀ {i:Nat} {r:List E1} {x:Int×Int},Ih s i r=some x->x.2≠0:=by
  intro i r
  induction r generalizing i with
  | nil=>intro x hx;cases hx
  | cons y r ih =>
   intro x hx
   rw [Ih] at hx
   split at hx
   ·cases hx;decide
   ·exact ih hx
 unfold T9 at h
 split at h
 ·rename_i hne;exact absurd h hne
 rename_i h1
 split at h
 ·rename_i hne;exact absurd h hne
 rename_i h2
 split at h
 ·cases h
 have hF:O1 s.fields=0:=by simpa using h2
 cases hT:KO s 0 s.tenants with
 | some x=>rw [hT] at h;exact absurd h (l1 hT)
 | none =>
  rw [hT] at h
  cases hC:Kh s 0 s.contracts with
  | some x=>rw [hC] at h;exact absurd h (l2 hC)
  | none =>
   rw [hC] at h
   cases hL:Ih s 0 s.tenants with
   | some x=>rw [hL] at h;exact absurd h (l3 hL)
   | none =>
    exact ⟨by simpa using h1,ATH hF,hF,λk t ht=>by have:=TO hT k t ht;rwa [AY] at this,O0 hC,hL⟩
theorem R19.pred{s:Ez}(h:R19 s){c:E3}(hc:c∈s.contracts):IK s.fields c.pred:=by
 have h1:=h.con c hc
 unfold Sx at h1
 split at h1
 ·cases h1
 split at h1
 ·cases h1
 split at h1
 ·rename_i h2;exact absurd h1 h2
 rename_i h2
 exact xC (by simpa using h2)
theorem r5{H:FP}(t:E1)(nm:ByteArray)(o:Nat)(ho:H[o]? =some (some [.str nm])):GK AA 60 [.agg t.c,.ptr o 0] H (.bool (decide (t.name=nm))):=by
 refine FV.drop rfl ?_
 refine aC AXP rfl ?_
 have ho' : ∀ z,(H++z)[o]? =some (some [.str nm]):=λz=>by
  have:=(AC.1 ho).1
  rw [AT this];exact ho
 simp only [f60,go_sem,ho',FN]
theorem d7(s:Ez)(nm:ByteArray)(hl:s.tenants.length<=1073741824):FQ AA 32 [.agg s.c,.str nm] (cm (GO s nm)):=by
 have c1:=XN (H:=[some s.c,some [.str nm]]) s.tenants FO 60 [] [.ptr 1 0] (λt=>decide (t.name=nm)) (λt _=>r5 t nm 1 rfl)
 refine pC AYT rfl ?_
 simp only [f32,go_sem]
 repeat' (first|(refine aS (c1) ?_;simp only [go_sem])|(first|apply cS|apply gS)<;>intro hc<;>simp only [go_sem,hc])
 all_goals first|rfl|skip
def N4(e:Int):Nat->List E1->Int×Int
 | _,[]=>(-1,-1)
 | i,t::r=>if 0<=HI t e then ((i:Int),HI t e) else N4 e (i+1) r
theorem qA(s:Ez)(hs:FR s.c<=1048576)(e:Int):FQ AA 12 [.agg s.c,.int .i64 e] (.tup [.int .i64 (N4 e 0 s.tenants).1,.int .i64 (N4 e 0 s.tenants).2]):=by
 have hnt:s.tenants.length<=1048576:=Nb (HA hs)
 refine pC AY4 rfl ?_
 simp only [f12,go_sem]
 refine Fa s.tenants (λr=>N4 e (s.tenants.length - r.length) r) (λk=>[(1,.int .i64 e),(10,.sl none (HQ s.tenants)),(11,.int .i64 s.tenants.length),(12,.int .i64 k)]) FO rfl ?_ ?_
 ·intro k y ys hd hx hF h0 h1 hw
  have hk2:=Fl hd
  have e1:s.tenants.length - (ys.length+1)=k:=FO
  have e2:s.tenants.length - ys.length=k+1:=FO
  simp only [AD,e1,e2,AO] at hF ⊢
  have hby:FR y.c<=1048576:=by have:=Nc (HA hs) (AB hx);simpa only [AV.bulk] using this
  have hp:y.ports.length<=1073741824:=AK (Vn (LM hby)) dc
  simp only [go_sem,h0,h1,F2 hx]
  repeat' (first|(refine pK (ACn y hp e) ?_;simp only [go_sem,h0,h1,hw,F2 hx,e1,e2])|(first|apply cS|apply gS)<;>intro hc<;>simp only [go_sem,hc,h0,h1,hw,F2 hx,e1,e2])
  ·rw [hF,N4,iP (by simpa using hc)]
  ·rw [N4,iN (by simpa using hc)]
 ·intro hF hlt
  simp only [go_sem,hlt,dF]
  rw [AO] at hF
  rw [hF];rfl
def LO(x:List Bool)(j:Nat):Prop:=x[j]? =some true
theorem AE6{x:List Bool}{m j:Nat}(h:LO x j):LO (x.set m true) j:=by
 unfold LO at *
 rw [Aw]
 split
 ·rename_i he;subst he;rw [iP (AC.1 h).1]
 ·exact h
theorem VY{x:List Bool}{m j:Nat}(h:LO (x.set m true) j):j=m\/LO x j:=by
 unfold LO at *
 rw [Aw] at h
 split at h
 ·rename_i he;exact .inl he.symm
 ·exact .inr h
section
variable {s:Ez} {nm:ByteArray}
theorem SS : ∀ {l:List E3} {x:List Bool×List Int} {j:Nat},LO x.1 j->LO (K4 s nm l x).1 j
 | [],_,_,h=>h
 | c::r,x,j,h=>by
  rw [K4]
  refine SS ?_
  split
  ·exact AE6 h
  ·exact h
theorem db : ∀ {l:List E3} {x:List Bool×List Int} {c:E3},c∈l->c.src=nm->(GO s c.dst).toNat<x.1.length->LO (K4 s nm l x).1 (GO s c.dst).toNat
 | d::r,x,c,hc,hs,hl=>by
  rw [K4]
  rcases AX.1 hc with rfl|hc
  ·refine SS ?_
   split
   ·show (x.1.set _ true)[_]? =some true
    rw [Aw,iP rfl,iP hl]
   ·rename_i hn
    have:(x.1[(GO s c.dst).toNat]?).getD true≠false:=λh=>hn ⟨hs,h⟩
    unfold LO
    rw [AL hl] at this ⊢
    cases hx:x.1[(GO s c.dst).toNat]<;>simp_all
  ·refine db hc hs ?_
   split<;>simpa using hl
theorem VC : ∀ {l:List E3} {x:List Bool×List Int},(∀ j,LO x.1 j->(j:Int)∈x.2) -> ∀ j,LO (K4 s nm l x).1 j->(j:Int)∈(K4 s nm l x).2
 | [],_,h=>h
 | c::r,x,h=>by
  rw [K4]
  refine VC ?_
  split
  ·intro j hj
   rcases VY hj with rfl|hj
   ·refine List.mem_append_right _ (Ac.2 ?_)
    unfold Qi;split<;>omega
   ·exact List.mem_append_left _ (h j hj)
  ·exact h
theorem VD : ∀ (l:List E3) (x:List Bool×List Int),∃ t,(K4 s nm l x).2=x.2++t
 | [],x=>⟨[],by simp [K4]⟩
 | c::r,x=>by
  rw [K4]
  split
  ·obtain ⟨t,ht⟩:=VD r (x.1.set (GO s c.dst).toNat true,x.2++[Qi (GO s c.dst) 0])
   exact ⟨[Qi (GO s c.dst) 0]++t,by rw [ht];simp⟩
  ·exact VD r x
theorem dX : ∀ {l:List E3} {x:List Bool×List Int},∀ b∈(K4 s nm l x).2,b∈x.2 \/ ∃ c∈l,c.src=nm/\b=((GO s c.dst).toNat:Int)
 | [],_,b,h => .inl h
 | c::r,x,b,h=>by
  rw [K4] at h
  rcases dX b h with h|⟨d,hd,hs,rfl⟩
  ·split at h
   ·rename_i he
    rcases As.1 h with h|h
    ·exact .inl h
    ·rcases Ac.1 h with rfl
     exact .inr ⟨c,sm,he.1,by unfold Qi;split<;>omega⟩
   ·exact .inl h
  ·exact .inr ⟨d,by simp [hd],hs,rfl⟩
theorem dY{M:Nat->Prop}: ∀ {l:List E3} {x:List Bool×List Int},(∀ c∈l,c.src=nm->M (GO s c.dst).toNat)->(∀ j,LO x.1 j->M j) -> ∀ j,LO (K4 s nm l x).1 j->M j
 | [],_,_,h=>h
 | c::r,x,hc,h=>by
  rw [K4]
  refine dY (λd hd=>hc d (by simp [hd])) ?_
  split
  ·rename_i he
   intro j hj
   rcases VY hj with rfl|hj
   ·exact hc c sm he.1
   ·exact h j hj
  ·exact h
theorem dW : ∀ {l:List E3} {x:List Bool×List Int},(∀ c∈l,0<=GO s c.dst)->rOk s x->rOk s (K4 s nm l x)
 | [],_,_,h=>h
 | c::r,x,hc,h=>by
  rw [K4]
  refine dW (λd hd=>hc d (by simp [hd])) ?_
  split
  ·rename_i he
   obtain ⟨v,_,_,_,hv⟩:=K1 (hc c sm)
   have h0:=hc c sm
   refine ⟨by simpa using h.1, ?_, ?_⟩
   ·have hlt:(GO s c.dst).toNat<x.1.length:=by rw [h.1];omega
    have hb:x.1[(GO s c.dst).toNat]? =some false:=by
     have h2:=he.2
     rw [AL hlt] at h2 ⊢
     simpa using h2
    rw [iK hb]
    have:=h.2.1
    simp;omega
   ·intro a ha
    rcases As.1 ha with ha|ha
    ·exact h.2.2 a ha
    ·rcases Ac.1 ha with rfl
     rw [Y1 h0];exact ⟨h0,hv⟩
  ·exact h
end
section
variable {s:Ez} (hd : ∀ c∈s.contracts,0<=GO s c.dst)
include hd
theorem RK : ∀ (f i:Nat) (x:List Bool×List Int),rOk s x->(∀ j,LO x.1 j->(j:Int)∈x.2)->(∀ (j:Nat) (a:Int),j<i->x.2[j]? =some a -> ∀ c∈s.contracts,c.src=(HL s a).name->LO x.1 (GO s c.dst).toNat)->s.tenants.length+2<=f+i ->
  (∀ (j:Nat) (a:Int),x.2[j]? =some a -> ∀ c∈s.contracts,c.src=(HL s a).name->LO (Mp s f i x) (GO s c.dst).toNat) /\
  (∀ a,LO (Mp s f i x) a -> ∀ c∈s.contracts,c.src=(HL s (a:Int)).name->LO (Mp s f i x) (GO s c.dst).toNat)
 | 0,i,x,hr,hq,hp,hf=>by
  have h1:=hr.2.1
  have h2:=Un x.1
  have h3:=hr.1
  have all : ∀ (j:Nat) (a:Int),x.2[j]? =some a -> ∀ c∈s.contracts,c.src=(HL s a).name->LO x.1 (GO s c.dst).toNat:=λj a hj=>hp j a (by have:=(AC.1 hj).1;omega) hj
  refine ⟨all,λa ha c hc=>?_⟩
  obtain ⟨j,hj⟩:=Af (hq a ha)
  exact all j a hj c hc
 | f+1,i,x,hr,hq,hp,hf=>by
  rw [Mp]
  split
  ·rename_i hn
   have hle:=List.getElem?_eq_none_iff.1 hn
   have all : ∀ (j:Nat) (a:Int),x.2[j]? =some a -> ∀ c∈s.contracts,c.src=(HL s a).name->LO x.1 (GO s c.dst).toNat:=λj a hj=>hp j a (by have:=(AC.1 hj).1;omega) hj
   refine ⟨all,λa ha c hc=>?_⟩
   obtain ⟨j,hj⟩:=Af (hq a ha)
   exact all j a hj c hc
  ·rename_i a ha
   obtain ⟨t,ht⟩:=VD (s:=s) (nm:=(HL s a).name) s.contracts x
   have hi:=(AC.1 ha).1
   have ih:=RK f (i+1) (K4 s (HL s a).name s.contracts x) (dW hd hr) (VC hq) (λj b hj hb c hc hs=>by
    rw [ht,AT FO] at hb
    rcases Nat.lt_or_ge j i with hji|hji
    ·exact SS (hp j b hji hb c hc hs)
    ·have:j=i:=FO
     subst this
     rw [ha] at hb;cases hb
     obtain ⟨v,_,_,_,hv⟩:=K1 (hd c hc)
     have:=hd c hc
     exact db hc hs (by rw [hr.1];omega)) FO
   refine ⟨λj b hj c hc hs=>ih.1 j b ?_ c hc hs,ih.2⟩
   rw [ht,AT (AC.1 hj).1];exact hj
omit hd in
theorem Yf{M:Nat->Prop}(hM : ∀ a,M a -> ∀ c∈s.contracts,c.src=(HL s (a:Int)).name->M (GO s c.dst).toNat): ∀ (f i:Nat) (x:List Bool×List Int),(∀ a∈x.2,∀ c∈s.contracts,c.src=(HL s a).name->M (GO s c.dst).toNat)->(∀ j,LO x.1 j->M j) -> ∀ j,LO (Mp s f i x) j->M j
 | 0,_,_,_,h=>h
 | f+1,i,x,hq,h=>by
  rw [Mp]
  split
  ·exact h
  ·rename_i a ha
   have hma:=AB ha
   refine Yf hM f (i+1) _ (λb hb c hc hs=>?_) (dY (λc hc hs=>hq a hma c hc hs) h)
   rcases dX b hb with hb|⟨d,hd,hds,rfl⟩
   ·exact hq b hb c hc hs
   ·exact hM _ (hq a hma d hd hds) c hc hs
theorem lO{k:Nat}(hk:k<s.tenants.length):(∀ c∈s.contracts,c.src=(HL s (k:Int)).name->LO (kX s k) (GO s c.dst).toNat)/\(∀ a,LO (kX s k) a -> ∀ c∈s.contracts,c.src=(HL s (a:Int)).name->LO (kX s k) (GO s c.dst).toNat):=by
 have h0:rOk s (A4 s.tenants.length false,[(k:Int)]):=⟨sm,by rw [iL];rfl,λa ha=>by rcases Ac.1 ha with rfl;omega⟩
 have h1 : ∀ j,LO (A4 s.tenants.length false) j->(j:Int)∈[(k:Int)]:=λj hj=>by
  unfold LO at hj
  have:=AB hj
  simp at this
 obtain ⟨g1,g2⟩:=RK hd (s.tenants.length+2) 0 _ h0 h1 (λj a hj=>FO) FO
 exact ⟨λc hc hs=>g1 0 (k:Int) rfl c hc hs,g2⟩
omit hd in
theorem AEZ{k:Nat}{M:Nat->Prop}(h0 : ∀ c∈s.contracts,c.src=(HL s (k:Int)).name->M (GO s c.dst).toNat)(hM : ∀ a,M a -> ∀ c∈s.contracts,c.src=(HL s (a:Int)).name->M (GO s c.dst).toNat): ∀ j,LO (kX s k) j->M j:=by
 refine Yf hM _ _ _ (λa ha=>?_) (λj hj=>?_)
 ·rcases Ac.1 ha with rfl;exact h0
 ·unfold LO at hj
  have:=AB hj
  simp at this
end
theorem qc : ∀ {a b:List Bool} {j:Nat},a.length=b.length->(∀ i,LO a i->LO b i)->LO b j -> ¬ LO a j->OI a<OI b
 | [],[],j,_,_,hb,_=>by simp [LO] at hb
 | [],_::_,_,h,_,_,_=>by simp at h
 | _::_,[],_,h,_,_,_=>by simp at h
 | x::a,y::b,j,h,hs,hb,ha=>by
  have le : ∀ {a b:List Bool},a.length=b.length->(∀ i,LO a i->LO b i)->OI a<=OI b:=by
   intro a
   induction a with
   | nil=>intro b _ _;simp [OI]
   | cons x a ih =>
    intro b hl h
    cases b with
    | nil=>simp at hl
    | cons y b =>
     have h1:=ih (b:=b) (by simpa using hl) (λi hi=>by have:=h (i+1) (by simpa [LO] using hi);simpa [LO] using this)
     have h0:=h 0
     simp only [LO,A7,Option.some.injEq] at h0
     simp only [OI,DR] at h1 ⊢
     cases x<;>cases y<;>simp at h0 ⊢ <;> omega
  have h0:=hs 0
  simp only [LO,A7,Option.some.injEq] at h0
  have hs1 : ∀ i,LO a i->LO b i:=λi hi=>by have:=hs (i+1) (by simpa [LO] using hi);simpa [LO] using this
  have hl:a.length=b.length:=by simpa using h
  cases j with
  | zero =>
   have h1:=le hl hs1
   simp only [LO,A7,Option.some.injEq] at hb ha
   subst hb
   simp only [OI,DR] at h1 ⊢
   cases x<;>simp at ha ⊢
   omega
  | succ j =>
   have h1:=qc hl hs1 (j:=j) (by simpa [LO] using hb) (by simpa [LO] using ha)
   simp only [OI,DR] at h1 ⊢
   cases x<;>cases y<;>simp at h0 ⊢ <;> omega
def rnk(s:Ez)(k:Nat):Nat:=OI (kX s k)
theorem RS{s:Ez}: ∀ {l:List E1} {i:Nat},Ih s i l=none -> ∀ j,j<l.length -> ¬ LO (kX s ((i+j:Nat):Int)) (i+j)
 | [],_,_,j,hj=>by simp at hj
 | x::r,i,h,j,hj=>by
  rw [Ih] at h
  split at h
  ·cases h
  ·rename_i hn
   cases j with
   | zero =>
    intro hm
    unfold LO at hm
    apply hn
    simp at hm ⊢
    rw [hm];rfl
   | succ j =>
    have:=RS h j (by simpa using hj)
    rwa [show i+1+j=i+(j+1) by omega] at this
theorem R19.rank{s:Ez}(h:R19 s){k:Nat}(hk:k<s.tenants.length){c:E3}(hc:c∈s.contracts)(hs:c.src=(HL s (k:Int)).name):rnk s (GO s c.dst).toNat<rnk s k:=by
 have hd : ∀ c∈s.contracts,0<=GO s c.dst:=λc hc=>(L4 (h.con c hc)).2
 obtain ⟨g1,g2⟩:=lO hd hk
 obtain ⟨v,_,_,_,hv⟩:=K1 (hd c hc)
 have h0:=hd c hc
 have hm:=g1 c hc hs
 have hlt:(GO s c.dst).toNat<s.tenants.length:=FO
 have hn:=RS h.loop (GO s c.dst).toNat hlt
 rw [AY] at hn
 exact qc (by rw [RJ,RJ]) (AEZ (λd hd2 hs2=>g2 _ hm d hd2 hs2) g2) hm hn
end Go.AI
namespace Go.AI
open Go.Proofs
set_option maxRecDepth 50000
def ZJ(s:Ez)(b:Nat):Nat->Nat->List Int->List (List Int)
 | 0,_,_=>[]
 | f+1,a,ch=>if a=b then [ch] else (s.contracts.zipIdx).flatMap λp=>if p.1.src=(HL s (a:Int)).name then ZJ s b f (GO s p.1.dst).toNat (ch++[(p.2:Int)]) else []
def chR(s:Ez)(b f a:Nat)(ch:List Int)(i:Nat)(r:List E3):List (List Int) :=
 (r.zipIdx i).flatMap λp=>if p.1.src=(HL s (a:Int)).name then ZJ s b f (GO s p.1.dst).toNat (ch++[(p.2:Int)]) else []
theorem AFm(s:Ez)(b f a:Nat)(ch:List Int)(i:Nat):chR s b f a ch i []=[]:=rfl
theorem ACR(s:Ez)(b f a:Nat)(ch:List Int)(i:Nat)(c:E3)(r:List E3):chR s b f a ch i (c::r)=(if c.src=(HL s (a:Int)).name then ZJ s b f (GO s c.dst).toNat (ch++[(i:Int)]) else [])++chR s b f a ch (i+1) r:=by
 simp [chR,List.zipIdx_cons]
theorem ap(s:Ez)(b f:Nat)(ch:List Int):ZJ s b (f+1) b ch=[ch]:=by rw [ZJ,iP rfl]
theorem ACS{s:Ez}{b f a:Nat}{ch:List Int}(h:a≠b):ZJ s b (f+1) a ch=chR s b f a ch 0 s.contracts:=by rw [ZJ,iN h];rfl
theorem eG(l:List Int)(hl:l.length<=1048576):FQ AA 31 [.sl none (GB l)] (.sl (some 1) (GB l)):=λH =>
 eI _ (Vp l) (by rw [HM];exact hl) H
theorem ry (s:Ez) (hs:FR s.c<=1048576) (hR:R19 s) (b o ya fo n os ob:Nat) (L:LoopRec) (Pre:Nat->FP->Prop) (Qp:FP->Prop) (l:List (List Int))
  (hS : ∀ k pre,Pre k pre->pre[os]? =some (some s.c)/\pre[ob]? =some (some [.int .i64 (b:Int)]))
  (round : ∀ g k y H,l[k]? =some y->Iv Pre n g k H->L8 AA o L [.sl (some 1) (GB y)] H λv H'=>(v = .bool true/\Iv Pre n g (k+1) H')\/(v = .bool false/\Iv (λ_=>Qp) n g 0 H')) :
  ∀ (f a:Nat) (ch:List Int) (k:Nat) (H g:FP) (rest:List (List Int)),a<s.tenants.length->rnk s a<f->ch.length+f<=1048577->g[ya]? =some (some [.yld o L]) ->
   g[fo]? =some (some [.fn (.func 63) [] [.ptr ob 0,.ptr (n+ya) 0,.ptr os 0,.ptr (n+fo) 0]])->l.drop k=ZJ s b f a ch++rest->Iv Pre n g k H ->
   FV AA 63 [.int .i64 (a:Int),.sl none (GB ch),.ptr ob 0,.ptr (n+ya) 0,.ptr os 0,.ptr (n+fo) 0] H λv H'=>(v = .bool true/\Iv Pre n g (k+(ZJ s b f a ch).length) H')\/(v = .bool false/\Iv (λ_=>Qp) n g 0 H'):=by
 intro f
 induction f with
 | zero=>intro a ch k H g rest ha hr;omega
 | succ f ih =>
 intro a ch k H g rest ha hr hch hya hfo hd hI
 have hnc:s.contracts.length<=1048576:=LZ (Hp hs)
 have hnt:s.tenants.length<=1048576:=Nb (HA hs)
 have cT : ∀ {k:Nat} {H:FP},Iv Pre n g k H -> ∀ z,(H++z)[os]? =some (some s.c)/\(H++z)[ob]? =some (some [.int .i64 (b:Int)]):=λh z=>by
  obtain ⟨pre,g',rfl,h1,h2⟩:=h
  obtain ⟨e1,e2⟩:=hS _ _ h2
  have l1:=(AC.1 e1).1
  have l2:=(AC.1 e2).1
  rw [AE,AT l1,AT l2]
  exact ⟨e1,e2⟩
 obtain ⟨e1,e2⟩:=cT hI []
 rw [List.append_nil] at e1 e2
 have y1:=hI.at hya
 refine aC AXG rfl ?_
 by_cases hab:a=b
 ·subst hab
  rw [ap] at hd
  have hk:l[k]? =some ch:=by
   have:=congrArg (·[0]?) hd
   simpa using this
  have hr:=round g k ch H hk hI
  have he:((a:Int)==(a:Int))=true:=sm
  simp only [f63,go_sem,e1,e2,y1,he]
  refine pK (eG ch FO) ?_
  simp only [go_sem,e1,e2,y1,he]
  refine Me.intro hr λv H' hq=>?_
  simp only [go_sem]
  rcases hq with ⟨rfl,hq⟩|⟨rfl,hq⟩
  ·refine .inl ⟨rfl, ?_⟩
   rw [ap];exact hq
  ·exact .inr ⟨rfl,hq⟩
 ·have he:((a:Int)==(b:Int))=false:=by simp;omega
  rw [ACS hab] at hd ⊢
  simp only [f63,go_sem,e1,e2,y1,he]
  refine Fm s.contracts (λ(_:FP×Nat) (_:List E3)=>()) (λi q=>Iv Pre n g q.2 q.1/\q.2+(chR s b f a ch i (s.contracts.drop i)).length=k+(chR s b f a ch 0 s.contracts).length/\l.drop q.2=chR s b f a ch i (s.contracts.drop i)++rest)
   (λi q=>[(0,.int .i64 (a:Int)),(1,.sl none (GB ch)),(4,.ptr os 0),(5,.ptr (n+fo) 0),(21,.sl none (GY s.contracts)),(22,.int .i64 s.contracts.length),(23,.int .i64 i)]) (λ_ q=>q.1) (H,k) FO ⟨hI,rfl,hd⟩ rfl rfl ?_ ?_
  ·rintro i ⟨H2,k2⟩ c cs hdi hcx ⟨hi2,hk2,hl2⟩ _ h0 h1 hwr
   dsimp only at hi2 hk2 hl2 ⊢
   have hcm:=AB hcx
   rw [hdi,ACR] at hk2 hl2
   have hdi2:s.contracts.drop (i+1)=cs:=by rw [<- A8,hdi];rfl
   obtain ⟨u,hu⟩ : ∃ u,s.tenants[a]? =some u:=⟨_,AL ha⟩
   have hu2:=F2 hu
   have hua:HL s (a:Int)=u:=YZ hu
   have ha0:(0:Int)<=(a:Int):=FO
   have eS:=λz=>(cT hi2 z).1
   have eF:=hi2.atG (x:=[some c.c]) hfo
   have q0:=q_0 H2
   have hdst:=(L4 (hR.con c hcm)).2
   obtain ⟨v,_,_,_,hv⟩:=K1 hdst
   have qT:=d7 s c.dst FO
   rw [cm,Y1 hdst,decide_eq_true hdst] at qT
   obtain ⟨m,hm⟩ : ∃ m:Nat,GO s c.dst=(m:Int):=⟨(GO s c.dst).toNat,FO⟩
   rw [hm] at qT hv
   have hlen:(GB ch).length=ch.length:=HM ch
   simp only [go_sem,h0,h1,GL hcx,eS,eF,q0,hu2,ha0,FN]
   repeat' (first|(refine pK qT ?_;simp only [go_sem,h0,h1,GL hcx,eS,eF,q0,hu2,ha0,FN,hlen,hwr])|(first|apply cS|apply gS)<;>intro hc<;>simp only [go_sem,hc,h0,h1,GL hcx,eS,eF,q0,hu2,ha0,FN,hlen,hwr])
   ·have hne : ¬ c.src=u.name:=by simpa using hc
    rw [iN (by rw [hua];exact hne),AN] at hk2 hl2
    exact ⟨(H2++[some c.c],k2),⟨hi2.grow _,by rw [hdi2];exact hk2,by rw [hdi2];exact hl2⟩,rfl,rfl⟩
   ·have heq:c.src=u.name:=by simpa using hc
    rw [iP (by rw [hua];exact heq),hm,Aa] at hk2 hl2
    have hrk:=hR.rank ha hcm (by rw [hua];exact heq)
    rw [hm,Aa] at hrk
    have ihm:=ih m (ch++[(i:Int)]) k2 (H2++[some c.c]) g (chR s b f a ch (i+1) cs++rest) FO FO  (by simp;omega) hya hfo (by rw [hl2,AE]) (hi2.grow _)
    refine ⟨FO,FO,FO, ?_⟩
    refine Fr.intro (FV.weak (vs:=[.int .i64 (m:Int),.sl (some 1) (GB (ch++[(i:Int)])),.ptr ob 0,.ptr (n+ya) 0,.ptr os 0,.ptr (n+fo) 0]) ihm) λv H3 hq=>?_
    rcases hq with ⟨rfl,hi3⟩|⟨rfl,hq3⟩
    ·simp only [go_sem,Bool.not_true,hwr]
     refine ⟨(H3,k2+(ZJ s b f m (ch++[(i:Int)])).length),⟨hi3, ?_, ?_⟩,rfl,rfl⟩
     ·dsimp only;rw [hdi2];rw [AF] at hk2;omega
     ·dsimp only;rw [hdi2,<- A8,hl2,AE,List.drop_left]
    ·simp only [go_sem,Bool.not_false]
     exact .inr hq3
  ·rintro ⟨H2,k2⟩ ⟨hi2,hk2,hl2⟩ _
   dsimp only at hi2 hk2 hl2 ⊢
   rw [List.drop_length,AFm,AH,Nat.add_zero] at hk2
   subst hk2
   simp only [go_sem,AW,dF]
   exact .inl hi2
theorem AAR(s:Ez)(a b:Nat)(H:FP):FV AA 34 [.agg s.c,.int .i64 (a:Int),.int .i64 (b:Int)] H (λv H'=>v = .fn (.func 62) [] [.ptr (H.length+2) 0,.ptr H.length 0,.ptr (H.length+1) 0]/\H'=H++[some s.c,some [.int .i64 (a:Int)],some [.int .i64 (b:Int)]]):=by
 refine aC AYN rfl ?_
 simp only [f34,go_sem,AF,AE,AR,AN,AD,AH,Nat.add_assoc,Nat.reduceAdd]
 all_goals first|rfl|exact ⟨rfl,rfl⟩|skip
theorem lf (s:Ez) (hs:FR s.c<=1048576) (hR:R19 s) (a b o n os oa ob:Nat) (ha:a<s.tenants.length) (L:LoopRec) (Pre:Nat->FP->Prop) (Qp:FP->Prop) (H0:FP) (hn:H0.length=n) (h0:Pre 0 H0)
  (hS : ∀ k pre,Pre k pre->pre[os]? =some (some s.c)/\pre[ob]? =some (some [.int .i64 (b:Int)])) (hA:H0[oa]? =some (some [.int .i64 (a:Int)]))
  (round : ∀ g k y H,(ZJ s b (s.tenants.length+1) a [])[k]? =some y->Iv Pre n g k H->L8 AA o L [.sl (some 1) (GB y)] H λv H'=>(v = .bool true/\Iv Pre n g (k+1) H')\/(v = .bool false/\Iv (λ_=>Qp) n g 0 H'))
  (fin : ∀ pre,Pre (ZJ s b (s.tenants.length+1) a []).length pre->Qp pre):FV AA 62 [.yld o L,.ptr ob 0,.ptr os 0,.ptr oa 0] H0 (λ_ H' => ∃ pre g,H'=pre++g/\pre.length=n/\Qp pre):=by
 subst hn
 have hnt:s.tenants.length<=1048576:=Nb (HA hs)
 have hlt:=(AC.1 hA).1
 have e1 : ∀ z:FP,(H0++z)[oa]? =some (some [.int .i64 (a:Int)]):=λz=>by rw [AT hlt];exact hA
 have hrk:rnk s a<s.tenants.length+1:=by
  have:=Un (kX s a)
  rw [RJ] at this
  unfold rnk;omega
 refine aC AXJ rfl ?_
 have e2 : ∀ u v:Option (List AV),(H0++[u,v])[H0.length+1]? =some v:=λu v=>by rw [List.getElem?_append_right FO,A0];rfl
 have e3 : ∀ u v z:Option (List AV),(H0++[u,v]).set (H0.length+1) z=H0++[u,z]:=λu v z=>by rw [List.set_append_right _ _ FO,A0];rfl
 simp only [f62,go_sem,AF,AE,AR,AN,e1,e2,e3]
 have hw:=ry s hs hR b o 0 1 H0.length os ob L Pre Qp (ZJ s b (s.tenants.length+1) a []) hS round (s.tenants.length+1) a [] 0 (H0++[some [.yld o L],some [.fn (.func 63) [] [.ptr ob 0,.ptr (H0.length+0) 0,.ptr os 0,.ptr (H0.length+1) 0]]])
  [some [.yld o L],some [.fn (.func 63) [] [.ptr ob 0,.ptr (H0.length+0) 0,.ptr os 0,.ptr (H0.length+1) 0]]] [] ha hrk (by simp;omega) rfl rfl sm ⟨H0,[],sm,rfl,h0⟩
 refine Fr.intro hw λv H' hr=>?_
 simp only [go_sem]
 rcases hr with ⟨rfl,pre,g',rfl,h1,h2⟩|⟨rfl,pre,g',rfl,h1,h2⟩
 ·exact ⟨pre,_,rfl,h1,fin pre (by rwa [AY] at h2)⟩
 ·exact ⟨pre,_,rfl,h1,h2⟩
def XG(l:List (List Int)):List AV:=l.map λc => .sl none (GB c)
theorem aM(l:List (List Int)):(XG l).length=l.length:=by simp [XG]
theorem ABK(l:List (List Int))(c:List Int):XG l++[.sl none (GB c)]=XG (l++[c]):=by simp [XG]
@[go_sem] theorem ABL(l:List (List Int)):A' (XG l)=true:=by
 induction l with
 | nil=>rfl
 | cons c l ih=>simp only [XG,List.map_cons,A',AV.pure,Jn,Bool.true_and];exact ih
def chB(s:Ez)(a b:Nat)(r:List AV)(e:Int)(out:List (List Int))(st:Int):FP :=
 [some s.c,some [.sl (some 1) r],some [.int .i64 e],some [.sl (some 1) (XG out)],some s.c,some [.int .i64 (a:Int)],some [.int .i64 (b:Int)],some (G8 st (Ha 23 [(6,.ptr 1 0),(7,.ptr 2 0),(8,.ptr 3 0),(13,.fn (.func 62) [] [.ptr 6 0,.ptr 4 0,.ptr 5 0])]))]
def na(l:List (List Int)):AV:=if 200<l.length then .tup [.sl none [],.int .i64 2] else .tup [.sl none (XG l),.int .i64 0]
theorem xE(l:List (List Int)):(na l).pure=true:=by
 unfold na;split
 ·rfl
 ·simp only [AV.pure,A',ABL,Bool.and_true]
theorem AAa(s:Ez)(hs:FR s.c<=1048576)(hR:R19 s)(a b:Nat)(ha:a<s.tenants.length):FQ AA 9 [.agg s.c,.int .i64 (a:Int),.int .i64 (b:Int)] (na (ZJ s b (s.tenants.length+1) a [])):=by
 have c1:=AAR s a b [some s.c,some [.sl (some 1) []],some [.int .i64 0],some [.sl (some 1) []]]
 generalize hl:ZJ s b (s.tenants.length+1) a []=l
 refine pB AdE rfl ?_ (hv:=xE l)
 simp only [f9,go_sem]
 refine Fr.intro c1 λv H' hq=>?_
 obtain ⟨rfl,rfl⟩:=hq
 simp only [go_sem]
 refine SQ (tag:=9) rfl (FV.mono (lf s hs hR a b 7 8 4 5 6 ha _ (λk pre=>pre=chB s a b [] 0 (l.take k) 0/\k<=200) (λpre=>(pre=chB s a b [] 0 l 0/\l.length<=200)\/(∃ out,pre=chB s a b [] 2 out (-2)/\200<l.length)) (chB s a b [] 0 [] 0) rfl ⟨rfl,FO⟩ ?_ rfl ?_ ?_) λv H2 hq=>?_)
 ·rintro k pre ⟨rfl,_⟩;exact ⟨rfl,rfl⟩
 ·rw [hl]
  rintro g k y H hy ⟨pre,g',rfl,hn,rfl,hk⟩
  have hkl:=(AC.1 hy).1
  have htk:l.take (k+1)=l.take k++[y]:=by
   rw [List.take_add_one,hy];rfl
  refine Jv (h:=h9) (n:=23) mixed rfl ⟨kr,kr⟩ dc _ _ _ _ rfl rfl rfl ?_
  show I7 _ _ _ _ _ _ [(14,.sl (some 1) (GB y)),(0,.undef),(1,.undef),(2,.undef),(3,.undef),(4,.undef),(5,.undef),(6,.ptr 1 0),(7,.ptr 2 0),(8,.ptr 3 0),(9,.undef),(10,.undef),(11,.undef),(12,.undef),(13,.fn (.func 62) [] [.ptr 6 0,.ptr 4 0,.ptr 5 0]),(14,.undef),(15,.undef),(16,.undef),(17,.undef),(18,.undef),(19,.undef),(20,.undef),(21,.undef),(22,.undef)] _
  generalize hG:g++g'=G
  have hkl2:(XG (l.take k)).length=k:=by rw [aM,BC];omega
  have hsn:XG (l.take k)++[.sl none (GB y)]=XG (l.take (k+1)):=by rw [ABK,htk]
  have hkl3:(XG (l.take (k+1))).length=k+1:=by rw [aM,BC];omega
  by_cases Xi:k=200
  ·have hd2:(200:Int)<((k+1:Nat):Int):=FO
   simp only [go_sem,chB,hsn,hkl2,hkl3,hd2]
   exact ⟨_,rfl,FO,FO,_,rfl,.inr ⟨chB s a b [] 2 (l.take (k+1)) (-2),g',by rw [<- hG];rfl,rfl,.inr ⟨_,rfl,FO⟩⟩⟩
  ·have hd2 : ¬ (200:Int)<((k+1:Nat):Int):=FO
   simp only [go_sem,chB,hsn,hkl2,hkl3,hd2,dF]
   exact ⟨_,rfl,FO,FO,_,rfl,.inl ⟨chB s a b [] 0 (l.take (k+1)) 0,g',by rw [<- hG];rfl,rfl,rfl,FO⟩⟩
 ·rw [hl]
  rintro pre ⟨rfl,hk⟩
  exact .inl ⟨by rw [List.take_length],hk⟩
 ·obtain ⟨pre,g,rfl,hn,hq⟩:=hq
  rcases hq with ⟨rfl,h⟩|⟨out,rfl,h⟩
  ·refine ⟨0,_,rfl,.inl ⟨rfl, ?_⟩⟩
   rw [na,iN FO]
   simp only [go_sem,chB]
  ·refine ⟨-2,_,rfl,.inr (.inl ⟨rfl, ?_⟩)⟩
   rw [na,iP h]
   simp only [go_sem,chB]
end Go.AI
