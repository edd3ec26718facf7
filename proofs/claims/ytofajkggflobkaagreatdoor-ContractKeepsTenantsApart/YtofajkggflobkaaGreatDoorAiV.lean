/- Operations that may be done in either order;a region whose order is left open. -/
import Derived.Test.YtofajkggflobkaaGreatDoorLd
set_option linter.unusedSimpArgs false
set_option linter.unusedVariables false
set_option linter.defProp false
open List renaming all_eq_true->An,getElem?_eq_some_iff->AC,getElem?_set_ne->A6,getElem?_set_self->A3,set_comm->B7
namespace Go.AI
def OX(xs:List Operand):List Tmp:=xs.filterMap fun | .tmp t=>some t|_=>none
def Id(h:Hint)(o:Oper):List Tmp:=if Fz h o then OX o.op.operands.toList else []
def WR(a b:Nat):Bool:=(a<=3&&b<=3&&(a==0||b==0||(a<=2&&b<=2)))||(a==0&&b==5)||(a==5&&b==0)
def Ly(h:Hint)(ops:Array Oper)(x y:Oper):Bool :=
 x.apart ops y&&(Id h x).all (λt => !(y.looksAt ops).contains t)&&(Id h y).all (λt => !(x.looksAt ops).contains t)&&(WR (Gz h x) (Gz h y)||(Re h x&&Gz h y==5))
def Q4(K:Fs->FP->Prop):Prop:=∀ e e' H,(∀ t,Fq e t=Fq e' t)->K e H->K e' H
section
variable {P:Program} {n:Nat} {h:Hint} {ops:Array Oper}
def wx{ty:Option TypeId}{x:Operand}{e e':Fs}(hx : ∀ t,x = .tmp t->Fq e t=Fq e' t):G7 P ty e x=G7 P ty e' x:=by
 cases x<;>first|exact hx _ rfl|rfl
def ACI{ty:Option TypeId}{take:Bool}{x:Operand}{e:Fs}{t:Tmp}(ht:take=true->x ≠ .tmp t):Fq (NB P ty take x e).2 t=Fq e t:=by
 cases take with
 | false=>rfl
 | true =>
  simp only [NB]
  split
  ·rename_i t' _
   simp only [Fq]
   rw [iN (λe=>ht rfl (by rw [e]))]
  ·rfl
def wy{ty:Option TypeId}{take:Bool}{x:Operand}{e e':Fs}(hx : ∀ t,x = .tmp t->Fq e t=Fq e' t):
  (NB P ty take x e).1=(NB P ty take x e').1 /\ ∀ t,Fq e t=Fq e' t->Fq (NB P ty take x e).2 t=Fq (NB P ty take x e').2 t:=by
 have he:=wx (P:=P) (ty:=ty) hx
 cases take with
 | false=>exact ⟨by simp only [NB,he],λt ht=>ht⟩
 | true =>
  refine ⟨by simp only [NB,he],λt ht=>?_⟩
  simp only [NB,he]
  cases x with
  | tmp t' =>
   cases (G7 P ty e' (.tmp t')).owned
   ·exact ht
   ·simp only [Fq]
    split
    ·rw [hx t' rfl]
    ·exact ht
  | _=>cases (G7 P ty e' _).owned<;>exact ht
def Pg{ty:Option TypeId}{take:Bool}: ∀ (xs:List Operand) (e e':Fs),(∀ t∈OX xs,Fq e t=Fq e' t) ->
  (ON P ty take xs e).1=(ON P ty take xs e').1 /\ ∀ t,Fq e t=Fq e' t->Fq (ON P ty take xs e).2 t=Fq (ON P ty take xs e').2 t
 | [],e,e',_=>⟨rfl,λt ht=>ht⟩
 | x::xs,e,e',hx=>by
  have h1:=wy (P:=P) (ty:=ty) (take:=take) (x:=x) (e:=e) (e':=e') (λt ht=>hx t (by subst ht;simp [OX]))
  have h2:=Pg (ty:=ty) (take:=take) xs (NB P ty take x e).2 (NB P ty take x e').2 (λt ht=>h1.2 t (hx t (by
   cases x<;>simp [OX] at ht ⊢ <;> first|exact .inr ht|exact ht)))
  simp only [ON]
  exact ⟨by rw [h1.1,h2.1],λt ht=>h2.2 t (h1.2 t ht)⟩
def hO{ty:Option TypeId}{take:Bool}: ∀ (xs:List Operand) (e:Fs) (t:Tmp),(take=true->t∉OX xs)->Fq (ON P ty take xs e).2 t=Fq e t
 | [],e,t,_=>rfl
 | x::xs,e,t,ht=>by
  simp only [ON]
  rw [hO xs _ t (λh0 hm=>ht h0 (by cases x<;>simp [OX] at hm ⊢ <;> first|exact .inr hm|exact hm)),ACI (λh0 hx=>ht h0 (by subst hx;simp [OX]))]
def Ty(P:Program)(h:Hint)(ops:Array Oper)(o:Oper)(e:Fs)(v:AV):Fs :=
 match kc ops e o with
 | some true=>put o.dst v (ON P (HV o) (Fz h o) o.op.operands.toList e).2
 | _=>put o.dst v e
def LF(P:Program)(n:Nat)(h:Hint)(ops:Array Oper)(o:Oper)(e:Fs)(H:FP)(v:AV)(H':FP):Prop :=
 match kc ops e o with
 | some true=>Gi n o.dst/\Fact P h o (ON P (HV o) (Fz h o) o.op.operands.toList e).1 H v H'
 | some false=>Gi n o.dst/\v = .tup []/\H'=H
 | none=>False
def Lg{o:Oper}{K:Fs->FP->Prop}{e:Fs}{H:FP}(hc4:Gz h o≠4)(ha:Ic P n h ops o K e H): ∃ v H',LF P n h ops o e H v H'/\K (Ty P h ops o e v) H':=by
 unfold Ic at ha
 split at ha
 ·rename_i hg
  obtain ⟨v,H',hK,hf⟩:=S6 hc4 ha.2
  refine ⟨v,H', ?_, ?_⟩
  ·unfold LF;rw [hg];exact ⟨ha.1,hf⟩
  ·simp only [Ty,hg];exact hK
 ·rename_i hg
  refine ⟨.tup [],H, ?_, ?_⟩
  ·unfold LF;rw [hg];exact ⟨ha.1,rfl,rfl⟩
  ·simp only [Ty,hg];exact ha.2
 ·exact ha.elim
def Ud{o:Oper}{K:Fs->FP->Prop}{e:Fs}{H H':FP}{v:AV}(ho:LF P n h ops o e H v H')(hK:K (Ty P h ops o e v) H'):Ic P n h ops o K e H:=by
 unfold LF at ho
 unfold Ic
 split at ho
 ·rename_i hg
  simp only [Ty,hg] at hK
  rw [hg]
  exact ⟨ho.1,ho.2.again _ hK⟩
 ·rename_i hg
  simp only [Ty,hg] at hK
  obtain ⟨h1,rfl,rfl⟩:=ho
  rw [hg]
  exact ⟨h1,hK⟩
 ·exact ho.elim
def S7{o:Oper}{e e':Fs}(hx : ∀ t∈o.looksAt ops,Fq e t=Fq e' t):kc ops e o=kc ops e' o:=by
 unfold kc
 cases hg:o.guard with
 | none=>rfl
 | some p =>
  obtain ⟨j,want⟩:=p
  simp only
  cases hd:(ops[j]?).bind (·.dst) with
  | none=>rfl
  | some d =>
   simp only
   rw [hx d (by simp [Oper.looksAt,hg,hd])]
def NW{o:Oper}{t:Tmp}(ht:t∈OX o.op.operands.toList):t∈o.looksAt ops:=by
 unfold Oper.looksAt
 exact List.mem_append_left _ ht
def LF.env{o:Oper}{e e':Fs}{H H':FP}{v:AV}(ho:LF P n h ops o e H v H')(hx : ∀ t∈o.looksAt ops,Fq e t=Fq e' t):LF P n h ops o e' H v H':=by
 unfold LF at ho ⊢
 rw [<- S7 hx,<- (Pg (P:=P) (ty:=HV o) (take:=Fz h o) o.op.operands.toList e e' λt ht=>hx t (NW ht)).1]
 exact ho
def LF.heap0{o:Oper}{e:Fs}{H H':FP}{v:AV}(ho:LF P n h ops o e H v H')(hc:Gz h o=0):H'=H /\ ∀ H2,LF P n h ops o e H2 v H2:=by
 unfold LF at ho ⊢
 split at ho
 ·obtain ⟨h1,h2⟩:=ho.2.c0 hc
  refine ⟨h1,λH2=>⟨ho.1,Fact.pure hc λH3 R' hr=>h2 H3 R' hr⟩⟩
 ·exact ⟨ho.2.2,λH2=>⟨ho.1,ho.2.1,rfl⟩⟩
 ·exact ho.elim
def LF.heap1{o:Oper}{e:Fs}{H H':FP}{v:AV}(ho:LF P n h ops o e H v H')(hc:Gz h o=1):H'=H /\ ∀ H2,Gx H2=Gx H->LF P n h ops o e H2 v H2:=by
 unfold LF at ho ⊢
 split at ho
 ·obtain ⟨h1,h2⟩:=ho.2.c1 hc
  exact ⟨h1,λH2 hv=>⟨ho.1,λR' hr=>h2 H2 R' hv hr,λe=>FO,λ_=>⟨rfl,λH3 R' hv3 hr=>h2 H3 R' (hv3.trans hv) hr⟩,λe=>FO,λhl H3 R' hv3 hr=>ho.2.ld hl H3 R' (by rw [<- hv];exact hv3) hr,λe=>FO⟩⟩
 ·exact ⟨ho.2.2,λH2 _=>⟨ho.1,ho.2.1,rfl⟩⟩
 ·exact ho.elim
def LF.ld{o:Oper}{e:Fs}{H H':FP}{v:AV}(ho:LF P n h ops o e H v H')(hl:Re h o=true){H2:FP}(hv : ∃ ext,Gx H2=Gx H++ext):LF P n h ops o e H2 v H2:=by
 have hc:=IW hl
 unfold LF at ho ⊢
 split at ho
 ·exact ⟨ho.1,λR' hr=>ho.2.ld hl H2 R' hv hr,λe=>FO,λ_=>⟨rfl,λH3 R' hv3 hr=>ho.2.ld hl H3 R' (by rw [hv3];exact hv) hr⟩,λe=>FO,λ_ H3 R' hv3 hr=>ho.2.ld hl H3 R' (by
   obtain ⟨e1,h1⟩:=hv
   obtain ⟨e2,h2⟩:=hv3
   exact ⟨e1++e2,by rw [h2,h1,List.append_assoc]⟩) hr,λe=>FO⟩
 ·exact ⟨ho.1,ho.2.1,rfl⟩
 ·exact ho.elim
def LF.c5{o:Oper}{e:Fs}{H H':FP}{v:AV}(ho:LF P n h ops o e H v H')(hc:Gz h o=5): ∃ ext,H'=H++ext:=by
 unfold LF at ho
 split at ho
 ·exact ho.2.c5 hc
 ·exact ⟨[],by simp [ho.2.2]⟩
 ·exact ho.elim
def LF.heap2{o:Oper}{e:Fs}{H H':FP}{v:AV}(ho:LF P n h ops o e H v H')(hc:Gz h o=2):Gx H'=Gx H:=by
 unfold LF at ho
 split at ho
 ·exact (ho.2.c2 hc).1
 ·rw [ho.2.2]
 ·exact ho.elim
def LF.heap2'{o:Oper}{e:Fs}{H H':FP}{v:AV}(ho:LF P n h ops o e H v H')(hc:Gz h o=2):(H'=H /\ ∀ H2,LF P n h ops o e H2 v H2) \/
  ∃ (ob off:Nat) (cs:List AV),H[ob]? =some (some cs)/\cs[off]? =some v/\GE v=true/\H'=H.set ob (some (cs.set off (borrow1 v))) /\
   ∀ (H2:FP) (cs2:List AV),H2[ob]? =some (some cs2)->cs2[off]? =some v->LF P n h ops o e H2 v (H2.set ob (some (cs2.set off (borrow1 v)))):=by
 have hvs : ∀ {ob off:Nat} {H2:FP} {cs2:List AV},H2[ob]? =some (some cs2)->cs2[off]? =some v->Gx (H2.set ob (some (cs2.set off (borrow1 v))))=Gx H2:=λ{ob off H2 cs2} h1 h2=>Y4 h1 (by
  apply List.ext_getElem?
  intro i
  simp only [List.getElem?_map,List.getElem?_set]
  split
  ·rename_i hi
   subst hi
   rw [iP (AC.1 h2).1,h2]
   simp [Np]
  ·rfl)
 unfold LF at ho ⊢
 split at ho
 ·rcases (ho.2.c2 hc).2 with ⟨h1,h2⟩|⟨ob,off,cs,g1,g2,g3,g4,g5⟩
  ·exact .inl ⟨h1,λH2=>⟨ho.1,λR' hr=>h2 H2 R' hr,λe=>FO,λe=>FO,λ_=>⟨rfl,.inl ⟨rfl,h2⟩⟩,λhl=>by have:=IW hl;omega,λe=>FO⟩⟩
  ·exact .inr ⟨ob,off,cs,g1,g2,g3,g4,λH2 cs2 k1 k2=>⟨ho.1,λR' hr=>g5 H2 cs2 R' k1 k2 hr,λe=>FO,λe=>FO,λ_=>⟨hvs k1 k2,.inr ⟨ob,off,cs2,k1,k2,g3,rfl,g5⟩⟩,λhl=>by have:=IW hl;omega,λe=>FO⟩⟩
 ·exact .inl ⟨ho.2.2,λH2=>⟨ho.1,ho.2.1,rfl⟩⟩
 ·exact ho.elim
def XR(a:AV):GE (borrow1 a)=false:=by cases a<;>rfl
def LF.swap{x y:Oper}{e e':Fs}{H H1 H2:FP}{v u:AV}(hx:LF P n h ops x e H v H1)(hy:LF P n h ops y e' H1 u H2)(hc:WR (Gz h x) (Gz h y)=true\/(Re h x=true/\Gz h y=5)):
  ∃ H1',LF P n h ops y e' H u H1'/\LF P n h ops x e H1' v H2:=by
 by_cases h0:Gz h x=0
 ·obtain ⟨rfl,hx'⟩:=hx.heap0 h0
  exact ⟨H2,hy,hx' H2⟩
 by_cases h1:Gz h y=0
 ·obtain ⟨rfl,hy'⟩:=hy.heap0 h1
  exact ⟨H,hy' H,hx⟩
 rcases hc with hc|⟨hl,h5⟩
 case inr =>
  obtain ⟨rfl,_⟩:=hx.heap1 (IW hl)
  obtain ⟨ext,rfl⟩:=hy.c5 h5
  exact ⟨_,hy,hx.ld hl ⟨Gx ext,by simp [Gx]⟩⟩
 have hb:Gz h x<=2/\Gz h y<=2:=by
  simp [WR,h0,h1] at hc
  exact ⟨hc.2.1,hc.2.2⟩
 by_cases hx1:Gz h x=1
 ·obtain ⟨rfl,hx'⟩:=hx.heap1 hx1
  have hv:Gx H2=Gx H1:=by
   by_cases hy1:Gz h y=1
   ·rw [(hy.heap1 hy1).1]
   ·exact hy.heap2 FO
  exact ⟨H2,hy,hx' H2 hv⟩
 have hx2:Gz h x=2:=FO
 by_cases hy1:Gz h y=1
 ·obtain ⟨rfl,hy'⟩:=hy.heap1 hy1
  exact ⟨H,hy' H (hx.heap2 hx2).symm,hx⟩
 have hy2:Gz h y=2:=FO
 rcases hx.heap2' hx2 with ⟨rfl,hx'⟩|⟨ob,off,cs,g1,g2,g3,rfl,g5⟩
 ·exact ⟨H2,hy,hx' H2⟩
 rcases hy.heap2' hy2 with ⟨rfl,hy'⟩|⟨ob',off',cs',k1,k2,k3,rfl,k5⟩
 ·exact ⟨H,hy' H,hx⟩
 have hlt:=(AC.1 g1).1
 by_cases ho:ob'=ob
 ·subst ho
  rw [A3 hlt] at k1
  cases k1
  have hne:off'≠off:=by
   rintro rfl
   rw [A3 (AC.1 g2).1] at k2
   cases k2
   rw [XR] at k3;cases k3
  rw [A6 (Ne.symm hne)] at k2
  refine ⟨_,k5 H cs g1 k2, ?_⟩
  have:=g5 (H.set ob' (some (cs.set off' (borrow1 u)))) (cs.set off' (borrow1 u)) (A3 hlt) (by rw [A6 hne];exact g2)
  rw [List.set_set] at this ⊢
  rw [B7 _ _ hne] at this
  exact this
 ·rw [A6 (Ne.symm ho)] at k1
  refine ⟨_,k5 H cs' k1 k2, ?_⟩
  have:=g5 (H.set ob' (some (cs'.set off' (borrow1 u)))) cs (by rw [A6 ho];exact g1) g2
  rw [B7 _ _ ho] at this
  exact this
def RU(d:Option Tmp)(v:AV)(e:Fs)(t:Tmp):Fq (put d v e) t=if d=some t then v else Fq e t:=by
 cases d with
 | none=>simp [put]
 | some d=>simp [put,Fq]
def Hv{o:Oper}{e:Fs}{v:AV}{t:Tmp}(h1:o.dst≠some t)(h2:t∉Id h o):Fq (Ty P h ops o e v) t=Fq e t:=by
 have hev:Fq (ON P (HV o) (Fz h o) o.op.operands.toList e).2 t=Fq e t:=hO _ e t λhtk=>by
  simpa [Id,htk] using h2
 unfold Ty
 split<;>rw [RU,iN h1]
 exact hev
def KN{o:Oper}{e e':Fs}{v:AV}(hx : ∀ t∈o.looksAt ops,Fq e t=Fq e' t){t:Tmp}(ht:o.dst=some t\/Fq e t=Fq e' t):Fq (Ty P h ops o e v) t=Fq (Ty P h ops o e' v) t:=by
 have hev:=(Pg (P:=P) (ty:=HV o) (take:=Fz h o) o.op.operands.toList e e' λt ht=>hx t (NW ht)).2
 unfold Ty
 rw [<- S7 hx]
 split<;>rw [RU,RU]<;>split
 ·rfl
 ·rcases ht with h1|h1
  ·exact absurd h1 ‹_›
  ·exact hev t h1
 ·rfl
 ·rcases ht with h1|h1
  ·exact absurd h1 ‹_›
  ·exact h1
def V6{x y:Oper}(hi:Ly h ops x y=true):(∀ d,x.dst=some d->d∉y.looksAt ops)/\(∀ d,x.dst=some d->y.dst≠some d)/\(∀ d,y.dst=some d->d∉x.looksAt ops) /\
  (∀ t∈Id h x,t∉y.looksAt ops)/\(∀ t∈Id h y,t∉x.looksAt ops)/\(WR (Gz h x) (Gz h y)=true\/(Re h x=true/\Gz h y=5)):=by
 simp only [Ly,Bool.and_eq_true] at hi
 obtain ⟨⟨⟨h1,h2⟩,h3⟩,h4⟩:=hi
 obtain ⟨g1,g2,g3⟩:=Oper.apart_spec h1
 exact ⟨g1,g2,g3,λt ht=>by simpa using An.1 h2 t ht,λt ht=>by simpa using An.1 h3 t ht,by simpa using h4⟩
def I1{o:Oper}{t:Tmp}(ht:t∈Id h o):t∈o.looksAt ops:=by
 unfold Id at ht
 split at ht
 ·exact NW ht
 ·cases ht
def jD{x y:Oper}{K:Fs->FP->Prop}{e:Fs}{H:FP}(hi:Ly h ops x y=true)(hK:Q4 K)(ha:Ic P n h ops x (Ic P n h ops y K) e H):Ic P n h ops y (Ic P n h ops x K) e H:=by
 obtain ⟨i1,i2,i3,i4,i5,i6⟩:=V6 hi
 have hx4:Gz h x≠4:=by
  intro h4
  rcases i6 with i6|i6
  ·rw [h4] at i6;simp [WR] at i6
  ·have:=IW i6.1;omega
 have hy4:Gz h y≠4:=by
  intro h4
  rcases i6 with i6|i6
  ·rw [h4] at i6;simp [WR] at i6
  ·omega
 obtain ⟨v,H1,hx,hya⟩:=Lg hx4 ha
 obtain ⟨u,H2,hy,hk⟩:=Lg hy4 hya
 have hye : ∀ t∈y.looksAt ops,Fq (Ty P h ops x e v) t=Fq e t:=λt ht=>Hv (λhd=>i1 t hd ht) (λhm=>i4 t hm ht)
 have hy':=hy.env hye
 obtain ⟨H1',hy2,hx2⟩:=hx.swap hy' i6
 have hxe : ∀ t∈x.looksAt ops,Fq e t=Fq (Ty P h ops y e u) t:=λt ht=>(Hv (λhd=>i3 t hd ht) (λhm=>i5 t hm ht)).symm
 have hx3:=hx2.env hxe
 refine Ud hy2 (Ud hx3 (hK _ _ _ (λt=>?_) hk))
 by_cases hyd:y.dst=some t
 · -- t is y's
  have hxd:x.dst≠some t:=λhd=>i2 t hd hyd
  have hxt:t∉Id h x:=λhm=>i3 t hyd (I1 hm)
  rw [Hv (o:=x) (e:=Ty P h ops y e u) hxd hxt]
  exact KN hye (.inl hyd)
 ·by_cases hyt:t∈Id h y
  ·have hxd:x.dst≠some t:=λhd=>i1 t hd (I1 hyt)
   have hxt:t∉Id h x:=λhm=>i4 t hm (I1 hyt)
   rw [Hv (o:=x) (e:=Ty P h ops y e u) hxd hxt]
   exact KN hye (.inr (Hv hxd hxt))
  ·rw [Hv (o:=y) hyd hyt]
   refine KN hxe ?_
   by_cases hxd:x.dst=some t
   ·exact .inl hxd
   ·exact .inr (Hv hyd hyt).symm
def ZR{o:Oper}{vals:List AV}{H:FP}{R R':AV->FP->Prop}(hk : ∀ v H',R v H'->R' v H')(ha:Fd P h o vals H R):Fd P h o vals H R':=by
 by_cases hc:Gz h o=4
 ·obtain ⟨dst,op,ty,pos,after,guard⟩:=o
  cases op with
  | call c =>
   obtain ⟨callee,args,ts⟩:=c
   cases callee with
   | value fo =>
    simp only [Gz] at hc
    split at hc
    ·split at hc<;>omega
    ·rename_i hp
     split at hc
     ·omega
     ·rename_i hq
      simp only [Bool.not_eq_true] at hp hq
      unfold Fd at ha ⊢
      simp only [hp,hq] at ha ⊢
      split at ha
      ·exact ha.mono hk
      ·exact ⟨ha.1,ha.2.mono hk⟩
      ·exact ha.elim
   | builtin b=>cases b<;>simp only [Gz] at hc<;>first|omega|(split at hc<;>omega)
   | invoke r m=>simp [Gz] at hc
  | load t a=>simp only [Gz] at hc;split at hc<;>omega
  | binOp op t x y t' =>
   simp only [Gz] at hc
   split at hc
   ·rename_i hy
    unfold Fd at ha ⊢
    cases vals with
    | nil=>exact ha
    | cons a vs=>cases vs with
     | nil=>exact ha
     | cons b vs=>cases vs with
      | nil =>
       simp only [hy] at ha ⊢
       unfold NY at ha ⊢
       split at ha
       ·split at ha
        ·exact ⟨hk _ _ ha.1,hk _ _ ha.2⟩
        ·exact ⟨hk _ _ ha.1,hk _ _ ha.2⟩
        ·exact hk _ _ ha
        ·exact hk _ _ ha
        ·exact hk _ _ ha
        ·exact hk _ _ ha
        ·exact ha.elim
       ·exact ha.elim
      | cons c vs=>exact ha
   ·omega
  | buildSlice t l ps=>simp only [Gz] at hc;split at hc<;>omega
  | range t x =>
   unfold Fd at ha ⊢
   match vals,ha with
   | [a],ha =>
    simp only [Qx] at ha ⊢
    split at ha
    ·exact hk _ _ ha
    ·exact hk _ _ ha
    ·split at ha
     ·exact hk _ _ ha
     ·exact ha.elim
    ·exact ha.elim
  | next x str =>
   unfold Fd at ha ⊢
   match vals,ha with
   | [.it o'],ha =>
    simp only [Wi] at ha ⊢
    split at ha
    ·split at ha
     ·rename_i hp;rw [iP hp];exact hk _ _ ha
     ·rename_i hp;rw [iN hp];exact hk _ _ ha
    ·exact hk _ _ ha
    ·split at ha
     ·exact ⟨ha.1,λh=>hk _ _ (ha.2.1 h),λi p h1 h2=>hk _ _ (ha.2.2 i p h1 h2)⟩
     ·exact ha.elim
    ·exact ha.elim
  | entry x =>
   unfold Fd at ha ⊢
   match vals,ha with
   | [.it o'],ha =>
    simp only [S8] at ha ⊢
    split at ha
    ·split at ha
     ·obtain ⟨h1,p,h2,h3⟩:=ha
      exact ⟨h1,p,h2,hk _ _ h3⟩
     ·exact ha.elim
    ·exact ha.elim
  | slice _ _ _ _ _ =>
   simp only [Gz] at hc
   split at hc<;>omega
  | _=>simp [Gz] at hc
 ·obtain ⟨v,H',hr,hf⟩:=S6 hc ha
  exact hf.again _ (hk _ _ hr)
def LC{o:Oper}{K K':Fs->FP->Prop}{e:Fs}{H:FP}(hk : ∀ e H,K e H->K' e H)(ha:Ic P n h ops o K e H):Ic P n h ops o K' e H:=by
 unfold Ic at ha ⊢
 split at ha
 ·rename_i hg
  exact ⟨ha.1,ZR (λv H' hh=>hk _ _ hh) ha.2⟩
 ·rename_i hg
  exact ⟨ha.1,hk _ _ ha.2⟩
 ·exact ha.elim
def ADM{o:Oper}{K:Fs->FP->Prop}(hK:Q4 K):Q4 (Ic P n h ops o K):=by
 intro e e' H he ha
 have hag:kc ops e o=kc ops e' o:=S7 λt _=>he t
 have hup : ∀ (v:AV) t,Fq (Ty P h ops o e v) t=Fq (Ty P h ops o e' v) t:=λv t=>KN (λt _=>he t) (.inr (he t))
 unfold Ic at ha ⊢
 split at ha
 ·rename_i hg
  rw [<- hag,hg]
  have hev:=(Pg (P:=P) (ty:=HV o) (take:=Fz h o) o.op.operands.toList e e' λt _=>he t).1
  refine ⟨ha.1, ?_⟩
  rw [<- hev]
  refine ZR (λv H' hh=>hK _ _ _ (λt=>?_) hh) ha.2
  have:=hup v t
  simpa only [Ty,hg,<- hag] using this
 ·rename_i hg
  rw [<- hag,hg]
  refine ⟨ha.1,hK _ _ _ (λt=>?_) ha.2⟩
  have:=hup (.tup []) t
  simpa only [Ty,hg,<- hag] using this
 ·exact ha.elim
end
end Go.AI
