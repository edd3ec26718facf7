/- Operations that may be done in either order;a region whose order is left open. -/
import Derived.Test.YtnbekihfchfioaaGreatDoorLd
set_option linter.unusedSimpArgs false
set_option linter.unusedVariables false
set_option linter.defProp false
open List renaming all_eq_true->Ao,getElem?_eq_some_iff->AD,getElem?_set_ne->A6,getElem?_set_self->Az,set_comm->B8
namespace Go.AI
def ON(xs:List Operand):List Tmp:=xs.filterMap fun | .tmp t=>some t|_=>none
def IY(h:Hint)(o:Oper):List Tmp:=if Fy h o then ON o.op.operands.toList else []
def V2(a b:Nat):Bool:=(a<=3&&b<=3&&(a==0||b==0||(a<=2&&b<=2)))||(a==0&&b==5)||(a==5&&b==0)
def Lp(h:Hint)(ops:Array Oper)(x y:Oper):Bool :=
 x.apart ops y&&(IY h x).all (λt => !(y.looksAt ops).contains t)&&(IY h y).all (λt => !(x.looksAt ops).contains t)&&(V2 (Gv h x) (Gv h y)||(RO h x&&Gv h y==5))
def Qu(K:Fp->FN->Prop):Prop:=∀ e e' H,(∀ t,Fm e t=Fm e' t)->K e H->K e' H
section
variable {P:Program} {n:Nat} {h:Hint} {ops:Array Oper}
def vg{ty:Option TypeId}{x:Operand}{e e':Fp}(hx : ∀ t,x = .tmp t->Fm e t=Fm e' t):Gy P ty e x=Gy P ty e' x:=by
 cases x<;>first|exact hx _ rfl|rfl
def AA8{ty:Option TypeId}{take:Bool}{x:Operand}{e:Fp}{t:Tmp}(ht:take=true->x ≠ .tmp t):Fm (M1 P ty take x e).2 t=Fm e t:=by
 cases take with
 | false=>rfl
 | true =>
  simp only [M1]
  split
  ·rename_i t' _
   simp only [Fm]
   rw [iN (λe=>ht rfl (by rw [e]))]
  ·rfl
def vh{ty:Option TypeId}{take:Bool}{x:Operand}{e e':Fp}(hx : ∀ t,x = .tmp t->Fm e t=Fm e' t):
  (M1 P ty take x e).1=(M1 P ty take x e').1 /\ ∀ t,Fm e t=Fm e' t->Fm (M1 P ty take x e).2 t=Fm (M1 P ty take x e').2 t:=by
 have he:=vg (P:=P) (ty:=ty) hx
 cases take with
 | false=>exact ⟨by simp only [M1,he],λt ht=>ht⟩
 | true =>
  refine ⟨by simp only [M1,he],λt ht=>?_⟩
  simp only [M1,he]
  cases x with
  | tmp t' =>
   cases (Gy P ty e' (.tmp t')).owned
   ·exact ht
   ·simp only [Fm]
    split
    ·rw [hx t' rfl]
    ·exact ht
  | _=>cases (Gy P ty e' _).owned<;>exact ht
def PW{ty:Option TypeId}{take:Bool}: ∀ (xs:List Operand) (e e':Fp),(∀ t∈ON xs,Fm e t=Fm e' t) ->
  (OC P ty take xs e).1=(OC P ty take xs e').1 /\ ∀ t,Fm e t=Fm e' t->Fm (OC P ty take xs e).2 t=Fm (OC P ty take xs e').2 t
 | [],e,e',_=>⟨rfl,λt ht=>ht⟩
 | x::xs,e,e',hx=>by
  have h1:=vh (P:=P) (ty:=ty) (take:=take) (x:=x) (e:=e) (e':=e') (λt ht=>hx t (by subst ht;simp [ON]))
  have h2:=PW (ty:=ty) (take:=take) xs (M1 P ty take x e).2 (M1 P ty take x e').2 (λt ht=>h1.2 t (hx t (by
   cases x<;>simp [ON] at ht ⊢ <;> first|exact .inr ht|exact ht)))
  simp only [OC]
  exact ⟨by rw [h1.1,h2.1],λt ht=>h2.2 t (h1.2 t ht)⟩
def fm{ty:Option TypeId}{take:Bool}: ∀ (xs:List Operand) (e:Fp) (t:Tmp),(take=true->t∉ON xs)->Fm (OC P ty take xs e).2 t=Fm e t
 | [],e,t,_=>rfl
 | x::xs,e,t,ht=>by
  simp only [OC]
  rw [fm xs _ t (λh0 hm=>ht h0 (by cases x<;>simp [ON] at hm ⊢ <;> first|exact .inr hm|exact hm)),AA8 (λh0 hx=>ht h0 (by subst hx;simp [ON]))]
def Te(P:Program)(h:Hint)(ops:Array Oper)(o:Oper)(e:Fp)(v:AV):Fp :=
 match jn ops e o with
 | some true=>put o.dst v (OC P (HN o) (Fy h o) o.op.operands.toList e).2
 | _=>put o.dst v e
def K5(P:Program)(n:Nat)(h:Hint)(ops:Array Oper)(o:Oper)(e:Fp)(H:FN)(v:AV)(H':FN):Prop :=
 match jn ops e o with
 | some true=>Gf n o.dst/\Fact P h o (OC P (HN o) (Fy h o) o.op.operands.toList e).1 H v H'
 | some false=>Gf n o.dst/\v = .tup []/\H'=H
 | none=>False
def LW{o:Oper}{K:Fp->FN->Prop}{e:Fp}{H:FN}(hc4:Gv h o≠4)(ha:IX P n h ops o K e H): ∃ v H',K5 P n h ops o e H v H'/\K (Te P h ops o e v) H':=by
 unfold IX at ha
 split at ha
 ·rename_i hg
  obtain ⟨v,H',hK,hf⟩:=So hc4 ha.2
  refine ⟨v,H', ?_, ?_⟩
  ·unfold K5;rw [hg];exact ⟨ha.1,hf⟩
  ·simp only [Te,hg];exact hK
 ·rename_i hg
  refine ⟨.tup [],H, ?_, ?_⟩
  ·unfold K5;rw [hg];exact ⟨ha.1,rfl,rfl⟩
  ·simp only [Te,hg];exact ha.2
 ·exact ha.elim
def UL{o:Oper}{K:Fp->FN->Prop}{e:Fp}{H H':FN}{v:AV}(ho:K5 P n h ops o e H v H')(hK:K (Te P h ops o e v) H'):IX P n h ops o K e H:=by
 unfold K5 at ho
 unfold IX
 split at ho
 ·rename_i hg
  simp only [Te,hg] at hK
  rw [hg]
  exact ⟨ho.1,ho.2.again _ hK⟩
 ·rename_i hg
  simp only [Te,hg] at hK
  obtain ⟨h1,rfl,rfl⟩:=ho
  rw [hg]
  exact ⟨h1,hK⟩
 ·exact ho.elim
def Sp{o:Oper}{e e':Fp}(hx : ∀ t∈o.looksAt ops,Fm e t=Fm e' t):jn ops e o=jn ops e' o:=by
 unfold jn
 cases hg:o.guard with
 | none=>rfl
 | some p =>
  obtain ⟨j,want⟩:=p
  simp only
  cases hd:(ops[j]?).bind (·.dst) with
  | none=>rfl
  | some d =>
   simp only
   rw [hx d (by simp [Oper.looksAt,hg,hd])]
def NN{o:Oper}{t:Tmp}(ht:t∈ON o.op.operands.toList):t∈o.looksAt ops:=by
 unfold Oper.looksAt
 exact List.mem_append_left _ ht
def K5.env{o:Oper}{e e':Fp}{H H':FN}{v:AV}(ho:K5 P n h ops o e H v H')(hx : ∀ t∈o.looksAt ops,Fm e t=Fm e' t):K5 P n h ops o e' H v H':=by
 unfold K5 at ho ⊢
 rw [<- Sp hx,<- (PW (P:=P) (ty:=HN o) (take:=Fy h o) o.op.operands.toList e e' λt ht=>hx t (NN ht)).1]
 exact ho
def K5.heap0{o:Oper}{e:Fp}{H H':FN}{v:AV}(ho:K5 P n h ops o e H v H')(hc:Gv h o=0):H'=H /\ ∀ H2,K5 P n h ops o e H2 v H2:=by
 unfold K5 at ho ⊢
 split at ho
 ·obtain ⟨h1,h2⟩:=ho.2.c0 hc
  refine ⟨h1,λH2=>⟨ho.1,Fact.pure hc λH3 R' hr=>h2 H3 R' hr⟩⟩
 ·exact ⟨ho.2.2,λH2=>⟨ho.1,ho.2.1,rfl⟩⟩
 ·exact ho.elim
def K5.heap1{o:Oper}{e:Fp}{H H':FN}{v:AV}(ho:K5 P n h ops o e H v H')(hc:Gv h o=1):H'=H /\ ∀ H2,Gt H2=Gt H->K5 P n h ops o e H2 v H2:=by
 unfold K5 at ho ⊢
 split at ho
 ·obtain ⟨h1,h2⟩:=ho.2.c1 hc
  exact ⟨h1,λH2 hv=>⟨ho.1,λR' hr=>h2 H2 R' hv hr,λe=>FM,λ_=>⟨rfl,λH3 R' hv3 hr=>h2 H3 R' (hv3.trans hv) hr⟩,λe=>FM,λhl H3 R' hv3 hr=>ho.2.ld hl H3 R' (by rw [<- hv];exact hv3) hr,λe=>FM⟩⟩
 ·exact ⟨ho.2.2,λH2 _=>⟨ho.1,ho.2.1,rfl⟩⟩
 ·exact ho.elim
def K5.ld{o:Oper}{e:Fp}{H H':FN}{v:AV}(ho:K5 P n h ops o e H v H')(hl:RO h o=true){H2:FN}(hv : ∃ ext,Gt H2=Gt H++ext):K5 P n h ops o e H2 v H2:=by
 have hc:=IR hl
 unfold K5 at ho ⊢
 split at ho
 ·exact ⟨ho.1,λR' hr=>ho.2.ld hl H2 R' hv hr,λe=>FM,λ_=>⟨rfl,λH3 R' hv3 hr=>ho.2.ld hl H3 R' (by rw [hv3];exact hv) hr⟩,λe=>FM,λ_ H3 R' hv3 hr=>ho.2.ld hl H3 R' (by
   obtain ⟨e1,h1⟩:=hv
   obtain ⟨e2,h2⟩:=hv3
   exact ⟨e1++e2,by rw [h2,h1,List.append_assoc]⟩) hr,λe=>FM⟩
 ·exact ⟨ho.1,ho.2.1,rfl⟩
 ·exact ho.elim
def K5.c5{o:Oper}{e:Fp}{H H':FN}{v:AV}(ho:K5 P n h ops o e H v H')(hc:Gv h o=5): ∃ ext,H'=H++ext:=by
 unfold K5 at ho
 split at ho
 ·exact ho.2.c5 hc
 ·exact ⟨[],by simp [ho.2.2]⟩
 ·exact ho.elim
def K5.heap2{o:Oper}{e:Fp}{H H':FN}{v:AV}(ho:K5 P n h ops o e H v H')(hc:Gv h o=2):Gt H'=Gt H:=by
 unfold K5 at ho
 split at ho
 ·exact (ho.2.c2 hc).1
 ·rw [ho.2.2]
 ·exact ho.elim
def K5.heap2'{o:Oper}{e:Fp}{H H':FN}{v:AV}(ho:K5 P n h ops o e H v H')(hc:Gv h o=2):(H'=H /\ ∀ H2,K5 P n h ops o e H2 v H2) \/
  ∃ (ob off:Nat) (cs:List AV),H[ob]? =some (some cs)/\cs[off]? =some v/\GB v=true/\H'=H.set ob (some (cs.set off (borrow1 v))) /\
   ∀ (H2:FN) (cs2:List AV),H2[ob]? =some (some cs2)->cs2[off]? =some v->K5 P n h ops o e H2 v (H2.set ob (some (cs2.set off (borrow1 v)))):=by
 have hvs : ∀ {ob off:Nat} {H2:FN} {cs2:List AV},H2[ob]? =some (some cs2)->cs2[off]? =some v->Gt (H2.set ob (some (cs2.set off (borrow1 v))))=Gt H2:=λ{ob off H2 cs2} h1 h2=>YZ h1 (by
  apply List.ext_getElem?
  intro i
  simp only [List.getElem?_map,List.getElem?_set]
  split
  ·rename_i hi
   subst hi
   rw [iP (AD.1 h2).1,h2]
   simp [Nf]
  ·rfl)
 unfold K5 at ho ⊢
 split at ho
 ·rcases (ho.2.c2 hc).2 with ⟨h1,h2⟩|⟨ob,off,cs,g1,g2,g3,g4,g5⟩
  ·exact .inl ⟨h1,λH2=>⟨ho.1,λR' hr=>h2 H2 R' hr,λe=>FM,λe=>FM,λ_=>⟨rfl,.inl ⟨rfl,h2⟩⟩,λhl=>by have:=IR hl;omega,λe=>FM⟩⟩
  ·exact .inr ⟨ob,off,cs,g1,g2,g3,g4,λH2 cs2 k1 k2=>⟨ho.1,λR' hr=>g5 H2 cs2 R' k1 k2 hr,λe=>FM,λe=>FM,λ_=>⟨hvs k1 k2,.inr ⟨ob,off,cs2,k1,k2,g3,rfl,g5⟩⟩,λhl=>by have:=IR hl;omega,λe=>FM⟩⟩
 ·exact .inl ⟨ho.2.2,λH2=>⟨ho.1,ho.2.1,rfl⟩⟩
 ·exact ho.elim
def W2(a:AV):GB (borrow1 a)=false:=by cases a<;>rfl
def K5.swap{x y:Oper}{e e':Fp}{H H1 H2:FN}{v u:AV}(hx:K5 P n h ops x e H v H1)(hy:K5 P n h ops y e' H1 u H2)(hc:V2 (Gv h x) (Gv h y)=true\/(RO h x=true/\Gv h y=5)):
  ∃ H1',K5 P n h ops y e' H u H1'/\K5 P n h ops x e H1' v H2:=by
 by_cases h0:Gv h x=0
 ·obtain ⟨rfl,hx'⟩:=hx.heap0 h0
  exact ⟨H2,hy,hx' H2⟩
 by_cases h1:Gv h y=0
 ·obtain ⟨rfl,hy'⟩:=hy.heap0 h1
  exact ⟨H,hy' H,hx⟩
 rcases hc with hc|⟨hl,h5⟩
 case inr =>
  obtain ⟨rfl,_⟩:=hx.heap1 (IR hl)
  obtain ⟨ext,rfl⟩:=hy.c5 h5
  exact ⟨_,hy,hx.ld hl ⟨Gt ext,by simp [Gt]⟩⟩
 have hb:Gv h x<=2/\Gv h y<=2:=by
  simp [V2,h0,h1] at hc
  exact ⟨hc.2.1,hc.2.2⟩
 by_cases hx1:Gv h x=1
 ·obtain ⟨rfl,hx'⟩:=hx.heap1 hx1
  have hv:Gt H2=Gt H1:=by
   by_cases hy1:Gv h y=1
   ·rw [(hy.heap1 hy1).1]
   ·exact hy.heap2 FM
  exact ⟨H2,hy,hx' H2 hv⟩
 have hx2:Gv h x=2:=FM
 by_cases hy1:Gv h y=1
 ·obtain ⟨rfl,hy'⟩:=hy.heap1 hy1
  exact ⟨H,hy' H (hx.heap2 hx2).symm,hx⟩
 have hy2:Gv h y=2:=FM
 rcases hx.heap2' hx2 with ⟨rfl,hx'⟩|⟨ob,off,cs,g1,g2,g3,rfl,g5⟩
 ·exact ⟨H2,hy,hx' H2⟩
 rcases hy.heap2' hy2 with ⟨rfl,hy'⟩|⟨ob',off',cs',k1,k2,k3,rfl,k5⟩
 ·exact ⟨H,hy' H,hx⟩
 have hlt:=(AD.1 g1).1
 by_cases ho:ob'=ob
 ·subst ho
  rw [Az hlt] at k1
  cases k1
  have hne:off'≠off:=by
   rintro rfl
   rw [Az (AD.1 g2).1] at k2
   cases k2
   rw [W2] at k3;cases k3
  rw [A6 (Ne.symm hne)] at k2
  refine ⟨_,k5 H cs g1 k2, ?_⟩
  have:=g5 (H.set ob' (some (cs.set off' (borrow1 u)))) (cs.set off' (borrow1 u)) (Az hlt) (by rw [A6 hne];exact g2)
  rw [List.set_set] at this ⊢
  rw [B8 _ _ hne] at this
  exact this
 ·rw [A6 (Ne.symm ho)] at k1
  refine ⟨_,k5 H cs' k1 k2, ?_⟩
  have:=g5 (H.set ob' (some (cs'.set off' (borrow1 u)))) cs (by rw [A6 ho];exact g1) g2
  rw [B8 _ _ ho] at this
  exact this
def RG(d:Option Tmp)(v:AV)(e:Fp)(t:Tmp):Fm (put d v e) t=if d=some t then v else Fm e t:=by
 cases d with
 | none=>simp [put]
 | some d=>simp [put,Fm]
def Hp{o:Oper}{e:Fp}{v:AV}{t:Tmp}(h1:o.dst≠some t)(h2:t∉IY h o):Fm (Te P h ops o e v) t=Fm e t:=by
 have hev:Fm (OC P (HN o) (Fy h o) o.op.operands.toList e).2 t=Fm e t:=fm _ e t λhtk=>by
  simpa [IY,htk] using h2
 unfold Te
 split<;>rw [RG,iN h1]
 exact hev
def KI{o:Oper}{e e':Fp}{v:AV}(hx : ∀ t∈o.looksAt ops,Fm e t=Fm e' t){t:Tmp}(ht:o.dst=some t\/Fm e t=Fm e' t):Fm (Te P h ops o e v) t=Fm (Te P h ops o e' v) t:=by
 have hev:=(PW (P:=P) (ty:=HN o) (take:=Fy h o) o.op.operands.toList e e' λt ht=>hx t (NN ht)).2
 unfold Te
 rw [<- Sp hx]
 split<;>rw [RG,RG]<;>split
 ·rfl
 ·rcases ht with h1|h1
  ·exact absurd h1 ‹_›
  ·exact hev t h1
 ·rfl
 ·rcases ht with h1|h1
  ·exact absurd h1 ‹_›
  ·exact h1
def Vh{x y:Oper}(hi:Lp h ops x y=true):(∀ d,x.dst=some d->d∉y.looksAt ops)/\(∀ d,x.dst=some d->y.dst≠some d)/\(∀ d,y.dst=some d->d∉x.looksAt ops) /\
  (∀ t∈IY h x,t∉y.looksAt ops)/\(∀ t∈IY h y,t∉x.looksAt ops)/\(V2 (Gv h x) (Gv h y)=true\/(RO h x=true/\Gv h y=5)):=by
 simp only [Lp,Bool.and_eq_true] at hi
 obtain ⟨⟨⟨h1,h2⟩,h3⟩,h4⟩:=hi
 obtain ⟨g1,g2,g3⟩:=Oper.apart_spec h1
 exact ⟨g1,g2,g3,λt ht=>by simpa using Ao.1 h2 t ht,λt ht=>by simpa using Ao.1 h3 t ht,by simpa using h4⟩
def Iw{o:Oper}{t:Tmp}(ht:t∈IY h o):t∈o.looksAt ops:=by
 unfold IY at ht
 split at ht
 ·exact NN ht
 ·cases ht
def iG{x y:Oper}{K:Fp->FN->Prop}{e:Fp}{H:FN}(hi:Lp h ops x y=true)(hK:Qu K)(ha:IX P n h ops x (IX P n h ops y K) e H):IX P n h ops y (IX P n h ops x K) e H:=by
 obtain ⟨i1,i2,i3,i4,i5,i6⟩:=Vh hi
 have hx4:Gv h x≠4:=by
  intro h4
  rcases i6 with i6|i6
  ·rw [h4] at i6;simp [V2] at i6
  ·have:=IR i6.1;omega
 have hy4:Gv h y≠4:=by
  intro h4
  rcases i6 with i6|i6
  ·rw [h4] at i6;simp [V2] at i6
  ·omega
 obtain ⟨v,H1,hx,hya⟩:=LW hx4 ha
 obtain ⟨u,H2,hy,hk⟩:=LW hy4 hya
 have hye : ∀ t∈y.looksAt ops,Fm (Te P h ops x e v) t=Fm e t:=λt ht=>Hp (λhd=>i1 t hd ht) (λhm=>i4 t hm ht)
 have hy':=hy.env hye
 obtain ⟨H1',hy2,hx2⟩:=hx.swap hy' i6
 have hxe : ∀ t∈x.looksAt ops,Fm e t=Fm (Te P h ops y e u) t:=λt ht=>(Hp (λhd=>i3 t hd ht) (λhm=>i5 t hm ht)).symm
 have hx3:=hx2.env hxe
 refine UL hy2 (UL hx3 (hK _ _ _ (λt=>?_) hk))
 by_cases hyd:y.dst=some t
 · -- t is y's
  have hxd:x.dst≠some t:=λhd=>i2 t hd hyd
  have hxt:t∉IY h x:=λhm=>i3 t hyd (Iw hm)
  rw [Hp (o:=x) (e:=Te P h ops y e u) hxd hxt]
  exact KI hye (.inl hyd)
 ·by_cases hyt:t∈IY h y
  ·have hxd:x.dst≠some t:=λhd=>i1 t hd (Iw hyt)
   have hxt:t∉IY h x:=λhm=>i4 t hm (Iw hyt)
   rw [Hp (o:=x) (e:=Te P h ops y e u) hxd hxt]
   exact KI hye (.inr (Hp hxd hxt))
  ·rw [Hp (o:=y) hyd hyt]
   refine KI hxe ?_
   by_cases hxd:x.dst=some t
   ·exact .inl hxd
   ·exact .inr (Hp hyd hyt).symm
def Yy{o:Oper}{vals:List AV}{H:FN}{R R':AV->FN->Prop}(hk : ∀ v H',R v H'->R' v H')(ha:Fb P h o vals H R):Fb P h o vals H R':=by
 by_cases hc:Gv h o=4
 ·obtain ⟨dst,op,ty,pos,after,guard⟩:=o
  cases op with
  | call c =>
   obtain ⟨callee,args,ts⟩:=c
   cases callee with
   | value fo =>
    simp only [Gv] at hc
    split at hc
    ·split at hc<;>omega
    ·rename_i hp
     split at hc
     ·omega
     ·rename_i hq
      simp only [Bool.not_eq_true] at hp hq
      unfold Fb at ha ⊢
      simp only [hp,hq] at ha ⊢
      split at ha
      ·exact ha.mono hk
      ·exact ⟨ha.1,ha.2.mono hk⟩
      ·exact ha.elim
   | builtin b=>cases b<;>simp only [Gv] at hc<;>first|omega|(split at hc<;>omega)
   | invoke r m=>simp [Gv] at hc
  | load t a=>simp only [Gv] at hc;split at hc<;>omega
  | binOp op t x y t' =>
   simp only [Gv] at hc
   split at hc
   ·rename_i hy
    unfold Fb at ha ⊢
    cases vals with
    | nil=>exact ha
    | cons a vs=>cases vs with
     | nil=>exact ha
     | cons b vs=>cases vs with
      | nil =>
       simp only [hy] at ha ⊢
       unfold NP at ha ⊢
       split at ha
       ·split at ha
        ·exact ⟨hk _ _ ha.1,hk _ _ ha.2⟩
        ·exact ⟨hk _ _ ha.1,hk _ _ ha.2⟩
        ·exact hk _ _ ha
        ·exact hk _ _ ha
        ·exact hk _ _ ha
        ·exact hk _ _ ha
        ·exact ha.elim
       ·exact ha.elim
      | cons c vs=>exact ha
   ·omega
  | buildSlice t l ps=>simp only [Gv] at hc;split at hc<;>omega
  | range t x =>
   unfold Fb at ha ⊢
   match vals,ha with
   | [a],ha =>
    simp only [Qn] at ha ⊢
    split at ha
    ·exact hk _ _ ha
    ·exact hk _ _ ha
    ·split at ha
     ·exact hk _ _ ha
     ·exact ha.elim
    ·exact ha.elim
  | next x str =>
   unfold Fb at ha ⊢
   match vals,ha with
   | [.it o'],ha =>
    simp only [WJ] at ha ⊢
    split at ha
    ·split at ha
     ·rename_i hp;rw [iP hp];exact hk _ _ ha
     ·rename_i hp;rw [iN hp];exact hk _ _ ha
    ·exact hk _ _ ha
    ·split at ha
     ·exact ⟨ha.1,λh=>hk _ _ (ha.2.1 h),λi p h1 h2=>hk _ _ (ha.2.2 i p h1 h2)⟩
     ·exact ha.elim
    ·exact ha.elim
  | entry x =>
   unfold Fb at ha ⊢
   match vals,ha with
   | [.it o'],ha =>
    simp only [Sq] at ha ⊢
    split at ha
    ·split at ha
     ·obtain ⟨h1,p,h2,h3⟩:=ha
      exact ⟨h1,p,h2,hk _ _ h3⟩
     ·exact ha.elim
    ·exact ha.elim
  | slice _ _ _ _ _ =>
   simp only [Gv] at hc
   split at hc<;>omega
  | _=>simp [Gv] at hc
 ·obtain ⟨v,H',hr,hf⟩:=So hc ha
  exact hf.again _ (hk _ _ hr)
def K2{o:Oper}{K K':Fp->FN->Prop}{e:Fp}{H:FN}(hk : ∀ e H,K e H->K' e H)(ha:IX P n h ops o K e H):IX P n h ops o K' e H:=by
 unfold IX at ha ⊢
 split at ha
 ·rename_i hg
  exact ⟨ha.1,Yy (λv H' hh=>hk _ _ hh) ha.2⟩
 ·rename_i hg
  exact ⟨ha.1,hk _ _ ha.2⟩
 ·exact ha.elim
def ACC{o:Oper}{K:Fp->FN->Prop}(hK:Qu K):Qu (IX P n h ops o K):=by
 intro e e' H he ha
 have hag:jn ops e o=jn ops e' o:=Sp λt _=>he t
 have hup : ∀ (v:AV) t,Fm (Te P h ops o e v) t=Fm (Te P h ops o e' v) t:=λv t=>KI (λt _=>he t) (.inr (he t))
 unfold IX at ha ⊢
 split at ha
 ·rename_i hg
  rw [<- hag,hg]
  have hev:=(PW (P:=P) (ty:=HN o) (take:=Fy h o) o.op.operands.toList e e' λt _=>he t).1
  refine ⟨ha.1, ?_⟩
  rw [<- hev]
  refine Yy (λv H' hh=>hK _ _ _ (λt=>?_) hh) ha.2
  have:=hup v t
  simpa only [Te,hg,<- hag] using this
 ·rename_i hg
  rw [<- hag,hg]
  refine ⟨ha.1,hK _ _ _ (λt=>?_) ha.2⟩
  have:=hup (.tup []) t
  simpa only [Te,hg,<- hag] using this
 ·exact ha.elim
end
end Go.AI
