/- Operations that may be done in either order;a region whose order is left open. -/
import Derived.Test.YtebladleneahcaaGreatDoorLd
set_option linter.unusedSimpArgs false
set_option linter.unusedVariables false
set_option linter.defProp false
open List renaming all_eq_true->Am,getElem?_eq_some_iff->AC,getElem?_set_ne->A5,getElem?_set_self->A3,set_comm->B8
namespace Go.AI
def Oa(xs:List Operand):List Tmp:=xs.filterMap fun | .tmp t=>some t|_=>none
def IZ(h:Hint)(o:Oper):List Tmp:=if Fz h o then Oa o.op.operands.toList else []
def Wl(a b:Nat):Bool:=(a<=3&&b<=3&&(a==0||b==0||(a<=2&&b<=2)))||(a==0&&b==5)||(a==5&&b==0)
def Lr(h:Hint)(ops:Array Oper)(x y:Oper):Bool :=
 x.apart ops y&&(IZ h x).all (λt => !(y.looksAt ops).contains t)&&(IZ h y).all (λt => !(x.looksAt ops).contains t)&&(Wl (Gx h x) (Gx h y)||(Ry h x&&Gx h y==5))
def RJ(K:Ft->FR->Prop):Prop:=∀ e e' H,(∀ t,Fp e t=Fp e' t)->K e H->K e' H
section
variable {P:Program} {n:Nat} {h:Hint} {ops:Array Oper}
def xl{ty:Option TypeId}{x:Operand}{e e':Ft}(hx : ∀ t,x = .tmp t->Fp e t=Fp e' t):G5 P ty e x=G5 P ty e' x:=by
 cases x<;>first|exact hx _ rfl|rfl
def ACn{ty:Option TypeId}{take:Bool}{x:Operand}{e:Ft}{t:Tmp}(ht:take=true->x ≠ .tmp t):Fp (M8 P ty take x e).2 t=Fp e t:=by
 cases take with
 | false=>rfl
 | true =>
  simp only [M8]
  split
  ·rename_i t' _
   simp only [Fp]
   rw [iN (λe=>ht rfl (by rw [e]))]
  ·rfl
def xm{ty:Option TypeId}{take:Bool}{x:Operand}{e e':Ft}(hx : ∀ t,x = .tmp t->Fp e t=Fp e' t):
  (M8 P ty take x e).1=(M8 P ty take x e').1 /\ ∀ t,Fp e t=Fp e' t->Fp (M8 P ty take x e).2 t=Fp (M8 P ty take x e').2 t:=by
 have he:=xl (P:=P) (ty:=ty) hx
 cases take with
 | false=>exact ⟨by simp only [M8,he],λt ht=>ht⟩
 | true =>
  refine ⟨by simp only [M8,he],λt ht=>?_⟩
  simp only [M8,he]
  cases x with
  | tmp t' =>
   cases (G5 P ty e' (.tmp t')).owned
   ·exact ht
   ·simp only [Fp]
    split
    ·rw [hx t' rfl]
    ·exact ht
  | _=>cases (G5 P ty e' _).owned<;>exact ht
def Pm{ty:Option TypeId}{take:Bool}: ∀ (xs:List Operand) (e e':Ft),(∀ t∈Oa xs,Fp e t=Fp e' t) ->
  (OP P ty take xs e).1=(OP P ty take xs e').1 /\ ∀ t,Fp e t=Fp e' t->Fp (OP P ty take xs e).2 t=Fp (OP P ty take xs e').2 t
 | [],e,e',_=>⟨rfl,λt ht=>ht⟩
 | x::xs,e,e',hx=>by
  have h1:=xm (P:=P) (ty:=ty) (take:=take) (x:=x) (e:=e) (e':=e') (λt ht=>hx t (by subst ht;simp [Oa]))
  have h2:=Pm (ty:=ty) (take:=take) xs (M8 P ty take x e).2 (M8 P ty take x e').2 (λt ht=>h1.2 t (hx t (by
   cases x<;>simp [Oa] at ht ⊢ <;> first|exact .inr ht|exact ht)))
  simp only [OP]
  exact ⟨by rw [h1.1,h2.1],λt ht=>h2.2 t (h1.2 t ht)⟩
def ix{ty:Option TypeId}{take:Bool}: ∀ (xs:List Operand) (e:Ft) (t:Tmp),(take=true->t∉Oa xs)->Fp (OP P ty take xs e).2 t=Fp e t
 | [],e,t,_=>rfl
 | x::xs,e,t,ht=>by
  simp only [OP]
  rw [ix xs _ t (λh0 hm=>ht h0 (by cases x<;>simp [Oa] at hm ⊢ <;> first|exact .inr hm|exact hm)),ACn (λh0 hx=>ht h0 (by subst hx;simp [Oa]))]
def UJ(P:Program)(h:Hint)(ops:Array Oper)(o:Oper)(e:Ft)(v:AV):Ft :=
 match lV ops e o with
 | some true=>put o.dst v (OP P (HR o) (Fz h o) o.op.operands.toList e).2
 | _=>put o.dst v e
def K9(P:Program)(n:Nat)(h:Hint)(ops:Array Oper)(o:Oper)(e:Ft)(H:FR)(v:AV)(H':FR):Prop :=
 match lV ops e o with
 | some true=>Gi n o.dst/\Fact P h o (OP P (HR o) (Fz h o) o.op.operands.toList e).1 H v H'
 | some false=>Gi n o.dst/\v = .tup []/\H'=H
 | none=>False
def LX{o:Oper}{K:Ft->FR->Prop}{e:Ft}{H:FR}(hc4:Gx h o≠4)(ha:IY P n h ops o K e H): ∃ v H',K9 P n h ops o e H v H'/\K (UJ P h ops o e v) H':=by
 unfold IY at ha
 split at ha
 ·rename_i hg
  obtain ⟨v,H',hK,hf⟩:=TT hc4 ha.2
  refine ⟨v,H', ?_, ?_⟩
  ·unfold K9;rw [hg];exact ⟨ha.1,hf⟩
  ·simp only [UJ,hg];exact hK
 ·rename_i hg
  refine ⟨.tup [],H, ?_, ?_⟩
  ·unfold K9;rw [hg];exact ⟨ha.1,rfl,rfl⟩
  ·simp only [UJ,hg];exact ha.2
 ·exact ha.elim
def Uz{o:Oper}{K:Ft->FR->Prop}{e:Ft}{H H':FR}{v:AV}(ho:K9 P n h ops o e H v H')(hK:K (UJ P h ops o e v) H'):IY P n h ops o K e H:=by
 unfold K9 at ho
 unfold IY
 split at ho
 ·rename_i hg
  simp only [UJ,hg] at hK
  rw [hg]
  exact ⟨ho.1,ho.2.again _ hK⟩
 ·rename_i hg
  simp only [UJ,hg] at hK
  obtain ⟨h1,rfl,rfl⟩:=ho
  rw [hg]
  exact ⟨h1,hK⟩
 ·exact ho.elim
def TU{o:Oper}{e e':Ft}(hx : ∀ t∈o.looksAt ops,Fp e t=Fp e' t):lV ops e o=lV ops e' o:=by
 unfold lV
 cases hg:o.guard with
 | none=>rfl
 | some p =>
  obtain ⟨j,want⟩:=p
  simp only
  cases hd:(ops[j]?).bind (·.dst) with
  | none=>rfl
  | some d =>
   simp only
   rw [hx d (by simp [Oper.looksAt,hg,hd])]
def NY{o:Oper}{t:Tmp}(ht:t∈Oa o.op.operands.toList):t∈o.looksAt ops:=by
 unfold Oper.looksAt
 exact List.mem_append_left _ ht
def K9.env{o:Oper}{e e':Ft}{H H':FR}{v:AV}(ho:K9 P n h ops o e H v H')(hx : ∀ t∈o.looksAt ops,Fp e t=Fp e' t):K9 P n h ops o e' H v H':=by
 unfold K9 at ho ⊢
 rw [<- TU hx,<- (Pm (P:=P) (ty:=HR o) (take:=Fz h o) o.op.operands.toList e e' λt ht=>hx t (NY ht)).1]
 exact ho
def K9.heap0{o:Oper}{e:Ft}{H H':FR}{v:AV}(ho:K9 P n h ops o e H v H')(hc:Gx h o=0):H'=H /\ ∀ H2,K9 P n h ops o e H2 v H2:=by
 unfold K9 at ho ⊢
 split at ho
 ·obtain ⟨h1,h2⟩:=ho.2.c0 hc
  refine ⟨h1,λH2=>⟨ho.1,Fact.pure hc λH3 R' hr=>h2 H3 R' hr⟩⟩
 ·exact ⟨ho.2.2,λH2=>⟨ho.1,ho.2.1,rfl⟩⟩
 ·exact ho.elim
def K9.heap1{o:Oper}{e:Ft}{H H':FR}{v:AV}(ho:K9 P n h ops o e H v H')(hc:Gx h o=1):H'=H /\ ∀ H2,Gv H2=Gv H->K9 P n h ops o e H2 v H2:=by
 unfold K9 at ho ⊢
 split at ho
 ·obtain ⟨h1,h2⟩:=ho.2.c1 hc
  exact ⟨h1,λH2 hv=>⟨ho.1,λR' hr=>h2 H2 R' hv hr,λe=>FQ,λ_=>⟨rfl,λH3 R' hv3 hr=>h2 H3 R' (hv3.trans hv) hr⟩,λe=>FQ,λhl H3 R' hv3 hr=>ho.2.ld hl H3 R' (by rw [<- hv];exact hv3) hr,λe=>FQ⟩⟩
 ·exact ⟨ho.2.2,λH2 _=>⟨ho.1,ho.2.1,rfl⟩⟩
 ·exact ho.elim
def K9.ld{o:Oper}{e:Ft}{H H':FR}{v:AV}(ho:K9 P n h ops o e H v H')(hl:Ry h o=true){H2:FR}(hv : ∃ ext,Gv H2=Gv H++ext):K9 P n h ops o e H2 v H2:=by
 have hc:=IV hl
 unfold K9 at ho ⊢
 split at ho
 ·exact ⟨ho.1,λR' hr=>ho.2.ld hl H2 R' hv hr,λe=>FQ,λ_=>⟨rfl,λH3 R' hv3 hr=>ho.2.ld hl H3 R' (by rw [hv3];exact hv) hr⟩,λe=>FQ,λ_ H3 R' hv3 hr=>ho.2.ld hl H3 R' (by
   obtain ⟨e1,h1⟩:=hv
   obtain ⟨e2,h2⟩:=hv3
   exact ⟨e1++e2,by rw [h2,h1,List.append_assoc]⟩) hr,λe=>FQ⟩
 ·exact ⟨ho.1,ho.2.1,rfl⟩
 ·exact ho.elim
def K9.c5{o:Oper}{e:Ft}{H H':FR}{v:AV}(ho:K9 P n h ops o e H v H')(hc:Gx h o=5): ∃ ext,H'=H++ext:=by
 unfold K9 at ho
 split at ho
 ·exact ho.2.c5 hc
 ·exact ⟨[],by simp [ho.2.2]⟩
 ·exact ho.elim
def K9.heap2{o:Oper}{e:Ft}{H H':FR}{v:AV}(ho:K9 P n h ops o e H v H')(hc:Gx h o=2):Gv H'=Gv H:=by
 unfold K9 at ho
 split at ho
 ·exact (ho.2.c2 hc).1
 ·rw [ho.2.2]
 ·exact ho.elim
def K9.heap2'{o:Oper}{e:Ft}{H H':FR}{v:AV}(ho:K9 P n h ops o e H v H')(hc:Gx h o=2):(H'=H /\ ∀ H2,K9 P n h ops o e H2 v H2) \/
  ∃ (ob off:Nat) (cs:List AV),H[ob]? =some (some cs)/\cs[off]? =some v/\F8 v=true/\H'=H.set ob (some (cs.set off (borrow1 v))) /\
   ∀ (H2:FR) (cs2:List AV),H2[ob]? =some (some cs2)->cs2[off]? =some v->K9 P n h ops o e H2 v (H2.set ob (some (cs2.set off (borrow1 v)))):=by
 have hvs : ∀ {ob off:Nat} {H2:FR} {cs2:List AV},H2[ob]? =some (some cs2)->cs2[off]? =some v->Gv (H2.set ob (some (cs2.set off (borrow1 v))))=Gv H2:=λ{ob off H2 cs2} h1 h2=>ZU h1 (by
  apply List.ext_getElem?
  intro i
  simp only [List.getElem?_map,List.getElem?_set]
  split
  ·rename_i hi
   subst hi
   rw [iP (AC.1 h2).1,h2]
   simp [Nr]
  ·rfl)
 unfold K9 at ho ⊢
 split at ho
 ·rcases (ho.2.c2 hc).2 with ⟨h1,h2⟩|⟨ob,off,cs,g1,g2,g3,g4,g5⟩
  ·exact .inl ⟨h1,λH2=>⟨ho.1,λR' hr=>h2 H2 R' hr,λe=>FQ,λe=>FQ,λ_=>⟨rfl,.inl ⟨rfl,h2⟩⟩,λhl=>by have:=IV hl;omega,λe=>FQ⟩⟩
  ·exact .inr ⟨ob,off,cs,g1,g2,g3,g4,λH2 cs2 k1 k2=>⟨ho.1,λR' hr=>g5 H2 cs2 R' k1 k2 hr,λe=>FQ,λe=>FQ,λ_=>⟨hvs k1 k2,.inr ⟨ob,off,cs2,k1,k2,g3,rfl,g5⟩⟩,λhl=>by have:=IV hl;omega,λe=>FQ⟩⟩
 ·exact .inl ⟨ho.2.2,λH2=>⟨ho.1,ho.2.1,rfl⟩⟩
 ·exact ho.elim
def Xr(a:AV):F8 (borrow1 a)=false:=by cases a<;>rfl
def K9.swap{x y:Oper}{e e':Ft}{H H1 H2:FR}{v u:AV}(hx:K9 P n h ops x e H v H1)(hy:K9 P n h ops y e' H1 u H2)(hc:Wl (Gx h x) (Gx h y)=true\/(Ry h x=true/\Gx h y=5)):
  ∃ H1',K9 P n h ops y e' H u H1'/\K9 P n h ops x e H1' v H2:=by
 by_cases h0:Gx h x=0
 ·obtain ⟨rfl,hx'⟩:=hx.heap0 h0
  exact ⟨H2,hy,hx' H2⟩
 by_cases h1:Gx h y=0
 ·obtain ⟨rfl,hy'⟩:=hy.heap0 h1
  exact ⟨H,hy' H,hx⟩
 rcases hc with hc|⟨hl,h5⟩
 case inr =>
  obtain ⟨rfl,_⟩:=hx.heap1 (IV hl)
  obtain ⟨ext,rfl⟩:=hy.c5 h5
  exact ⟨_,hy,hx.ld hl ⟨Gv ext,by simp [Gv]⟩⟩
 have hb:Gx h x<=2/\Gx h y<=2:=by
  simp [Wl,h0,h1] at hc
  exact ⟨hc.2.1,hc.2.2⟩
 by_cases hx1:Gx h x=1
 ·obtain ⟨rfl,hx'⟩:=hx.heap1 hx1
  have hv:Gv H2=Gv H1:=by
   by_cases hy1:Gx h y=1
   ·rw [(hy.heap1 hy1).1]
   ·exact hy.heap2 FQ
  exact ⟨H2,hy,hx' H2 hv⟩
 have hx2:Gx h x=2:=FQ
 by_cases hy1:Gx h y=1
 ·obtain ⟨rfl,hy'⟩:=hy.heap1 hy1
  exact ⟨H,hy' H (hx.heap2 hx2).symm,hx⟩
 have hy2:Gx h y=2:=FQ
 rcases hx.heap2' hx2 with ⟨rfl,hx'⟩|⟨ob,off,cs,g1,g2,g3,rfl,g5⟩
 ·exact ⟨H2,hy,hx' H2⟩
 rcases hy.heap2' hy2 with ⟨rfl,hy'⟩|⟨ob',off',cs',k1,k2,k3,rfl,k5⟩
 ·exact ⟨H,hy' H,hx⟩
 have hlt:=(AC.1 g1).1
 by_cases ho:ob'=ob
 ·subst ho
  rw [A3 hlt] at k1
  cases k1
  have hne:off'≠off:=by
   rintro rfl
   rw [A3 (AC.1 g2).1] at k2
   cases k2
   rw [Xr] at k3;cases k3
  rw [A5 (Ne.symm hne)] at k2
  refine ⟨_,k5 H cs g1 k2, ?_⟩
  have:=g5 (H.set ob' (some (cs.set off' (borrow1 u)))) (cs.set off' (borrow1 u)) (A3 hlt) (by rw [A5 hne];exact g2)
  rw [List.set_set] at this ⊢
  rw [B8 _ _ hne] at this
  exact this
 ·rw [A5 (Ne.symm ho)] at k1
  refine ⟨_,k5 H cs' k1 k2, ?_⟩
  have:=g5 (H.set ob' (some (cs'.set off' (borrow1 u)))) cs (by rw [A5 ho];exact g1) g2
  rw [B8 _ _ ho] at this
  exact this
def Rn(d:Option Tmp)(v:AV)(e:Ft)(t:Tmp):Fp (put d v e) t=if d=some t then v else Fp e t:=by
 cases d with
 | none=>simp [put]
 | some d=>simp [put,Fp]
def Hs{o:Oper}{e:Ft}{v:AV}{t:Tmp}(h1:o.dst≠some t)(h2:t∉IZ h o):Fp (UJ P h ops o e v) t=Fp e t:=by
 have hev:Fp (OP P (HR o) (Fz h o) o.op.operands.toList e).2 t=Fp e t:=ix _ e t λhtk=>by
  simpa [IZ,htk] using h2
 unfold UJ
 split<;>rw [Rn,iN h1]
 exact hev
def KL{o:Oper}{e e':Ft}{v:AV}(hx : ∀ t∈o.looksAt ops,Fp e t=Fp e' t){t:Tmp}(ht:o.dst=some t\/Fp e t=Fp e' t):Fp (UJ P h ops o e v) t=Fp (UJ P h ops o e' v) t:=by
 have hev:=(Pm (P:=P) (ty:=HR o) (take:=Fz h o) o.op.operands.toList e e' λt ht=>hx t (NY ht)).2
 unfold UJ
 rw [<- TU hx]
 split<;>rw [Rn,Rn]<;>split
 ·rfl
 ·rcases ht with h1|h1
  ·exact absurd h1 ‹_›
  ·exact hev t h1
 ·rfl
 ·rcases ht with h1|h1
  ·exact absurd h1 ‹_›
  ·exact h1
def WQ{x y:Oper}(hi:Lr h ops x y=true):(∀ d,x.dst=some d->d∉y.looksAt ops)/\(∀ d,x.dst=some d->y.dst≠some d)/\(∀ d,y.dst=some d->d∉x.looksAt ops) /\
  (∀ t∈IZ h x,t∉y.looksAt ops)/\(∀ t∈IZ h y,t∉x.looksAt ops)/\(Wl (Gx h x) (Gx h y)=true\/(Ry h x=true/\Gx h y=5)):=by
 simp only [Lr,Bool.and_eq_true] at hi
 obtain ⟨⟨⟨h1,h2⟩,h3⟩,h4⟩:=hi
 obtain ⟨g1,g2,g3⟩:=Oper.apart_spec h1
 exact ⟨g1,g2,g3,λt ht=>by simpa using Am.1 h2 t ht,λt ht=>by simpa using Am.1 h3 t ht,by simpa using h4⟩
def Iy{o:Oper}{t:Tmp}(ht:t∈IZ h o):t∈o.looksAt ops:=by
 unfold IZ at ht
 split at ht
 ·exact NY ht
 ·cases ht
def jo{x y:Oper}{K:Ft->FR->Prop}{e:Ft}{H:FR}(hi:Lr h ops x y=true)(hK:RJ K)(ha:IY P n h ops x (IY P n h ops y K) e H):IY P n h ops y (IY P n h ops x K) e H:=by
 obtain ⟨i1,i2,i3,i4,i5,i6⟩:=WQ hi
 have hx4:Gx h x≠4:=by
  intro h4
  rcases i6 with i6|i6
  ·rw [h4] at i6;simp [Wl] at i6
  ·have:=IV i6.1;omega
 have hy4:Gx h y≠4:=by
  intro h4
  rcases i6 with i6|i6
  ·rw [h4] at i6;simp [Wl] at i6
  ·omega
 obtain ⟨v,H1,hx,hya⟩:=LX hx4 ha
 obtain ⟨u,H2,hy,hk⟩:=LX hy4 hya
 have hye : ∀ t∈y.looksAt ops,Fp (UJ P h ops x e v) t=Fp e t:=λt ht=>Hs (λhd=>i1 t hd ht) (λhm=>i4 t hm ht)
 have hy':=hy.env hye
 obtain ⟨H1',hy2,hx2⟩:=hx.swap hy' i6
 have hxe : ∀ t∈x.looksAt ops,Fp e t=Fp (UJ P h ops y e u) t:=λt ht=>(Hs (λhd=>i3 t hd ht) (λhm=>i5 t hm ht)).symm
 have hx3:=hx2.env hxe
 refine Uz hy2 (Uz hx3 (hK _ _ _ (λt=>?_) hk))
 by_cases hyd:y.dst=some t
 · -- t is y's
  have hxd:x.dst≠some t:=λhd=>i2 t hd hyd
  have hxt:t∉IZ h x:=λhm=>i3 t hyd (Iy hm)
  rw [Hs (o:=x) (e:=UJ P h ops y e u) hxd hxt]
  exact KL hye (.inl hyd)
 ·by_cases hyt:t∈IZ h y
  ·have hxd:x.dst≠some t:=λhd=>i1 t hd (Iy hyt)
   have hxt:t∉IZ h x:=λhm=>i4 t hm (Iy hyt)
   rw [Hs (o:=x) (e:=UJ P h ops y e u) hxd hxt]
   exact KL hye (.inr (Hs hxd hxt))
  ·rw [Hs (o:=y) hyd hyt]
   refine KL hxe ?_
   by_cases hxd:x.dst=some t
   ·exact .inl hxd
   ·exact .inr (Hs hyd hyt).symm
def Zt{o:Oper}{vals:List AV}{H:FR}{R R':AV->FR->Prop}(hk : ∀ v H',R v H'->R' v H')(ha:Ff P h o vals H R):Ff P h o vals H R':=by
 by_cases hc:Gx h o=4
 ·obtain ⟨dst,op,ty,pos,after,guard⟩:=o
  cases op with
  | call c =>
   obtain ⟨callee,args,ts⟩:=c
   cases callee with
   | value fo =>
    simp only [Gx] at hc
    split at hc
    ·split at hc<;>omega
    ·rename_i hp
     split at hc
     ·omega
     ·rename_i hq
      simp only [Bool.not_eq_true] at hp hq
      unfold Ff at ha ⊢
      simp only [hp,hq] at ha ⊢
      split at ha
      ·exact ha.mono hk
      ·exact ⟨ha.1,ha.2.mono hk⟩
      ·exact ha.elim
   | builtin b=>cases b<;>simp only [Gx] at hc<;>first|omega|(split at hc<;>omega)
   | invoke r m=>simp [Gx] at hc
  | load t a=>simp only [Gx] at hc;split at hc<;>omega
  | binOp op t x y t' =>
   simp only [Gx] at hc
   split at hc
   ·rename_i hy
    unfold Ff at ha ⊢
    cases vals with
    | nil=>exact ha
    | cons a vs=>cases vs with
     | nil=>exact ha
     | cons b vs=>cases vs with
      | nil =>
       simp only [hy] at ha ⊢
       unfold Na at ha ⊢
       split at ha
       ·split at ha
        ·exact ⟨hk _ _ ha.1,hk _ _ ha.2⟩
        ·exact ⟨hk _ _ ha.1,hk _ _ ha.2⟩
        ·exact hk _ _ ha
        ·exact hk _ _ ha
        ·exact hk _ _ ha
        ·exact hk _ _ ha
        ·exact ha.elim
       ·exact ha.elim
      | cons c vs=>exact ha
   ·omega
  | buildSlice t l ps=>simp only [Gx] at hc;split at hc<;>omega
  | range t x =>
   unfold Ff at ha ⊢
   match vals,ha with
   | [a],ha =>
    simp only [RC] at ha ⊢
    split at ha
    ·exact hk _ _ ha
    ·exact hk _ _ ha
    ·split at ha
     ·exact hk _ _ ha
     ·exact ha.elim
    ·exact ha.elim
  | next x str =>
   unfold Ff at ha ⊢
   match vals,ha with
   | [.it o'],ha =>
    simp only [W3] at ha ⊢
    split at ha
    ·split at ha
     ·rename_i hp;rw [iP hp];exact hk _ _ ha
     ·rename_i hp;rw [iN hp];exact hk _ _ ha
    ·exact hk _ _ ha
    ·split at ha
     ·exact ⟨ha.1,λh=>hk _ _ (ha.2.1 h),λi p h1 h2=>hk _ _ (ha.2.2 i p h1 h2)⟩
     ·exact ha.elim
    ·exact ha.elim
  | entry x =>
   unfold Ff at ha ⊢
   match vals,ha with
   | [.it o'],ha =>
    simp only [TV] at ha ⊢
    split at ha
    ·split at ha
     ·obtain ⟨h1,p,h2,h3⟩:=ha
      exact ⟨h1,p,h2,hk _ _ h3⟩
     ·exact ha.elim
    ·exact ha.elim
  | slice _ _ _ _ _ =>
   simp only [Gx] at hc
   split at hc<;>omega
  | _=>simp [Gx] at hc
 ·obtain ⟨v,H',hr,hf⟩:=TT hc ha
  exact hf.again _ (hk _ _ hr)
def K7{o:Oper}{K K':Ft->FR->Prop}{e:Ft}{H:FR}(hk : ∀ e H,K e H->K' e H)(ha:IY P n h ops o K e H):IY P n h ops o K' e H:=by
 unfold IY at ha ⊢
 split at ha
 ·rename_i hg
  exact ⟨ha.1,Zt (λv H' hh=>hk _ _ hh) ha.2⟩
 ·rename_i hg
  exact ⟨ha.1,hk _ _ ha.2⟩
 ·exact ha.elim
def ADp{o:Oper}{K:Ft->FR->Prop}(hK:RJ K):RJ (IY P n h ops o K):=by
 intro e e' H he ha
 have hag:lV ops e o=lV ops e' o:=TU λt _=>he t
 have hup : ∀ (v:AV) t,Fp (UJ P h ops o e v) t=Fp (UJ P h ops o e' v) t:=λv t=>KL (λt _=>he t) (.inr (he t))
 unfold IY at ha ⊢
 split at ha
 ·rename_i hg
  rw [<- hag,hg]
  have hev:=(Pm (P:=P) (ty:=HR o) (take:=Fz h o) o.op.operands.toList e e' λt _=>he t).1
  refine ⟨ha.1, ?_⟩
  rw [<- hev]
  refine Zt (λv H' hh=>hK _ _ _ (λt=>?_) hh) ha.2
  have:=hup v t
  simpa only [UJ,hg,<- hag] using this
 ·rename_i hg
  rw [<- hag,hg]
  refine ⟨ha.1,hK _ _ _ (λt=>?_) ha.2⟩
  have:=hup (.tup []) t
  simpa only [UJ,hg,<- hag] using this
 ·exact ha.elim
end
end Go.AI
