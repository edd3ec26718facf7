/- Operations that may be done in either order;a region whose order is left open. -/
import Derived.Test.YtnbekihfchfioaaGreatDoorLd
set_option linter.unusedSimpArgs false
set_option linter.unusedVariables false
open List renaming all_eq_true->Ao,getElem?_eq_some_iff->AD,getElem?_set_ne->A6,getElem?_set_self->Az,set_comm->B8
namespace Go.AI
def Nd(xs:List Operand):List Tmp:=xs.filterMap fun | .tmp t=>some t|_=>none
def HN(h:Hint)(o:Oper):List Tmp:=if El h o then Nd o.op.operands.toList else []
def V8(a b:Nat):Bool:=(a<=3&&b<=3&&(a==0||b==0||(a<=2&&b<=2)))||(a==0&&b==5)||(a==5&&b==0)
def Ky(h:Hint)(ops:Array Oper)(x y:Oper):Bool :=
 x.apart ops y&&(HN h x).all (λt => !(y.looksAt ops).contains t)&&(HN h y).all (λt => !(x.looksAt ops).contains t)&&(V8 (Fg h x) (Fg h y)||(Qj h x&&Fg h y==5))
def QB(K:Ee->DM->Prop):Prop:=∀ e e' H,(∀ t,Ec e t=Ec e' t)->K e H->K e' H
section
variable {P:Program} {n:Nat} {h:Hint} {ops:Array Oper}
theorem up{ty:Option TypeId}{x:Operand}{e e':Ee}(hx : ∀ t,x = .tmp t->Ec e t=Ec e' t):Fj P ty e x=Fj P ty e' x:=by
 cases x<;>first|exact hx _ rfl|rfl
theorem AAN{ty:Option TypeId}{take:Bool}{x:Operand}{e:Ee}{t:Tmp}(ht:take=true->x ≠ .tmp t):Ec (MC P ty take x e).2 t=Ec e t:=by
 cases take with
 | false=>rfl
 | true =>
  simp only [MC]
  split
  ·rename_i t' _
   simp only [Ec]
   rw [if_neg (λe=>ht rfl (by rw [e]))]
  ·rfl
theorem uq{ty:Option TypeId}{take:Bool}{x:Operand}{e e':Ee}(hx : ∀ t,x = .tmp t->Ec e t=Ec e' t):
  (MC P ty take x e).1=(MC P ty take x e').1 /\ ∀ t,Ec e t=Ec e' t->Ec (MC P ty take x e).2 t=Ec (MC P ty take x e').2 t:=by
 have he:=up (P:=P) (ty:=ty) hx
 cases take with
 | false=>exact ⟨by simp only [MC,he],λt ht=>ht⟩
 | true =>
  refine ⟨by simp only [MC,he],λt ht=>?_⟩
  simp only [MC,he]
  cases x with
  | tmp t' =>
   cases (Fj P ty e' (.tmp t')).owned
   ·exact ht
   ·simp only [Ec]
    split
    ·rw [hx t' rfl]
    ·exact ht
  | _=>cases (Fj P ty e' _).owned<;>exact ht
theorem Ol{ty:Option TypeId}{take:Bool}: ∀ (xs:List Operand) (e e':Ee),(∀ t∈Nd xs,Ec e t=Ec e' t) ->
  (NS P ty take xs e).1=(NS P ty take xs e').1 /\ ∀ t,Ec e t=Ec e' t->Ec (NS P ty take xs e).2 t=Ec (NS P ty take xs e').2 t
 | [],e,e',_=>⟨rfl,λt ht=>ht⟩
 | x::xs,e,e',hx=>by
  have h1:=uq (P:=P) (ty:=ty) (take:=take) (x:=x) (e:=e) (e':=e') (λt ht=>hx t (by subst ht;simp [Nd]))
  have h2:=Ol (ty:=ty) (take:=take) xs (MC P ty take x e).2 (MC P ty take x e').2 (λt ht=>h1.2 t (hx t (by
   cases x<;>simp [Nd] at ht ⊢ <;> first|exact .inr ht|exact ht)))
  simp only [NS]
  exact ⟨by rw [h1.1,h2.1],λt ht=>h2.2 t (h1.2 t ht)⟩
theorem iF{ty:Option TypeId}{take:Bool}: ∀ (xs:List Operand) (e:Ee) (t:Tmp),(take=true->t∉Nd xs)->Ec (NS P ty take xs e).2 t=Ec e t
 | [],e,t,_=>rfl
 | x::xs,e,t,ht=>by
  simp only [NS]
  rw [iF xs _ t (λh0 hm=>ht h0 (by cases x<;>simp [Nd] at hm ⊢ <;> first|exact .inr hm|exact hm)),AAN (λh0 hx=>ht h0 (by subst hx;simp [Nd]))]
def TR(P:Program)(h:Hint)(ops:Array Oper)(o:Oper)(e:Ee)(v:AV):Ee :=
 match ke ops e o with
 | some true=>put o.dst v (NS P (F5 o) (El h o) o.op.operands.toList e).2
 | _=>put o.dst v e
def KD(P:Program)(n:Nat)(h:Hint)(ops:Array Oper)(o:Oper)(e:Ee)(H:DM)(v:AV)(H':DM):Prop :=
 match ke ops e o with
 | some true=>FR n o.dst/\Fact P h o (NS P (F5 o) (El h o) o.op.operands.toList e).1 H v H'
 | some false=>FR n o.dst/\v = .tup []/\H'=H
 | none=>False
theorem Ke{o:Oper}{K:Ee->DM->Prop}{e:Ee}{H:DM}(hc4:Fg h o≠4)(ha:HM P n h ops o K e H): ∃ v H',KD P n h ops o e H v H'/\K (TR P h ops o e v) H':=by
 unfold HM at ha
 split at ha
 ·rename_i hg
  obtain ⟨v,H',hK,hf⟩:=Sb hc4 ha.2
  refine ⟨v,H', ?_, ?_⟩
  ·unfold KD;rw [hg];exact ⟨ha.1,hf⟩
  ·simp only [TR,hg];exact hK
 ·rename_i hg
  refine ⟨.tup [],H, ?_, ?_⟩
  ·unfold KD;rw [hg];exact ⟨ha.1,rfl,rfl⟩
  ·simp only [TR,hg];exact ha.2
 ·exact ha.elim
theorem UL{o:Oper}{K:Ee->DM->Prop}{e:Ee}{H H':DM}{v:AV}(ho:KD P n h ops o e H v H')(hK:K (TR P h ops o e v) H'):HM P n h ops o K e H:=by
 unfold KD at ho
 unfold HM
 split at ho
 ·rename_i hg
  simp only [TR,hg] at hK
  rw [hg]
  exact ⟨ho.1,ho.2.again _ hK⟩
 ·rename_i hg
  simp only [TR,hg] at hK
  obtain ⟨h1,rfl,rfl⟩:=ho
  rw [hg]
  exact ⟨h1,hK⟩
 ·exact ho.elim
theorem Sc{o:Oper}{e e':Ee}(hx : ∀ t∈o.looksAt ops,Ec e t=Ec e' t):ke ops e o=ke ops e' o:=by
 unfold ke
 cases hg:o.guard with
 | none=>rfl
 | some p =>
  obtain ⟨j,want⟩:=p
  simp only
  cases hd:(ops[j]?).bind (·.dst) with
  | none=>rfl
  | some d =>
   simp only
   rw [hx d (by simp [Oper.looksAt,hg,hd])]
theorem Ma{o:Oper}{t:Tmp}(ht:t∈Nd o.op.operands.toList):t∈o.looksAt ops:=by
 unfold Oper.looksAt
 exact List.mem_append_left _ ht
theorem KD.env{o:Oper}{e e':Ee}{H H':DM}{v:AV}(ho:KD P n h ops o e H v H')(hx : ∀ t∈o.looksAt ops,Ec e t=Ec e' t):KD P n h ops o e' H v H':=by
 unfold KD at ho ⊢
 rw [<- Sc hx,<- (Ol (P:=P) (ty:=F5 o) (take:=El h o) o.op.operands.toList e e' λt ht=>hx t (Ma ht)).1]
 exact ho
theorem KD.heap0{o:Oper}{e:Ee}{H H':DM}{v:AV}(ho:KD P n h ops o e H v H')(hc:Fg h o=0):H'=H /\ ∀ H2,KD P n h ops o e H2 v H2:=by
 unfold KD at ho ⊢
 split at ho
 ·obtain ⟨h1,h2⟩:=ho.2.c0 hc
  refine ⟨h1,λH2=>⟨ho.1,Fact.pure hc λH3 R' hr=>h2 H3 R' hr⟩⟩
 ·exact ⟨ho.2.2,λH2=>⟨ho.1,ho.2.1,rfl⟩⟩
 ·exact ho.elim
theorem KD.heap1{o:Oper}{e:Ee}{H H':DM}{v:AV}(ho:KD P n h ops o e H v H')(hc:Fg h o=1):H'=H /\ ∀ H2,Fe H2=Fe H->KD P n h ops o e H2 v H2:=by
 unfold KD at ho ⊢
 split at ho
 ·obtain ⟨h1,h2⟩:=ho.2.c1 hc
  exact ⟨h1,λH2 hv=>⟨ho.1,λR' hr=>h2 H2 R' hv hr,λe=>DF,λ_=>⟨rfl,λH3 R' hv3 hr=>h2 H3 R' (hv3.trans hv) hr⟩,λe=>DF,λhl H3 R' hv3 hr=>ho.2.ld hl H3 R' (by rw [<- hv];exact hv3) hr,λe=>DF⟩⟩
 ·exact ⟨ho.2.2,λH2 _=>⟨ho.1,ho.2.1,rfl⟩⟩
 ·exact ho.elim
theorem KD.ld{o:Oper}{e:Ee}{H H':DM}{v:AV}(ho:KD P n h ops o e H v H')(hl:Qj h o=true){H2:DM}(hv : ∃ ext,Fe H2=Fe H++ext):KD P n h ops o e H2 v H2:=by
 have hc:=HF hl
 unfold KD at ho ⊢
 split at ho
 ·exact ⟨ho.1,λR' hr=>ho.2.ld hl H2 R' hv hr,λe=>DF,λ_=>⟨rfl,λH3 R' hv3 hr=>ho.2.ld hl H3 R' (by rw [hv3];exact hv) hr⟩,λe=>DF,λ_ H3 R' hv3 hr=>ho.2.ld hl H3 R' (by
   obtain ⟨e1,h1⟩:=hv
   obtain ⟨e2,h2⟩:=hv3
   exact ⟨e1++e2,by rw [h2,h1,List.append_assoc]⟩) hr,λe=>DF⟩
 ·exact ⟨ho.1,ho.2.1,rfl⟩
 ·exact ho.elim
theorem KD.c5{o:Oper}{e:Ee}{H H':DM}{v:AV}(ho:KD P n h ops o e H v H')(hc:Fg h o=5): ∃ ext,H'=H++ext:=by
 unfold KD at ho
 split at ho
 ·exact ho.2.c5 hc
 ·exact ⟨[],by simp [ho.2.2]⟩
 ·exact ho.elim
theorem KD.heap2{o:Oper}{e:Ee}{H H':DM}{v:AV}(ho:KD P n h ops o e H v H')(hc:Fg h o=2):Fe H'=Fe H:=by
 unfold KD at ho
 split at ho
 ·exact (ho.2.c2 hc).1
 ·rw [ho.2.2]
 ·exact ho.elim
theorem KD.heap2'{o:Oper}{e:Ee}{H H':DM}{v:AV}(ho:KD P n h ops o e H v H')(hc:Fg h o=2):(H'=H /\ ∀ H2,KD P n h ops o e H2 v H2) \/
  ∃ (ob off:Nat) (cs:List AV),H[ob]? =some (some cs)/\cs[off]? =some v/\Ew v=true/\H'=H.set ob (some (cs.set off (borrow1 v))) /\
   ∀ (H2:DM) (cs2:List AV),H2[ob]? =some (some cs2)->cs2[off]? =some v->KD P n h ops o e H2 v (H2.set ob (some (cs2.set off (borrow1 v)))):=by
 have hvs : ∀ {ob off:Nat} {H2:DM} {cs2:List AV},H2[ob]? =some (some cs2)->cs2[off]? =some v->Fe (H2.set ob (some (cs2.set off (borrow1 v))))=Fe H2:=λ{ob off H2 cs2} h1 h2=>Yv h1 (by
  apply List.ext_getElem?
  intro i
  simp only [List.getElem?_map,List.getElem?_set]
  split
  ·rename_i hi
   subst hi
   rw [if_pos (AD.1 h2).1,h2]
   simp [Mv]
  ·rfl)
 unfold KD at ho ⊢
 split at ho
 ·rcases (ho.2.c2 hc).2 with ⟨h1,h2⟩|⟨ob,off,cs,g1,g2,g3,g4,g5⟩
  ·exact .inl ⟨h1,λH2=>⟨ho.1,λR' hr=>h2 H2 R' hr,λe=>DF,λe=>DF,λ_=>⟨rfl,.inl ⟨rfl,h2⟩⟩,λhl=>by have:=HF hl;omega,λe=>DF⟩⟩
  ·exact .inr ⟨ob,off,cs,g1,g2,g3,g4,λH2 cs2 k1 k2=>⟨ho.1,λR' hr=>g5 H2 cs2 R' k1 k2 hr,λe=>DF,λe=>DF,λ_=>⟨hvs k1 k2,.inr ⟨ob,off,cs2,k1,k2,g3,rfl,g5⟩⟩,λhl=>by have:=HF hl;omega,λe=>DF⟩⟩
 ·exact .inl ⟨ho.2.2,λH2=>⟨ho.1,ho.2.1,rfl⟩⟩
 ·exact ho.elim
theorem XD(a:AV):Ew (borrow1 a)=false:=by cases a<;>rfl
theorem KD.swap{x y:Oper}{e e':Ee}{H H1 H2:DM}{v u:AV}(hx:KD P n h ops x e H v H1)(hy:KD P n h ops y e' H1 u H2)(hc:V8 (Fg h x) (Fg h y)=true\/(Qj h x=true/\Fg h y=5)):
  ∃ H1',KD P n h ops y e' H u H1'/\KD P n h ops x e H1' v H2:=by
 by_cases h0:Fg h x=0
 ·obtain ⟨rfl,hx'⟩:=hx.heap0 h0
  exact ⟨H2,hy,hx' H2⟩
 by_cases h1:Fg h y=0
 ·obtain ⟨rfl,hy'⟩:=hy.heap0 h1
  exact ⟨H,hy' H,hx⟩
 rcases hc with hc|⟨hl,h5⟩
 case inr =>
  obtain ⟨rfl,_⟩:=hx.heap1 (HF hl)
  obtain ⟨ext,rfl⟩:=hy.c5 h5
  exact ⟨_,hy,hx.ld hl ⟨Fe ext,by simp [Fe]⟩⟩
 have hb:Fg h x<=2/\Fg h y<=2:=by
  simp [V8,h0,h1] at hc
  exact ⟨hc.2.1,hc.2.2⟩
 by_cases hx1:Fg h x=1
 ·obtain ⟨rfl,hx'⟩:=hx.heap1 hx1
  have hv:Fe H2=Fe H1:=by
   by_cases hy1:Fg h y=1
   ·rw [(hy.heap1 hy1).1]
   ·exact hy.heap2 DF
  exact ⟨H2,hy,hx' H2 hv⟩
 have hx2:Fg h x=2:=DF
 by_cases hy1:Fg h y=1
 ·obtain ⟨rfl,hy'⟩:=hy.heap1 hy1
  exact ⟨H,hy' H (hx.heap2 hx2).symm,hx⟩
 have hy2:Fg h y=2:=DF
 rcases hx.heap2' hx2 with ⟨rfl,hx'⟩|⟨ob,off,cs,g1,g2,g3,rfl,g5⟩
 ·exact ⟨H2,hy,hx' H2⟩
 rcases hy.heap2' hy2 with ⟨rfl,hy'⟩|⟨ob',off',cs',k1,k2,k3,rfl,k5⟩
 ·exact ⟨H,hy' H,hx⟩
 have hlt:=(AD.1 g1).1
 by_cases ho:ob'=ob
 ·subst ho
  rw [Az hlt] at k1
  cases k1
  have hne:off'≠off:=by
   rintro rfl
   rw [Az (AD.1 g2).1] at k2
   cases k2
   rw [XD] at k3;cases k3
  rw [A6 (Ne.symm hne)] at k2
  refine ⟨_,k5 H cs g1 k2, ?_⟩
  have:=g5 (H.set ob' (some (cs.set off' (borrow1 u)))) (cs.set off' (borrow1 u)) (Az hlt) (by rw [A6 hne];exact g2)
  rw [List.set_set] at this ⊢
  rw [B8 _ _ hne] at this
  exact this
 ·rw [A6 (Ne.symm ho)] at k1
  refine ⟨_,k5 H cs' k1 k2, ?_⟩
  have:=g5 (H.set ob' (some (cs'.set off' (borrow1 u)))) cs (by rw [A6 ho];exact g1) g2
  rw [B8 _ _ ho] at this
  exact this
theorem QZ(d:Option Tmp)(v:AV)(e:Ee)(t:Tmp):Ec (put d v e) t=if d=some t then v else Ec e t:=by
 cases d with
 | none=>simp [put]
 | some d=>simp [put,Ec]
theorem GX{o:Oper}{e:Ee}{v:AV}{t:Tmp}(h1:o.dst≠some t)(h2:t∉HN h o):Ec (TR P h ops o e v) t=Ec e t:=by
 have hev:Ec (NS P (F5 o) (El h o) o.op.operands.toList e).2 t=Ec e t:=iF _ e t λhtk=>by
  simpa [HN,htk] using h2
 unfold TR
 split<;>rw [QZ,if_neg h1]
 exact hev
theorem JL{o:Oper}{e e':Ee}{v:AV}(hx : ∀ t∈o.looksAt ops,Ec e t=Ec e' t){t:Tmp}(ht:o.dst=some t\/Ec e t=Ec e' t):Ec (TR P h ops o e v) t=Ec (TR P h ops o e' v) t:=by
 have hev:=(Ol (P:=P) (ty:=F5 o) (take:=El h o) o.op.operands.toList e e' λt ht=>hx t (Ma ht)).2
 unfold TR
 rw [<- Sc hx]
 split<;>rw [QZ,QZ]<;>split
 ·rfl
 ·rcases ht with h1|h1
  ·exact absurd h1 ‹_›
  ·exact hev t h1
 ·rfl
 ·rcases ht with h1|h1
  ·exact absurd h1 ‹_›
  ·exact h1
theorem Vk{x y:Oper}(hi:Ky h ops x y=true):(∀ d,x.dst=some d->d∉y.looksAt ops)/\(∀ d,x.dst=some d->y.dst≠some d)/\(∀ d,y.dst=some d->d∉x.looksAt ops) /\
  (∀ t∈HN h x,t∉y.looksAt ops)/\(∀ t∈HN h y,t∉x.looksAt ops)/\(V8 (Fg h x) (Fg h y)=true\/(Qj h x=true/\Fg h y=5)):=by
 simp only [Ky,Bool.and_eq_true] at hi
 obtain ⟨⟨⟨h1,h2⟩,h3⟩,h4⟩:=hi
 obtain ⟨g1,g2,g3⟩:=Oper.apart_spec h1
 exact ⟨g1,g2,g3,λt ht=>by simpa using Ao.1 h2 t ht,λt ht=>by simpa using Ao.1 h3 t ht,by simpa using h4⟩
theorem Hj{o:Oper}{t:Tmp}(ht:t∈HN h o):t∈o.looksAt ops:=by
 unfold HN at ht
 split at ht
 ·exact Ma ht
 ·cases ht
theorem jE{x y:Oper}{K:Ee->DM->Prop}{e:Ee}{H:DM}(hi:Ky h ops x y=true)(hK:QB K)(ha:HM P n h ops x (HM P n h ops y K) e H):HM P n h ops y (HM P n h ops x K) e H:=by
 obtain ⟨i1,i2,i3,i4,i5,i6⟩:=Vk hi
 have hx4:Fg h x≠4:=by
  intro h4
  rcases i6 with i6|i6
  ·rw [h4] at i6;simp [V8] at i6
  ·have:=HF i6.1;omega
 have hy4:Fg h y≠4:=by
  intro h4
  rcases i6 with i6|i6
  ·rw [h4] at i6;simp [V8] at i6
  ·omega
 obtain ⟨v,H1,hx,hya⟩:=Ke hx4 ha
 obtain ⟨u,H2,hy,hk⟩:=Ke hy4 hya
 have hye : ∀ t∈y.looksAt ops,Ec (TR P h ops x e v) t=Ec e t:=λt ht=>GX (λhd=>i1 t hd ht) (λhm=>i4 t hm ht)
 have hy':=hy.env hye
 obtain ⟨H1',hy2,hx2⟩:=hx.swap hy' i6
 have hxe : ∀ t∈x.looksAt ops,Ec e t=Ec (TR P h ops y e u) t:=λt ht=>(GX (λhd=>i3 t hd ht) (λhm=>i5 t hm ht)).symm
 have hx3:=hx2.env hxe
 refine UL hy2 (UL hx3 (hK _ _ _ (λt=>?_) hk))
 by_cases hyd:y.dst=some t
 · -- t is y's
  have hxd:x.dst≠some t:=λhd=>i2 t hd hyd
  have hxt:t∉HN h x:=λhm=>i3 t hyd (Hj hm)
  rw [GX (o:=x) (e:=TR P h ops y e u) hxd hxt]
  exact JL hye (.inl hyd)
 ·by_cases hyt:t∈HN h y
  ·have hxd:x.dst≠some t:=λhd=>i1 t hd (Hj hyt)
   have hxt:t∉HN h x:=λhm=>i4 t hm (Hj hyt)
   rw [GX (o:=x) (e:=TR P h ops y e u) hxd hxt]
   exact JL hye (.inr (GX hxd hxt))
  ·rw [GX (o:=y) hyd hyt]
   refine JL hxe ?_
   by_cases hxd:x.dst=some t
   ·exact .inl hxd
   ·exact .inr (GX hyd hyt).symm
theorem ZK{o:Oper}{vals:List AV}{H:DM}{R R':AV->DM->Prop}(hk : ∀ v H',R v H'->R' v H')(ha:ER P h o vals H R):ER P h o vals H R':=by
 by_cases hc:Fg h o=4
 ·obtain ⟨dst,op,ty,pos,after,guard⟩:=o
  cases op with
  | call c =>
   obtain ⟨callee,args,ts⟩:=c
   cases callee with
   | value fo =>
    simp only [Fg] at hc
    split at hc
    ·split at hc<;>omega
    ·rename_i hp
     split at hc
     ·omega
     ·rename_i hq
      simp only [Bool.not_eq_true] at hp hq
      unfold ER at ha ⊢
      simp only [hp,hq] at ha ⊢
      split at ha
      ·exact ha.mono hk
      ·exact ⟨ha.1,ha.2.mono hk⟩
      ·exact ha.elim
   | builtin b=>cases b<;>simp only [Fg] at hc<;>first|omega|(split at hc<;>omega)
   | invoke r m=>simp [Fg] at hc
  | load t a=>simp only [Fg] at hc;split at hc<;>omega
  | binOp op t x y t' =>
   simp only [Fg] at hc
   split at hc
   ·rename_i hy
    unfold ER at ha ⊢
    cases vals with
    | nil=>exact ha
    | cons a vs=>cases vs with
     | nil=>exact ha
     | cons b vs=>cases vs with
      | nil =>
       simp only [hy] at ha ⊢
       unfold Mc at ha ⊢
       split at ha
       ·split at ha
        ·exact ⟨hk _ _ ha.1,hk _ _ ha.2⟩
        ·exact ⟨hk _ _ ha.1,hk _ _ ha.2⟩
        ·exact hk _ _ ha
        ·exact hk _ _ ha
        ·exact hk _ _ ha
        ·exact hk _ _ ha
        ·exact ha.elim
       ·exact ha.elim
      | cons c vs=>exact ha
   ·omega
  | buildSlice t l ps=>simp only [Fg] at hc;split at hc<;>omega
  | range t x =>
   unfold ER at ha ⊢
   match vals,ha with
   | [a],ha =>
    simp only [P4] at ha ⊢
    split at ha
    ·exact hk _ _ ha
    ·exact hk _ _ ha
    ·split at ha
     ·exact hk _ _ ha
     ·exact ha.elim
    ·exact ha.elim
  | next x str =>
   unfold ER at ha ⊢
   match vals,ha with
   | [.it o'],ha =>
    simp only [WP] at ha ⊢
    split at ha
    ·split at ha
     ·rename_i hp;rw [if_pos hp];exact hk _ _ ha
     ·rename_i hp;rw [if_neg hp];exact hk _ _ ha
    ·exact hk _ _ ha
    ·split at ha
     ·exact ⟨ha.1,λh=>hk _ _ (ha.2.1 h),λi p h1 h2=>hk _ _ (ha.2.2 i p h1 h2)⟩
     ·exact ha.elim
    ·exact ha.elim
  | entry x =>
   unfold ER at ha ⊢
   match vals,ha with
   | [.it o'],ha =>
    simp only [Sd] at ha ⊢
    split at ha
    ·split at ha
     ·obtain ⟨h1,p,h2,h3⟩:=ha
      exact ⟨h1,p,h2,hk _ _ h3⟩
     ·exact ha.elim
    ·exact ha.elim
  | slice _ _ _ _ _ =>
   simp only [Fg] at hc
   split at hc<;>omega
  | _=>simp [Fg] at hc
 ·obtain ⟨v,H',hr,hf⟩:=Sb hc ha
  exact hf.again _ (hk _ _ hr)
theorem KA{o:Oper}{K K':Ee->DM->Prop}{e:Ee}{H:DM}(hk : ∀ e H,K e H->K' e H)(ha:HM P n h ops o K e H):HM P n h ops o K' e H:=by
 unfold HM at ha ⊢
 split at ha
 ·rename_i hg
  exact ⟨ha.1,ZK (λv H' hh=>hk _ _ hh) ha.2⟩
 ·rename_i hg
  exact ⟨ha.1,hk _ _ ha.2⟩
 ·exact ha.elim
theorem ABQ{o:Oper}{K:Ee->DM->Prop}(hK:QB K):QB (HM P n h ops o K):=by
 intro e e' H he ha
 have hag:ke ops e o=ke ops e' o:=Sc λt _=>he t
 have hup : ∀ (v:AV) t,Ec (TR P h ops o e v) t=Ec (TR P h ops o e' v) t:=λv t=>JL (λt _=>he t) (.inr (he t))
 unfold HM at ha ⊢
 split at ha
 ·rename_i hg
  rw [<- hag,hg]
  have hev:=(Ol (P:=P) (ty:=F5 o) (take:=El h o) o.op.operands.toList e e' λt _=>he t).1
  refine ⟨ha.1, ?_⟩
  rw [<- hev]
  refine ZK (λv H' hh=>hK _ _ _ (λt=>?_) hh) ha.2
  have:=hup v t
  simpa only [TR,hg,<- hag] using this
 ·rename_i hg
  rw [<- hag,hg]
  refine ⟨ha.1,hK _ _ _ (λt=>?_) ha.2⟩
  have:=hup (.tup []) t
  simpa only [TR,hg,<- hag] using this
 ·exact ha.elim
end
end Go.AI
