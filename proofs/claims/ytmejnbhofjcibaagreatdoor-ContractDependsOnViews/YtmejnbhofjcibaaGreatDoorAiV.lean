/- A part. -/
import Derived.Test.YtmejnbhofjcibaaGreatDoorLd
set_option linter.unusedSimpArgs false
set_option linter.unusedVariables false
set_option linter.defProp false
open List renaming all_eq_true->Am,getElem?_eq_some_iff->AC,getElem?_set_ne->A6,getElem?_set_self->A1,set_comm->B7
namespace Go.AI
def Oj(xs:List Operand):List Tmp:=xs.filterMap fun | .tmp t=>some t|_=>none
def If(h:Hint)(o:Oper):List Tmp:=if F0 h o then Oj o.op.operands.toList else[]
def WM(a b:Nat):Bool:=(a<=3&&b<=3&&(a==0||b==0||(a<=2&&b<=2)))||(a==0&&b==5)||(a==5&&b==0)
def L_(h:Hint)(ops:Array Oper)(x y:Oper):Bool :=
 x.apart ops y&&(If h x).all (λt => !(y.looksAt ops).contains t)&&(If h y).all (λt => !(x.looksAt ops).contains t)&&(WM (Gx h x) (Gx h y)||(Rp h x&&Gx h y==5))
def RH(K:Fs->cj->Prop):Prop:=∀e e' H,(∀t,Fr e t=Fr e' t)->K e H->K e' H
section
variable{P:Program}{n:Nat}{h:Hint}{ops:Array Oper}
def xG{ty:Option TypeId}{x:Operand}{e e':Fs}(hx:∀t,x = .tmp t->Fr e t=Fr e' t):G6 P ty e x=G6 P ty e' x:=by
 cases x<;>first|exact hx _ rfl|rfl
def ACO{ty:Option TypeId}{take:Bool}{x:Operand}{e:Fs}{t:Tmp}(ht:take=true->x ≠ .tmp t):Fr (NO P ty take x e).2 t=Fr e t:=by
 cases take with
 |false=>rfl
 | true =>
  simp only[NO]
  split
  ·rename_i t' _
   simp only[Fr]
   rw[iN (λe=>ht rfl (by rw[e]))]
  ·rfl
def xH{ty:Option TypeId}{take:Bool}{x:Operand}{e e':Fs}(hx : ∀ t,x = .tmp t->Fr e t=Fr e' t):
  (NO P ty take x e).1=(NO P ty take x e').1 /\ ∀t,Fr e t=Fr e' t->Fr (NO P ty take x e).2 t=Fr (NO P ty take x e').2 t:=by
 have he:=xG (P:=P) (ty:=ty) hx
 cases take with
 |false=>exact⟨by simp only[NO,he],λt ht=>ht⟩
 | true =>
  refine⟨by simp only[NO,he],λt ht=>?_⟩
  simp only[NO,he]
  cases x with
  | tmp t' =>
   cases(G6 P ty e' (.tmp t')).owned
   ·exact ht
   ·simp only[Fr]
    split
    ·rw[hx t' rfl]
    ·exact ht
  |_=>cases(G6 P ty e' _).owned<;>exact ht
def Pq{ty:Option TypeId}{take:Bool}: ∀(xs:List Operand) (e e':Fs),(∀t∈Oj xs,Fr e t=Fr e' t) ->
  (OX P ty take xs e).1=(OX P ty take xs e').1 /\ ∀t,Fr e t=Fr e' t->Fr (OX P ty take xs e).2 t=Fr (OX P ty take xs e').2 t
 |[],e,e',_=>⟨rfl,λt ht=>ht⟩
 | x::xs,e,e',hx=>by
  have h1:=xH (P:=P) (ty:=ty) (take:=take) (x:=x) (e:=e) (e':=e') (λt ht=>hx t (by subst ht;simp[Oj]))
  have h2:=Pq (ty:=ty) (take:=take) xs (NO P ty take x e).2 (NO P ty take x e').2 (λt ht=>h1.2 t (hx t (by
   cases x<;>simp[Oj]at ht ⊢ <;> first|exact .inr ht|exact ht)))
  simp only[OX]
  exact⟨by rw[h1.1,h2.1],λt ht=>h2.2 t (h1.2 t ht)⟩
def ia{ty:Option TypeId}{take:Bool}: ∀(xs:List Operand) (e:Fs) (t:Tmp),(take=true->t∉Oj xs)->Fr (OX P ty take xs e).2 t=Fr e t
 |[],e,t,_=>rfl
 |x::xs,e,t,ht=>by
  simp only[OX]
  rw[ia xs _ t (λh0 hm=>ht h0 (by cases x<;>simp[Oj]at hm ⊢ <;> first|exact .inr hm|exact hm)),ACO (λh0 hx=>ht h0 (by subst hx;simp[Oj]))]
def Tz(P:Program)(h:Hint)(ops:Array Oper)(o:Oper)(e:Fs)(v:AV):Fs :=
 match lD ops e o with
 |some true=>put o.dst v (OX P (HQ o) (F0 h o) o.op.operands.toList e).2
 |_=>put o.dst v e
def LH(P:Program)(n:Nat)(h:Hint)(ops:Array Oper)(o:Oper)(e:Fs)(H:cj)(v:AV)(H':cj):Prop :=
 match lD ops e o with
 |some true=>Gj n o.dst/\Fact P h o (OX P (HQ o) (F0 h o) o.op.operands.toList e).1 H v H'
 |some false=>Gj n o.dst/\v = .tup []/\H'=H
 |none=>False
def Lh{o:Oper}{K:Fs->cj->Prop}{e:Fs}{H:cj}(hc4:Gx h o≠4)(ha:Ie P n h ops o K e H): ∃v H',LH P n h ops o e H v H'/\K (Tz P h ops o e v) H':=by
 unfold Ie at ha
 split at ha
 ·rename_i hg
  obtain⟨v,H',hK,hf⟩:=TA hc4 ha.2
  refine⟨v,H', ?_, ?_⟩
  ·unfold LH;rw[hg];exact⟨ha.1,hf⟩
  ·simp only[Tz,hg];exact hK
 ·rename_i hg
  refine⟨.tup [],H, ?_, ?_⟩
  ·unfold LH;rw[hg];exact⟨ha.1,rfl,rfl⟩
  ·simp only[Tz,hg];exact ha.2
 ·exact ha.elim
def Ue{o:Oper}{K:Fs->cj->Prop}{e:Fs}{H H':cj}{v:AV}(ho:LH P n h ops o e H v H')(hK:K (Tz P h ops o e v) H'):Ie P n h ops o K e H:=by
 unfold LH at ho
 unfold Ie
 split at ho
 ·rename_i hg
  simp only[Tz,hg]at hK
  rw[hg]
  exact⟨ho.1,ho.2.again _ hK⟩
 ·rename_i hg
  simp only[Tz,hg]at hK
  obtain⟨h1,rfl,rfl⟩:=ho
  rw[hg]
  exact⟨h1,hK⟩
 ·exact ho.elim
def TB{o:Oper}{e e':Fs}(hx:∀t∈o.looksAt ops,Fr e t=Fr e' t):lD ops e o=lD ops e' o:=by
 unfold lD
 cases hg:o.guard with
 |none=>rfl
 | some p =>
  obtain⟨j,want⟩:=p
  simp only
  cases hd:(ops[j]?).bind (·.dst)with
  |none=>rfl
  |some d =>
   simp only
   rw[hx d (by simp[Oper.looksAt,hg,hd])]
def Nn{o:Oper}{t:Tmp}(ht:t∈Oj o.op.operands.toList):t∈o.looksAt ops:=by
 unfold Oper.looksAt
 exact List.mem_append_left _ ht
def LH.env{o:Oper}{e e':Fs}{H H':cj}{v:AV}(ho:LH P n h ops o e H v H')(hx:∀t∈o.looksAt ops,Fr e t=Fr e' t):LH P n h ops o e' H v H':=by
 unfold LH at ho ⊢
 rw[<- TB hx,<- (Pq (P:=P) (ty:=HQ o) (take:=F0 h o) o.op.operands.toList e e' λt ht=>hx t (Nn ht)).1]
 exact ho
def LH.heap0{o:Oper}{e:Fs}{H H':cj}{v:AV}(ho:LH P n h ops o e H v H')(hc:Gx h o=0):H'=H /\ ∀H2,LH P n h ops o e H2 v H2:=by
 unfold LH at ho ⊢
 split at ho
 ·obtain⟨h1,h2⟩:=ho.2.c0 hc
  refine⟨h1,λH2=>⟨ho.1,Fact.pure hc λH3 R' hr=>h2 H3 R' hr⟩⟩
 ·exact⟨ho.2.2,λH2=>⟨ho.1,ho.2.1,rfl⟩⟩
 ·exact ho.elim
def LH.heap1{o:Oper}{e:Fs}{H H':cj}{v:AV}(ho:LH P n h ops o e H v H')(hc:Gx h o=1):H'=H /\ ∀H2,Gv H2=Gv H->LH P n h ops o e H2 v H2:=by
 unfold LH at ho ⊢
 split at ho
 ·obtain⟨h1,h2⟩:=ho.2.c1 hc
  exact⟨h1,λH2 hv=>⟨ho.1,λR' hr=>h2 H2 R' hv hr,λe=>FR,λ_=>⟨rfl,λH3 R' hv3 hr=>h2 H3 R' (hv3.trans hv) hr⟩,λe=>FR,λhl H3 R' hv3 hr=>ho.2.ld hl H3 R' (by rw[<- hv];exact hv3) hr,λe=>FR⟩⟩
 ·exact⟨ho.2.2,λH2 _=>⟨ho.1,ho.2.1,rfl⟩⟩
 ·exact ho.elim
def LH.ld{o:Oper}{e:Fs}{H H':cj}{v:AV}(ho:LH P n h ops o e H v H')(hl:Rp h o=true){H2:cj}(hv:∃ext,Gv H2=Gv H++ext):LH P n h ops o e H2 v H2:=by
 have hc:=Ia hl
 unfold LH at ho ⊢
 split at ho
 ·exact⟨ho.1,λR' hr=>ho.2.ld hl H2 R' hv hr,λe=>FR,λ_=>⟨rfl,λH3 R' hv3 hr=>ho.2.ld hl H3 R' (by rw[hv3];exact hv) hr⟩,λe=>FR,λ_ H3 R' hv3 hr=>ho.2.ld hl H3 R' (by
   obtain⟨e1,h1⟩:=hv
   obtain⟨e2,h2⟩:=hv3
   exact⟨e1++e2,by rw[h2,h1,List.append_assoc]⟩) hr,λe=>FR⟩
 ·exact⟨ho.1,ho.2.1,rfl⟩
 ·exact ho.elim
def LH.c5{o:Oper}{e:Fs}{H H':cj}{v:AV}(ho:LH P n h ops o e H v H')(hc:Gx h o=5): ∃ext,H'=H++ext:=by
 unfold LH at ho
 split at ho
 ·exact ho.2.c5 hc
 ·exact⟨[],by simp[ho.2.2]⟩
 ·exact ho.elim
def LH.heap2{o:Oper}{e:Fs}{H H':cj}{v:AV}(ho:LH P n h ops o e H v H')(hc:Gx h o=2):Gv H'=Gv H:=by
 unfold LH at ho
 split at ho
 ·exact(ho.2.c2 hc).1
 ·rw[ho.2.2]
 ·exact ho.elim
def LH.heap2'{o:Oper}{e:Fs}{H H':cj}{v:AV}(ho:LH P n h ops o e H v H')(hc:Gx h o=2):(H'=H /\ ∀H2,LH P n h ops o e H2 v H2) \/
  ∃(ob off:Nat) (cs:List AV),H[ob]? =some (some cs)/\cs[off]? =some v/\GB v=true/\H'=H.set ob (some (cs.set off (borrow1 v))) /\
   ∀(H2:cj) (cs2:List AV),H2[ob]? =some (some cs2)->cs2[off]? =some v->LH P n h ops o e H2 v (H2.set ob (some (cs2.set off (borrow1 v)))):=by
 have hvs:∀{ob off:Nat} {H2:cj} {cs2:List AV},H2[ob]? =some (some cs2)->cs2[off]? =some v->Gv (H2.set ob (some (cs2.set off (borrow1 v))))=Gv H2:=λ{ob off H2 cs2} h1 h2=>Y3 h1 (by
  apply List.ext_getElem?
  intro i
  simp only[List.getElem?_map,List.getElem?_set]
  split
  ·rename_i hi
   subst hi
   rw[iP (AC.1 h2).1,h2]
   simp[N3]
  ·rfl)
 unfold LH at ho ⊢
 split at ho
 ·rcases(ho.2.c2 hc).2 with⟨h1,h2⟩|⟨ob,off,cs,g1,g2,g3,g4,g5⟩
  ·exact .inl ⟨h1,λH2=>⟨ho.1,λR' hr=>h2 H2 R' hr,λe=>FR,λe=>FR,λ_=>⟨rfl,.inl ⟨rfl,h2⟩⟩,λhl=>by have:=Ia hl;omega,λe=>FR⟩⟩
  ·exact .inr ⟨ob,off,cs,g1,g2,g3,g4,λH2 cs2 k1 k2=>⟨ho.1,λR' hr=>g5 H2 cs2 R' k1 k2 hr,λe=>FR,λe=>FR,λ_=>⟨hvs k1 k2,.inr ⟨ob,off,cs2,k1,k2,g3,rfl,g5⟩⟩,λhl=>by have:=Ia hl;omega,λe=>FR⟩⟩
 ·exact .inl ⟨ho.2.2,λH2=>⟨ho.1,ho.2.1,rfl⟩⟩
 ·exact ho.elim
def XN(a:AV):GB (borrow1 a)=false:=by cases a<;>rfl
def LH.swap{x y:Oper}{e e':Fs}{H H1 H2:cj}{v u:AV}(hx:LH P n h ops x e H v H1)(hy:LH P n h ops y e' H1 u H2)(hc:WM (Gx h x) (Gx h y)=true\/(Rp h x=true/\Gx h y=5)):
  ∃H1',LH P n h ops y e' H u H1'/\LH P n h ops x e H1' v H2:=by
 by_cases h0:Gx h x=0
 ·obtain⟨rfl,hx'⟩:=hx.heap0 h0
  exact⟨H2,hy,hx' H2⟩
 by_cases h1:Gx h y=0
 ·obtain⟨rfl,hy'⟩:=hy.heap0 h1
  exact⟨H,hy' H,hx⟩
 rcases hc with hc|⟨hl,h5⟩
 case inr =>
  obtain⟨rfl,_⟩:=hx.heap1 (Ia hl)
  obtain⟨ext,rfl⟩:=hy.c5 h5
  exact⟨_,hy,hx.ld hl ⟨Gv ext,by simp[Gv]⟩⟩
 have hb:Gx h x<=2/\Gx h y<=2:=by
  simp[WM,h0,h1]at hc
  exact⟨hc.2.1,hc.2.2⟩
 by_cases hx1:Gx h x=1
 ·obtain⟨rfl,hx'⟩:=hx.heap1 hx1
  have hv:Gv H2=Gv H1:=by
   by_cases hy1:Gx h y=1
   ·rw[(hy.heap1 hy1).1]
   ·exact hy.heap2 FR
  exact⟨H2,hy,hx' H2 hv⟩
 have hx2:Gx h x=2:=FR
 by_cases hy1:Gx h y=1
 ·obtain⟨rfl,hy'⟩:=hy.heap1 hy1
  exact⟨H,hy' H (hx.heap2 hx2).symm,hx⟩
 have hy2:Gx h y=2:=FR
 rcases hx.heap2' hx2 with⟨rfl,hx'⟩|⟨ob,off,cs,g1,g2,g3,rfl,g5⟩
 ·exact⟨H2,hy,hx' H2⟩
 rcases hy.heap2' hy2 with⟨rfl,hy'⟩|⟨ob',off',cs',k1,k2,k3,rfl,k5⟩
 ·exact⟨H,hy' H,hx⟩
 have hlt:=(AC.1 g1).1
 by_cases ho:ob'=ob
 ·subst ho
  rw[A1 hlt]at k1
  cases k1
  have hne:off'≠off:=by
   rintro rfl
   rw[A1 (AC.1 g2).1]at k2
   cases k2
   rw[XN]at k3;cases k3
  rw[A6 (Ne.symm hne)]at k2
  refine⟨_,k5 H cs g1 k2, ?_⟩
  have:=g5 (H.set ob' (some (cs.set off' (borrow1 u)))) (cs.set off' (borrow1 u)) (A1 hlt) (by rw[A6 hne];exact g2)
  rw[List.set_set]at this ⊢
  rw[B7 _ _ hne]at this
  exact this
 ·rw[A6 (Ne.symm ho)]at k1
  refine⟨_,k5 H cs' k1 k2, ?_⟩
  have:=g5 (H.set ob' (some (cs'.set off' (borrow1 u)))) cs (by rw[A6 ho];exact g1) g2
  rw[B7 _ _ ho]at this
  exact this
def Rf(d:Option Tmp)(v:AV)(e:Fs)(t:Tmp):Fr (put d v e) t=if d=some t then v else Fr e t:=by
 cases d with
 |none=>simp[put]
 |some d=>simp[put,Fr]
def Hw{o:Oper}{e:Fs}{v:AV}{t:Tmp}(h1:o.dst≠some t)(h2:t∉If h o):Fr (Tz P h ops o e v) t=Fr e t:=by
 have hev:Fr (OX P (HQ o) (F0 h o) o.op.operands.toList e).2 t=Fr e t:=ia _ e t λhtk=>by
  simpa [If,htk]using h2
 unfold Tz
 split<;>rw[Rf,iN h1]
 exact hev
def KQ{o:Oper}{e e':Fs}{v:AV}(hx:∀t∈o.looksAt ops,Fr e t=Fr e' t){t:Tmp}(ht:o.dst=some t\/Fr e t=Fr e' t):Fr (Tz P h ops o e v) t=Fr (Tz P h ops o e' v) t:=by
 have hev:=(Pq (P:=P) (ty:=HQ o) (take:=F0 h o) o.op.operands.toList e e' λt ht=>hx t (Nn ht)).2
 unfold Tz
 rw[<- TB hx]
 split<;>rw[Rf,Rf]<;>split
 ·rfl
 ·rcases ht with h1|h1
  ·exact absurd h1 ‹_›
  ·exact hev t h1
 ·rfl
 ·rcases ht with h1|h1
  ·exact absurd h1 ‹_›
  ·exact h1
def V3{x y:Oper}(hi:L_ h ops x y=true):(∀d,x.dst=some d->d∉y.looksAt ops)/\(∀d,x.dst=some d->y.dst≠some d)/\(∀d,y.dst=some d->d∉x.looksAt ops) /\
  (∀t∈If h x,t∉y.looksAt ops)/\(∀t∈If h y,t∉x.looksAt ops)/\(WM (Gx h x) (Gx h y)=true\/(Rp h x=true/\Gx h y=5)):=by
 simp only[L_,Bool.and_eq_true]at hi
 obtain⟨⟨⟨h1,h2⟩,h3⟩,h4⟩:=hi
 obtain⟨g1,g2,g3⟩:=Oper.apart_spec h1
 exact⟨g1,g2,g3,λt ht=>by simpa using Am.1 h2 t ht,λt ht=>by simpa using Am.1 h3 t ht,by simpa using h4⟩
def I5{o:Oper}{t:Tmp}(ht:t∈If h o):t∈o.looksAt ops:=by
 unfold If at ht
 split at ht
 ·exact Nn ht
 ·cases ht
def jZ{x y:Oper}{K:Fs->cj->Prop}{e:Fs}{H:cj}(hi:L_ h ops x y=true)(hK:RH K)(ha:Ie P n h ops x (Ie P n h ops y K) e H):Ie P n h ops y (Ie P n h ops x K) e H:=by
 obtain⟨i1,i2,i3,i4,i5,i6⟩:=V3 hi
 have hx4:Gx h x≠4:=by
  intro h4
  rcases i6 with i6|i6
  ·rw[h4]at i6;simp[WM]at i6
  ·have:=Ia i6.1;omega
 have hy4:Gx h y≠4:=by
  intro h4
  rcases i6 with i6|i6
  ·rw[h4]at i6;simp[WM]at i6
  ·omega
 obtain⟨v,H1,hx,hya⟩:=Lh hx4 ha
 obtain⟨u,H2,hy,hk⟩:=Lh hy4 hya
 have hye:∀t∈y.looksAt ops,Fr (Tz P h ops x e v) t=Fr e t:=λt ht=>Hw (λhd=>i1 t hd ht) (λhm=>i4 t hm ht)
 have hy':=hy.env hye
 obtain⟨H1',hy2,hx2⟩:=hx.swap hy' i6
 have hxe:∀t∈x.looksAt ops,Fr e t=Fr (Tz P h ops y e u) t:=λt ht=>(Hw (λhd=>i3 t hd ht) (λhm=>i5 t hm ht)).symm
 have hx3:=hx2.env hxe
 refine Ue hy2 (Ue hx3 (hK _ _ _ (λt=>?_) hk))
 by_cases hyd:y.dst=some t
 · -- t is y's
  have hxd:x.dst≠some t:=λhd=>i2 t hd hyd
  have hxt:t∉If h x:=λhm=>i3 t hyd (I5 hm)
  rw[Hw (o:=x) (e:=Tz P h ops y e u) hxd hxt]
  exact KQ hye (.inl hyd)
 ·by_cases hyt:t∈If h y
  ·have hxd:x.dst≠some t:=λhd=>i1 t hd (I5 hyt)
   have hxt:t∉If h x:=λhm=>i4 t hm (I5 hyt)
   rw[Hw (o:=x) (e:=Tz P h ops y e u) hxd hxt]
   exact KQ hye (.inr (Hw hxd hxt))
  ·rw[Hw (o:=y) hyd hyt]
   refine KQ hxe ?_
   by_cases hxd:x.dst=some t
   ·exact .inl hxd
   ·exact .inr (Hw hyd hyt).symm
def ZW{o:Oper}{vals:List AV}{H:cj}{R R':AV->cj->Prop}(hk : ∀ v H',R v H'->R' v H')(ha:Fh P h o vals H R):Fh P h o vals H R':=by
 by_cases hc:Gx h o=4
 ·obtain⟨dst,op,ty,pos,after,guard⟩:=o
  cases op with
  | call c =>
   obtain⟨callee,args,ts⟩:=c
   cases callee with
   | value fo =>
    simp only[Gx]at hc
    split at hc
    ·split at hc<;>omega
    ·rename_i hp
     split at hc
     ·omega
     ·rename_i hq
      simp only[Bool.not_eq_true]at hp hq
      unfold Fh at ha ⊢
      simp only[hp,hq]at ha ⊢
      split at ha
      ·exact ha.mono hk
      ·exact⟨ha.1,ha.2.mono hk⟩
      ·exact ha.elim
   |builtin b=>cases b<;>simp only[Gx]at hc<;>first|omega|(split at hc<;>omega)
   |invoke r m=>simp[Gx]at hc
  |load t a=>simp only[Gx]at hc;split at hc<;>omega
  | binOp op t x y t' =>
   simp only[Gx]at hc
   split at hc
   ·rename_i hy
    unfold Fh at ha ⊢
    cases vals with
    |nil=>exact ha
    | cons a vs=>cases vs with
     |nil=>exact ha
     | cons b vs=>cases vs with
      | nil =>
       simp only[hy]at ha ⊢
       unfold Np at ha ⊢
       split at ha
       ·split at ha
        ·exact⟨hk _ _ ha.1,hk _ _ ha.2⟩
        ·exact⟨hk _ _ ha.1,hk _ _ ha.2⟩
        ·exact hk _ _ ha
        ·exact hk _ _ ha
        ·exact hk _ _ ha
        ·exact hk _ _ ha
        ·exact ha.elim
       ·exact ha.elim
      |cons c vs=>exact ha
   ·omega
  |buildSlice t l ps=>simp only[Gx]at hc;split at hc<;>omega
  | range t x =>
   unfold Fh at ha ⊢
   match vals,ha with
   | [a],ha =>
    simp only[RA]at ha ⊢
    split at ha
    ·exact hk _ _ ha
    ·exact hk _ _ ha
    ·split at ha
     ·exact hk _ _ ha
     ·exact ha.elim
    ·exact ha.elim
  | next x str =>
   unfold Fh at ha ⊢
   match vals,ha with
   | [.it o'],ha =>
    simp only[Wf]at ha ⊢
    split at ha
    ·split at ha
     ·rename_i hp;rw[iP hp];exact hk _ _ ha
     ·rename_i hp;rw[iN hp];exact hk _ _ ha
    ·exact hk _ _ ha
    ·split at ha
     ·exact⟨ha.1,λh=>hk _ _ (ha.2.1 h),λi p h1 h2=>hk _ _ (ha.2.2 i p h1 h2)⟩
     ·exact ha.elim
    ·exact ha.elim
  | entry x =>
   unfold Fh at ha ⊢
   match vals,ha with
   | [.it o'],ha =>
    simp only[TC]at ha ⊢
    split at ha
    ·split at ha
     ·obtain⟨h1,p,h2,h3⟩:=ha
      exact⟨h1,p,h2,hk _ _ h3⟩
     ·exact ha.elim
    ·exact ha.elim
  |slice _ _ _ _ _ =>
   simp only[Gx]at hc
   split at hc<;>omega
  |_=>simp[Gx]at hc
 ·obtain⟨v,H',hr,hf⟩:=TA hc ha
  exact hf.again _ (hk _ _ hr)
def LF{o:Oper}{K K':Fs->cj->Prop}{e:Fs}{H:cj}(hk:∀e H,K e H->K' e H)(ha:Ie P n h ops o K e H):Ie P n h ops o K' e H:=by
 unfold Ie at ha ⊢
 split at ha
 ·rename_i hg
  exact⟨ha.1,ZW (λv H' hh=>hk _ _ hh) ha.2⟩
 ·rename_i hg
  exact⟨ha.1,hk _ _ ha.2⟩
 ·exact ha.elim
def ADN{o:Oper}{K:Fs->cj->Prop}(hK:RH K):RH (Ie P n h ops o K):=by
 intro e e' H he ha
 have hag:lD ops e o=lD ops e' o:=TB λt _=>he t
 have hup:∀(v:AV) t,Fr (Tz P h ops o e v) t=Fr (Tz P h ops o e' v) t:=λv t=>KQ (λt _=>he t) (.inr (he t))
 unfold Ie at ha ⊢
 split at ha
 ·rename_i hg
  rw[<- hag,hg]
  have hev:=(Pq (P:=P) (ty:=HQ o) (take:=F0 h o) o.op.operands.toList e e' λt _=>he t).1
  refine⟨ha.1, ?_⟩
  rw[<- hev]
  refine ZW (λv H' hh=>hK _ _ _ (λt=>?_) hh) ha.2
  have:=hup v t
  simpa only[Tz,hg,<- hag]using this
 ·rename_i hg
  rw[<- hag,hg]
  refine⟨ha.1,hK _ _ _ (λt=>?_) ha.2⟩
  have:=hup (.tup []) t
  simpa only[Tz,hg,<- hag]using this
 ·exact ha.elim
end
end Go.AI
