/- A part. -/
import Derived.Test.YtmejnbhofjcibaaGreatDoorAiV
import Derived.RangeFuncNested
set_option linter.unusedSimpArgs false
set_option linter.unusedVariables false
set_option linter.defProp false
open Go.AI renaming Hint->EX,SRel->EY,CRel->EZ,VRel->Ea
open Array renaming any_eq_true'->De,getD_eq_getD_getElem?->Cp,getElem?_eq_getElem->Ai,getElem?_eq_none->Cm,getElem?_eq_some_iff->An,getElem?_toList->Ac,length_toList->Bt,replicate->CL,setIfInBounds_comm->ED,toList_setIfInBounds->C5
open Bool renaming and_eq_true->AM,false_eq_true->Bx,not_eq_true'->BS,or_eq_true->CF
open List renaming all_eq_true->Am,filterMap_cons->B5,getElem?_append_left->AX,getElem?_append_right->AN,getElem?_cons_zero->A7,getElem?_drop->A2,getElem?_eq_getElem->AH,getElem?_eq_none->Av,getElem?_eq_some_iff->AC,getElem?_map->Aa,getElem?_set_ne->A6,getElem?_set_self->A1,getElem?_take_of_lt->Bv,isEmpty_iff->EE,length_append->AF,length_cons->AD,map_append->Aq,map_congr_left->Bq,map_cons->AS,map_map->By,mem_cons->AY,mem_filterMap->CH,mem_flatMap->Bo,mem_map->AO,mem_of_getElem?->AB,mem_range->Br,range->Ak,range_succ->B9,set_append_right->BV,set_set->BB,sum_append->B_,zip_cons_cons->B4
open Nat renaming add_assoc->Ay,add_comm->Bk,le_of_not_lt->B',le_refl->AT,lt_irrefl->Bs,lt_of_lt_of_le->BP,lt_or_ge->BM,sub_self->AP,sub_zero->Bm,zero_le->BU
namespace Go.AI
section
variable{P:Program}{n:Nat}{h:EX}{ops:Array Oper}
def R7{o:Oper}{e:Fs}(hg:o.guard=none):lD ops e o=some true:=by simp[lD,hg]
def LH.store{o:Oper}{t:TypeId}{a:Tmp}{x:Operand}{e:Fs}{H H':cj}{v:AV}(hop:o.op = .store t (.tmp a) x)(hg:o.guard=none)(ho:LH P n h ops o e H v H'):
  ∃(ob off:Nat) (cs xs:List AV),Fr e a = .ptr ob off/\H[ob]? =some (some cs)/\xs.length=P.cellsOf t/\off+xs.length<=cs.length/\v = .undef/\H'=H.set ob (some (splice cs off xs)) /\
   ∀(H2:cj) (cs2:List AV),H2[ob]? =some (some cs2)->off+xs.length<=cs2.length->LH P n h ops o e H2 .undef (H2.set ob (some (splice cs2 off xs))):=by
 have hc:Gx h o=3:=by simp[Gx,hop]
 unfold LH at ho
 rw[R7 hg]at ho
 obtain⟨hd,hf⟩:=ho
 have hr:=hf.again (λv' H''=>v'=v/\H''=H') ⟨rfl,rfl⟩
 have hv:∃v2,(OX P (HQ o) (F0 h o) o.op.operands.toList e).1=[Fr e a,v2]:=by
  have ht:F0 h o=true:=by simp[F0,hop]
  rw[ht,hop]
  exact⟨_,rfl⟩
 obtain⟨v2,hv⟩:=hv
 rw[hv]at hr
 unfold Fh at hr
 rw[hop]at hr
 cases hl:Fr e a with
 | ptr ob off =>
  rw[hl]at hr
  dsimp only at hr
  cases hob:H[ob]? with
  |none=>rw[hob]at hr;exact hr.elim
  | some q =>
   cases q with
   |none=>rw[hob]at hr;exact hr.elim
   |some cs =>
    rw[hob]at hr
    obtain⟨g1,g2,g3,g4,rfl,rfl⟩:=hr
    refine⟨ob,off,cs,v2.cells,rfl,hob,g2,FR,rfl,rfl,λH2 cs2 k1 k2=>?_⟩
    unfold LH
    rw[R7 hg]
    refine⟨hd, ?_⟩
    refine Fact.any hc λR' hr'=>?_
    rw[hv,hl]
    simp only[Fh,hop,k1]
    exact⟨g1,g2,g3,FR,hr'⟩
 |_=>rw[hl]at hr;exact hr.elim
def LH.pload{o:Oper}{t:TypeId}{a:Tmp}{e:Fs}{H H':cj}{v:AV}{ob off:Nat}(hop:o.op = .load t (.tmp a))(hld:Rp h o=true)(hg:o.guard=none)(hl:Fr e a = .ptr ob off)(ho:LH P n h ops o e H v H'):
  ∃(cs:List AV) (x:AV),H[ob]? =some (some cs)/\Ll P t cs off=some x/\v=x.borrow/\H'=H /\
   ∀(H2:cj) (cs2:List AV),H2[ob]? =some (some cs2)->Ll P t cs2 off=some x->LH P n h ops o e H2 v H2:=by
 have hc:=Ia hld
 have htk:o.dst.any h.tk.contains=false:=by simpa [Rp,hop]using hld
 unfold LH at ho
 rw[R7 hg]at ho
 obtain⟨hd,hf⟩:=ho
 have hr:=hf.again (λv' H''=>v'=v/\H''=H') ⟨rfl,rfl⟩
 have hv:(OX P (HQ o) (F0 h o) o.op.operands.toList e).1=[.ptr ob off]:=by
  have ht:F0 h o=false:=by simp[F0,hop]
  rw[ht,hop]
  show[(Fr e a).borrow]=_
  rw[hl];rfl
 rw[hv]at hr
 unfold Fh at hr
 rw[hop]at hr
 dsimp only at hr
 cases hob:H[ob]? with
 |none=>rw[hob]at hr;exact hr.elim
 | some q =>
  cases q with
  |none=>rw[hob]at hr;exact hr.elim
  | some cs =>
   rw[hob]at hr
   dsimp only at hr
   cases hx:Ll P t cs off with
   |none=>rw[hx]at hr;exact hr.elim
   | some x =>
    rw[hx,htk]at hr
    obtain⟨rfl,rfl⟩:=hr
    refine⟨cs,x,rfl,hx,rfl,rfl,λH2 cs2 k1 k2=>?_⟩
    have ha:Fh P h o [.ptr ob off] H2 λv' H''=>v'=x.borrow/\H''=H2:=by
     simp only[Fh,hop,k1,k2,htk]
     first|exact⟨rfl,rfl⟩|exact⟨trivial,trivial⟩
    obtain⟨v',H'',⟨rfl,rfl⟩,hf2⟩:=TA FR ha
    unfold LH
    rw[R7 hg]
    refine⟨hd, ?_⟩
    rw[hv]
    exact hf2
def KH(P:Program)(h:EX)(o:Oper):Option (Tmp×Nat×Bool) :=
 match o.op,o.guard with
 |.store t (.tmp a) _,none=>some (a,P.cellsOf t,true)
 |.load t (.tmp a),none=>if Rp h o=true then some (a,Yu P t,false)else none
 |_,_=>none
def RB{o:Oper}{a:Tmp}{k:Nat}{s:Bool}(ho:KH P h o=some (a,k,s)):o.guard=none /\
  ((s=true /\ ∃t x,o.op = .store t (.tmp a) x/\k=P.cellsOf t)\/(s=false /\ ∃t,o.op = .load t (.tmp a)/\Rp h o=true/\k=Yu P t)):=by
 unfold KH at ho
 split at ho
 ·rename_i h1 h2
  cases ho
  exact⟨h2,.inl ⟨rfl,_,_,h1,rfl⟩⟩
 ·rename_i h1 h2
  split at ho
  ·rename_i h3
   cases ho
   exact⟨h2,.inr ⟨rfl,_,h1,h3,rfl⟩⟩
  ·cases ho
 ·cases ho
def KG(P:Program)(h:EX)(x y:Oper)(e:Fs):Prop :=
 match KH P h x,KH P h y with
 |some (a,k,s),some (b,l,s')=>(s=true\/s'=true)/\match Fr e a,Fr e b with
  |.ptr o1 f1,.ptr o2 f2=>o1≠o2\/f1+k<=f2\/f2+l<=f1
  |_,_=>False
 |_,_=>False
def LH.swapAt{x y:Oper}{e e':Fs}{H H1 H2:cj}{v u:AV}(hx:LH P n h ops x e H v H1)(hy:LH P n h ops y e' H1 u H2)(hd:KG P h x y e)(hyl : ∀ b k s,KH P h y=some (b,k,s)->Fr e' b=Fr e b):
  ∃H1',LH P n h ops y e' H u H1'/\LH P n h ops x e H1' v H2:=by
 unfold KG at hd
 cases hax:KH P h x with
 |none=>rw[hax]at hd;exact hd.elim
 | some px =>
  obtain⟨a,k,s⟩:=px
  cases hay:KH P h y with
  |none=>rw[hax,hay]at hd;exact hd.elim
  | some py =>
   obtain⟨b,l,s'⟩:=py
   rw[hax,hay]at hd
   obtain⟨hss,hd⟩:=hd
   have hlb:=hyl b l s' hay
   cases hla:Fr e a<;>rw[hla]at hd<;>first|exact hd.elim|skip
   rename_i o1 f1
   cases hlb':Fr e b<;>rw[hlb']at hd<;>first|exact hd.elim|skip
   rename_i o2 f2
   rw[hlb']at hlb
   obtain⟨gx,hx'⟩:=RB hax
   obtain⟨gy,hy'⟩:=RB hay
   rcases hx' with⟨rfl,t,z,ox,rfl⟩|⟨rfl,t,ox,ldx,rfl⟩
   ·obtain⟨ob,off,cs,xs,e1,e2,e3,e4,rfl,rfl,again⟩:=hx.store ox gx
    rw[hla]at e1;cases e1
    have hlt:=(AC.1 e2).1
    rcases hy' with⟨rfl,t',z',oy,rfl⟩|⟨rfl,t',oy,ldy,rfl⟩
    · -- two stores
     obtain⟨ob',off',cs',ys,k1,k2,k3,k4,rfl,rfl,again'⟩:=hy.store oy gy
     rw[hlb]at k1;cases k1
     by_cases hoo:o1=o2
     ·subst hoo
      rw[A1 hlt]at k2
      cases k2
      have hdis:f1+xs.length<=f2\/f2+ys.length<=f1:=by rw[e3,k3];exact hd.resolve_left (λhne=>hne rfl)
      have hle:f2+ys.length<=cs.length:=by rw[KS e4]at k4;exact k4
      refine⟨_,again' H cs e2 hle, ?_⟩
      have:=again (H.set o1 (some (splice cs f2 ys))) (splice cs f2 ys) (A1 hlt) (by rw[KS hle];exact e4)
      rw[BB]at this ⊢
      rw[dX hdis e4 hle]
      exact this
     ·rw[A6 hoo]at k2
      refine⟨_,again' H cs' k2 k4, ?_⟩
      have:=again (H.set o2 (some (splice cs' f2 ys))) cs (by rw[A6 (Ne.symm hoo)];exact e2) e4
      rw[List.set_comm _ _ hoo]
      exact this
    · -- a store,a load behind it
     obtain⟨cs',w,k1,k2,rfl,rfl,again'⟩:=hy.pload oy ldy gy hlb
     by_cases hoo:o1=o2
     ·subst hoo
      rw[A1 hlt]at k1
      cases k1
      have hdis:f2+Yu P t'<=f1\/f1+xs.length<=f2:=by rw[e3];exact(hd.resolve_left (λhne=>hne rfl)).symm
      rw[VZ hdis e4]at k2
      exact⟨H,again' H cs e2 k2,hx⟩
     ·rw[A6 hoo]at k1
      exact⟨H,again' H cs' k1 k2,hx⟩
   ·obtain⟨cs,w,e1,e2,rfl,rfl,again⟩:=hx.pload ox ldx gx hla
    rcases hy' with⟨rfl,t',z',oy,rfl⟩|⟨rfl,t',oy,ldy,rfl⟩
    · -- a load,a store behind it
     obtain⟨ob',off',cs',ys,k1,k2,k3,k4,rfl,rfl,again'⟩:=hy.store oy gy
     rw[hlb]at k1;cases k1
     have hlt:=(AC.1 k2).1
     refine⟨_,hy, ?_⟩
     by_cases hoo:o1=o2
     ·subst hoo
      rw[e1]at k2;cases k2
      have hdis:f1+Yu P t<=f2\/f2+ys.length<=f1:=by rw[k3];exact hd.resolve_left (λhne=>hne rfl)
      exact again _ (splice cs f2 ys) (A1 hlt) (by rw[VZ hdis k4];exact e2)
     ·exact again _ cs (by rw[A6 (Ne.symm hoo)];exact e1) e2
    ·rcases hss with h|h<;>cases h
end
end Go.AI
namespace Go.AI
section
variable{P:Program}{n:Nat}{h:EX}{ops:Array Oper}
def V4(h:EX)(ops:Array Oper)(x y:Oper):Bool :=
 x.apart ops y&&(If h x).all (λt => !(y.looksAt ops).contains t)&&(If h y).all (λt => !(x.looksAt ops).contains t)
def gW{x y:Oper}(hi:V4 h ops x y=true):(∀d,x.dst=some d->d∉y.looksAt ops)/\(∀d,x.dst=some d->y.dst≠some d)/\(∀d,y.dst=some d->d∉x.looksAt ops) /\
  (∀t∈If h x,t∉y.looksAt ops)/\(∀t∈If h y,t∉x.looksAt ops):=by
 simp only[V4,AM]at hi
 obtain⟨⟨h1,h2⟩,h3⟩:=hi
 obtain⟨g1,g2,g3⟩:=Oper.apart_spec h1
 exact⟨g1,g2,g3,λt ht=>by simpa using Am.1 h2 t ht,λt ht=>by simpa using Am.1 h3 t ht⟩
def ZZ{o:Oper}{q:Tmp×Nat×Bool}(ho:KH P h o=some q):Gx h o≠4:=by
 obtain⟨a,k,s⟩:=q
 obtain⟨_,h1⟩:=RB ho
 rcases h1 with⟨_,t,x,hop,_⟩|⟨_,t,hop,hl,_⟩
 ·simp[Gx,hop]
 ·have:=Ia hl;omega
def pA{x y:Oper}{K:Fs->cj->Prop}{e:Fs}{H:cj}(hi:V4 h ops x y=true)(hd:KG P h x y e)(hK:RH K)(ha:Ie P n h ops x (Ie P n h ops y K) e H):Ie P n h ops y (Ie P n h ops x K) e H:=by
 obtain⟨i1,i2,i3,i4,i5⟩:=gW hi
 have hx4:Gx h x≠4:=by
  unfold KG at hd
  cases hax:KH P h x with
  |none=>rw[hax]at hd;exact hd.elim
  |some q=>exact ZZ hax
 have hy4:Gx h y≠4:=by
  unfold KG at hd
  cases hay:KH P h y with
  |none=>rw[hay]at hd;cases hax:KH P h x<;>rw[hax]at hd<;>exact hd.elim
  |some q=>exact ZZ hay
 obtain⟨v,H1,hx,hya⟩:=Lh hx4 ha
 obtain⟨u,H2,hy,hk⟩:=Lh hy4 hya
 have hye:∀t∈y.looksAt ops,Fr (Tz P h ops x e v) t=Fr e t:=λt ht=>Hw (λhd=>i1 t hd ht) (λhm=>i4 t hm ht)
 have hy':=hy.env hye
 obtain⟨H1',hy2,hx2⟩:=hx.swapAt hy' hd λ_ _ _ _=>rfl
 have hxe:∀t∈x.looksAt ops,Fr e t=Fr (Tz P h ops y e u) t:=λt ht=>(Hw (λhd=>i3 t hd ht) (λhm=>i5 t hm ht)).symm
 have hx3:=hx2.env hxe
 refine Ue hy2 (Ue hx3 (hK _ _ _ (λt=>?_) hk))
 by_cases hyd:y.dst=some t
 ·have hxd:x.dst≠some t:=λhd=>i2 t hd hyd
  have hxt:t∉If h x:=λhm=>i3 t hyd (I5 hm)
  rw[Hw (o:=x) (e:=Tz P h ops y e u) hxd hxt]
  exact KQ hye (.inl hyd)
 ·by_cases hyt:t∈If h y
  ·have hxd:x.dst≠some t:=λhd=>i1 t hd (I5 hyt)
   have hxt:t∉If h x:=λhm=>i4 t hm (I5 hyt)
   rw[Hw (o:=x) (e:=Tz P h ops y e u) hxd hxt]
   exact KQ hye (.inr (Hw hxd hxt))
  ·rw[Hw (o:=y) hyd hyt]
   refine KQ hxe ?_
   by_cases hxd:x.dst=some t
   ·exact .inl hxd
   ·exact .inr (Hw hyd hyt).symm
def WX{v:AV}{a b:Nat}(h:v.borrow = .ptr a b):v = .ptr a b:=by
 cases v<;>first|exact h|cases h
def AFf{ty:Option TypeId}{take:Bool}{x:Operand}{e:Fs}{t:Tmp}{a b:Nat}(h2:Fr (NO P ty take x e).2 t = .ptr a b):Fr e t = .ptr a b:=by
 cases take with
 |false=>exact h2
 | true =>
  simp only[NO]at h2
  split at h2
  ·simp only[Fr]at h2
   split at h2
   ·rename_i ht;subst ht;exact WX h2
   ·exact h2
  ·exact h2
def qv{ty:Option TypeId}{take:Bool}{t:Tmp}{a b:Nat}: ∀{xs:List Operand} {e:Fs},Fr (OX P ty take xs e).2 t = .ptr a b->Fr e t = .ptr a b
 |[],e,h2=>h2
 |x::xs,e,h2=>AFf (qv (xs:=xs) h2)
def Zg{o:Oper}{e:Fs}{v:AV}{t:Tmp}(h1:o.dst≠some t){a b:Nat}(h2:Fr (Tz P h ops o e v) t = .ptr a b):Fr e t = .ptr a b:=by
 unfold Tz at h2
 split at h2<;>rw[Rf,iN h1]at h2
 ·exact qv h2
 ·exact h2
end
end Go.AI
namespace Go.AI
def P7(P:Program)(n:Nat)(h:EX)(ops:Array Oper)(K:Fs->cj->Prop):Nat->Array Bool->Fs->cj->Prop
 | 0,listed=>λe H=>Region.ready .any ops listed=[]/\K e H
 | fuel+1,listed=>λe H=>(Region.ready .any ops listed=[]->K e H) /\
   ∀i∈Region.ready .any ops listed,∃o,ops[i]? =some o/\Ie P n h ops o (P7 P n h ops K fuel (listed.setIfInBounds i true)) e H
def Pn{listed:Array Bool}{k:Nat}(h:listed.getD k false=true):listed.getD k true=true:=by
 rw[Cp]at h ⊢
 cases hx:listed[k]? with
 |none=>rfl
 |some b=>rw[hx]at h;exact h
def Hh(ops:Array Oper):Nat->Nat->Nat->Bool
 | 0,_,_=>false
 |f+1,j,i=>match ops[j]? with
  |none=>false
  |some oj=>oj.after.any λe=>Region.binds .any e&&(e.on==i||Hh ops f e.on i)
def Cl(ops:Array Oper)(listed:Array Bool):Prop:=∀(m:Nat) (om:Oper),ops[m]? =some om->listed.getD m true=true -> ∀e∈om.after,Region.binds .any e=true->listed.getD e.on true=true
def I6{ops:Array Oper}{listed:Array Bool}(hcl:Cl ops listed){i:Nat}: ∀(f j:Nat),Hh ops f j i=true->(∀oj,ops[j]? =some oj -> ∀e∈oj.after,Region.binds .any e=true->listed.getD e.on true=true)->listed.getD i true=true
 | 0,j,h,_=>by cases h
 | f+1,j,h,ha=>by
  unfold Hh at h
  split at h
  ·cases h
  ·rename_i oj hj
   obtain⟨e,he,hb⟩:=De.1 h
   simp only[AM,CF,beq_iff_eq]at hb
   have hl:=ha oj hj e he hb.1
   rcases hb.2 with h1|h1
   ·rw[<- h1];exact hl
   ·exact I6 hcl f e.on h1 λom hm e' he' hb'=>hcl e.on om hm hl e' he' hb'
def Cl.add{ops:Array Oper}{listed:Array Bool}(hcl:Cl ops listed){j:Nat}(hj:j∈Region.ready .any ops listed):Cl ops (listed.setIfInBounds j true):=by
 have mono:∀k,listed.getD k true=true->(listed.setIfInBounds j true).getD k true=true:=λk hk=>by
  by_cases hjk:j=k
  ·subst hjk
   rw[Cp,Array.getElem?_setIfInBounds_self]
   split<;>rfl
  ·rw[getD_set_ne true hjk];exact hk
 intro m om hm hl e he hb
 by_cases hjm:j=m
 ·subst hjm
  obtain⟨_,oj,hoj,hall⟩:=mem_ready.1 hj
  rw[hm]at hoj;cases hoj
  refine mono _ ?_
  exact Pn (hall e he hb)
 ·rw[getD_set_ne true hjm]at hl
  exact mono _ (hcl m om hm hl e he hb)
def rR(h:EX)(ops:Array Oper)(listed:Array Bool)(i:Nat):Bool :=
 match ops[i]? with
 |none=>false
 | some oi=>(Ak ops.size).all λj=>j==i||listed.getD j true||match ops[j]? with
   |some oj=>oj.after.any (λe=>Region.binds .any e&&e.on==i)||L_ h ops oi oj||Hh ops 9 j i
   |none=>true
def PL(h:EX)(ops:Array Oper):Nat->Nat->Array Bool->Bool
 | 0,_,listed=>(Region.ready .any ops listed).isEmpty
 |fuel+1,k,listed=>(Region.ready .any ops listed).contains k&&rR h ops listed k&&PL h ops fuel (k+1) (listed.setIfInBounds k true)
def no(h:EX)(ops:Array Oper):Bool:=PL h ops ops.size 0 (CL ops.size false)
def jg(h:EX)(ops:Array Oper):List Nat->Array Bool->Bool
 |[],listed=>(Region.ready .any ops listed).isEmpty
 |k::r,listed=>(Region.ready .any ops listed).contains k&&rR h ops listed k&&jg h ops r (listed.setIfInBounds k true)
def au(h:EX)(ops:Array Oper)(l:List Nat):Bool:=l.length==ops.size&&jg h ops l (CL ops.size false)
section
variable{P:Program}{n:Nat}{h:EX}{ops:Array Oper}{K:Fs->cj->Prop}
def Py(hK:RH K): ∀(fuel:Nat) (listed:Array Bool),RH (P7 P n h ops K fuel listed)
 | 0,listed=>λe e' H he ha=>⟨ha.1,hK e e' H he ha.2⟩
 | fuel+1,listed=>λe e' H he ha=>⟨λhr=>hK e e' H he (ha.1 hr),λi hi =>
   let⟨o,ho,h1⟩:=ha.2 i hi
   ⟨o,ho,ADN (Py hK fuel _) e e' H he h1⟩⟩
def Wl(hK:RH K){i:Nat}{oi:Oper}(hi:ops[i]? =some oi): ∀ (fuel:Nat) (listed:Array Bool) (e:Fs) (H:cj),
  (∀(j:Nat) (oj:Oper),ops[j]? =some oj->j≠i->listed.getD j true=false->(∀e∈oj.after,Region.binds .any e=true->e.on≠i)->Hh ops 9 j i=false->L_ h ops oi oj=true)->Cl ops listed ->
  i∈Region.ready .any ops listed->Ie P n h ops oi (P7 P n h ops K fuel (listed.setIfInBounds i true)) e H->P7 P n h ops K (fuel+1) listed e H:=by
 intro fuel
 induction fuel with
 | zero =>
  intro listed e H hfree hcl hr ha
  refine⟨λh0=>(by rw[h0]at hr;cases hr),λj hj=>?_⟩
  by_cases hji:j=i
  ·subst hji;exact⟨oi,hi,ha⟩
  ·obtain⟨hjun,oj,hoj,hall⟩:=mem_ready.1 hj
   have hnot:∀e∈oj.after,Region.binds .any e=true->e.on≠i:=λe he hb heq=>by
    have h1:=hall e he hb
    have h0:=(mem_ready.1 hr).1
    rw[heq]at h1
    rcases BM i listed.size with h'|h'
    ·simp[h']at h0 h1;rw[h0]at h1;cases h1
    ·simp[Cm h']at h1
   have hnr:Hh ops 9 j i=false:=by
    cases hR:Hh ops 9 j i with
    |false=>rfl
    | true =>
     have h1:=I6 hcl 9 j hR λoj' hj' e he hb=>by
      rw[hoj]at hj';cases hj'
      exact Pn (hall e he hb)
     have h0:=(mem_ready.1 hr).1
     rw[h0]at h1;cases h1
   have hind:=hfree j oj hoj hji hjun hnot hnr
   have hx4:Gx h oi≠4:=by
    have i6:=(V3 hind).2.2.2.2.2
    intro h4
    rcases i6 with i6|i6
    ·rw[h4]at i6;simp[WM]at i6
    ·have:=Ia i6.1;omega
   obtain⟨v,H',_,h2⟩:=Lh hx4 ha
   have:=ready_mono hj hji
   rw[h2.1]at this
   cases this
 | succ fuel ih =>
  intro listed e H hfree hcl hr ha
  refine⟨λh0=>(by rw[h0]at hr;cases hr),λj hj=>?_⟩
  by_cases hji:j=i
  ·subst hji;exact⟨oi,hi,ha⟩
  ·obtain⟨hjun,oj,hoj,hall⟩:=mem_ready.1 hj
   have hnot:∀e∈oj.after,Region.binds .any e=true->e.on≠i:=λe he hb heq=>by
    have h1:=hall e he hb
    have h0:=(mem_ready.1 hr).1
    rw[heq]at h1
    rcases BM i listed.size with h'|h'
    ·simp[h']at h0 h1;rw[h0]at h1;cases h1
    ·simp[Cm h']at h1
   have hnr:Hh ops 9 j i=false:=by
    cases hR:Hh ops 9 j i with
    |false=>rfl
    | true =>
     have h1:=I6 hcl 9 j hR λoj' hj' e he hb=>by
      rw[hoj]at hj';cases hj'
      exact Pn (hall e he hb)
     have h0:=(mem_ready.1 hr).1
     rw[h0]at h1;cases h1
   have hind:=hfree j oj hoj hji hjun hnot hnr
   have h1:Ie P n h ops oi (Ie P n h ops oj (P7 P n h ops K fuel ((listed.setIfInBounds i true).setIfInBounds j true))) e H:=by
    refine LF (λe' H' h2=>?_) ha
    obtain⟨o,ho,h3⟩:=h2.2 j (ready_mono hj hji)
    rw[hoj]at ho
    cases ho
    exact h3
   have h2:=jZ hind (Py hK fuel _) h1
   have hfree':∀(k:Nat) (ok:Oper),ops[k]? =some ok->k≠i->(listed.setIfInBounds j true).getD k true=false->(∀e∈ok.after,Region.binds .any e=true->e.on≠i)->Hh ops 9 k i=false->L_ h ops oi ok=true:=λk ok hk hki hun hno hnr=>by
    refine hfree k ok hk hki ?_ hno hnr
    by_cases hjk:j=k
    ·subst hjk;exact hjun
    ·rw[getD_set_ne true hjk]at hun;exact hun
   refine⟨oj,hoj,LF (λe' H' h3=>ih (listed.setIfInBounds j true) e' H' hfree' (hcl.add hj) (ready_mono hr (Ne.symm hji)) ?_) h2⟩
   rw[ED _ _ hji]
   exact h3
def Wh{i:Nat}{oi:Oper}{listed:Array Bool}(hi:ops[i]? =some oi)(hf:rR h ops listed i=true)(j:Nat)(oj:Oper)
  (hj:ops[j]? =some oj)(hne:j≠i)(hun:listed.getD j true=false)(hno:∀e∈oj.after,Region.binds .any e=true->e.on≠i)(hnr:Hh ops 9 j i=false):L_ h ops oi oj=true:=by
 simp only[rR,hi,Am,Br]at hf
 have h1:=hf j (An.1 hj).1
 simp only[hj,CF,beq_iff_eq,hne,false_or,hun,Bx,hnr,or_false]at h1
 rcases h1 with h1|h1
 ·obtain⟨e,he,hb⟩:=De.1 h1
  simp only[AM,beq_iff_eq]at hb
  exact absurd hb.2 (hno e he hb.1)
 ·exact h1
def jn(hK:RH K): ∀(l:List Oper) (k:Nat) (listed:Array Bool) (e:Fs) (H:cj),(∀j,l[j]? =ops[k+j]?)->PL h ops l.length k listed=true->Cl ops listed->LO P n h ops l K e H ->
  P7 P n h ops K l.length listed e H
 |[],_,_,_,_,_,hB,_,ha=>⟨by simpa [PL]using hB,ha⟩
 |o::l,k,listed,e,H,hl,hB,hcl,ha=>by
  have h0:ops[k]? =some o:=by simpa using(hl 0).symm
  simp only[AD,PL,AM]at hB
  obtain⟨⟨hr,hf⟩,hB'⟩:=hB
  have hr':k∈Region.ready .any ops listed:=by simpa using hr
  refine Wl hK h0 l.length listed e H (Wh h0 hf) hcl hr' ?_
  exact LF (λe' H' h1=>jn hK l (k+1) _ e' H' (λj=>by have:=hl (j+1);simpa [Ay,Bk 1 j]using this) hB' (hcl.add hr') h1) ha
def jm(hK:RH K): ∀(l:List Nat) (listed:Array Bool) (e:Fs) (H:cj),jg h ops l listed=true->Cl ops listed->LO P n h ops (l.filterMap λi=>ops[i]?) K e H ->
  P7 P n h ops K l.length listed e H
 |[],_,_,_,hB,_,ha=>⟨by simpa [jg]using hB,ha⟩
 |k::l,listed,e,H,hB,hcl,ha=>by
  simp only[jg,AM]at hB
  obtain⟨⟨hr,hf⟩,hB'⟩:=hB
  have hr':k∈Region.ready .any ops listed:=by simpa using hr
  obtain⟨_,o,h0,_⟩:=mem_ready.1 hr'
  rw[B5,h0]at ha
  refine Wl hK h0 l.length listed e H (Wh h0 hf) hcl hr' ?_
  exact LF (λe' H' h1=>jm hK l _ e' H' hB' (hcl.add hr') h1) ha
def N_{ro:Option Nat}{nn:Nat}{F:Nat->Prop}(Q:Exit->Act->World->Prop): ∀(fuel:Nat) (listed:Array Bool) (G:Gh) (env:Fs) (H:cj) (a:Act) (w:World),EY F G n env H a w->P7 P n h ops K fuel listed env H ->
  (∀a' w',NZ F G w n K a' w'->Q .normal a' w')->wpAnyIn (dA ro) nn P .any ops Q fuel listed a w
 | 0,listed,G,env,H,a,w,hs,ha,hQ=>⟨ha.1,hQ a w ⟨env,H,G,ha.2,hs,.refl F G w⟩⟩
 | fuel+1,listed,G,env,H,a,w,hs,ha,hQ=>by
  refine⟨λhr=>hQ a w ⟨env,H,G,ha.1 hr,hs,.refl F G w⟩,λi hi=>?_⟩
  obtain⟨o,ho,h1⟩:=ha.2 i hi
  have hst:=ja (ro:=ro) (nn:=nn) hs h1 Q
  have next:∀a' w',NZ F G w n (P7 P n h ops K fuel (listed.setIfInBounds i true)) a' w'->wpAnyIn (dA ro) nn P .any ops Q fuel (listed.setIfInBounds i true) a' w':=by
   rintro a' w' ⟨env',H',G',hK,hs',he⟩
   refine N_ Q fuel _ G' env' H' a' w' hs' hK λa'' w''=>?_
   rintro ⟨env2,H2,G2,hK2,hs2,he2⟩
   exact hQ a'' w'' ⟨env2,H2,G2,hK2,hs2,he.trans he2⟩
  unfold wpOpIn
  rw[ho]
  simp only
  split
  ·rename_i hw
   rw[iP hw]at hst
   exact Oper.wpIn_mono next hst
  ·rename_i hw
   rw[iN hw]at hst
   exact⟨λ_ _=>trivial,next _ _ hst⟩
def SRel.draw{F:Nat->Prop}{G:Gh}{env:Fs}{H:cj}{a:Act}{w:World}(hs:EY F G n env H a w):EY F G n env H a w.drew:=⟨hs.size,hs.defers,hs.out,hs.c.draw⟩
def bY{ro:Option Nat}{nn:Nat}{F:Nat->Prop}{G:Gh}{env:Fs}{H:cj}{a:Act}{w:World}{id:Nat}(Q:Exit->Act->World->Prop)(hm:P.follows .mixedOrders=true)(hK:RH K)(hd:no h ops=true)
  (hs:EY F G n env H a w)(ha:LO P n h ops ops.toList K env H)(hQ:∀a' w',NZ F G w n K a' w'->Q .normal a' w'):(Code.region id ops true).wpIn (dA ro) nn P Q a w:=by
 refine wpIn_region_any hm ?_
 have h1:=jn (P:=P) (n:=n) (h:=h) (ops:=ops) hK ops.toList 0 (CL ops.size false) env H sm (by simpa [no]using hd) (λm om hm hl=>by
  have hlt:=(An.1 hm).1
  simp[Cp,hlt]at hl) ha
 rw[Bt]at h1
 refine N_ (F:=F) Q ops.size _ G env H a w.drew hs.draw h1 λa' w'=>?_
 rintro ⟨env',H',G',hK',hs',he⟩
 exact hQ a' w' ⟨env',H',G',hK',hs',H9.trans he⟩
def Xy{ro:Option Nat}{nn:Nat}{F:Nat->Prop}{G:Gh}{env:Fs}{H:cj}{a:Act}{w:World}{id:Nat}(l:List Nat)(Q:Exit->Act->World->Prop)(hm:P.follows .mixedOrders=true)(hK:RH K)(hd:au h ops l=true)
  (hs:EY F G n env H a w)(ha:LO P n h ops (l.filterMap λi=>ops[i]?) K env H)(hQ:∀a' w',NZ F G w n K a' w'->Q .normal a' w'):(Code.region id ops true).wpIn (dA ro) nn P Q a w:=by
 refine wpIn_region_any hm ?_
 simp only[au,AM,beq_iff_eq]at hd
 have h1:=jm (P:=P) (n:=n) (h:=h) (ops:=ops) hK l (CL ops.size false) env H hd.2 (λm om hm hl=>by
  have hlt:=(An.1 hm).1
  simp[Cp,hlt]at hl) ha
 rw[hd.1]at h1
 refine N_ (F:=F) Q ops.size _ G env H a w.drew hs.draw h1 λa' w'=>?_
 rintro ⟨env',H',G',hK',hs',he⟩
 exact hQ a' w' ⟨env',H',G',hK',hs',H9.trans he⟩
def Hf(live:List Tmp)(e:Fs):Fs:=live.map λt=>(t,Fr e t)
def mf(live:List Tmp)(e:Fs)(t:Tmp):Fr (Hf live e) t=Fr e t\/Fr (Hf live e) t = .undef:=by
 induction live with
 |nil=>exact .inr rfl
 |cons x l ih =>
  simp only[Hf,AS,Fr]
  split
  ·rename_i hx;subst hx;exact .inl rfl
  ·exact ih
def iy(live:List Tmp){e e':Fs}(he:∀t,Fr e t=Fr e' t):Hf live e=Hf live e':=by
 simp[Hf,he]
def TR(b:Nat): ∀(vs vs':List AV) (us:List Value),vs.length=vs'.length->(∀i:Nat,vs'[i]? =vs[i]?\/vs'[i]? =some .undef)->HA b vs' us<=HA b vs us
 |[],[],us,_,_=>AT _
 |[],_::_,_,h,_=>by simp at h
 |_::_,[],_,h,_=>by simp at h
 |v::vs,v'::vs',[],_,_=>by simp[HA]
 |v::vs,v'::vs',u::us,hl,h=>by
  rw[Fc,Fc]
  have ih:=TR b vs vs' us (by simpa using hl) (λi=>by simpa using h (i+1))
  have h0:=h 0
  simp only[A7,Option.some.injEq]at h0
  rcases h0 with rfl|rfl
  ·omega
  ·rw[Ha];simp only[List.count_nil];omega
def SRel.forget{F:Nat->Prop}{G:Gh}{env env':Fs}{H:cj}{a:Act}{w:World}(hs:EY F G n env H a w)(he:∀t,Fr env' t=Fr env t\/Fr env' t = .undef):EY F G n env' H a w:=by
 have hlook:∀i:Nat,(Gn n env')[i]? =(Gn n env)[i]?\/(Gn n env')[i]? =some .undef:=by
  intro i
  by_cases hi:i<n
  ·rw[IK _ hi,IK _ hi]
   rcases he i with h1|h1
   ·exact .inl (by rw[h1])
   ·exact .inr (by rw[h1])
  ·exact .inl (by rw[Av (by rw[HO];omega),Av (by rw[HO];omega)])
 refine⟨hs.size,hs.defers,λt ht=>?_,⟨by rw[HO];simp[hs.size],λi x u h1 h2=>?_,λi x u h1 h2=>?_⟩,hs.c.h,λb=>?_⟩
 ·rcases he t with h1|h1
  ·rw[h1];exact hs.out t ht
  ·exact h1
 ·rcases hlook i with h3|h3
  ·rw[h3]at h1;exact hs.c.l.rel i x u h1 h2
  ·rw[h3]at h1;cases h1;exact .undef u
 ·rcases hlook i with h3|h3
  ·rw[h3]at h1;exact hs.c.l.tok i x u h1 h2
  ·rw[h3]at h1;cases h1;exact Fj (Ha u) F G w
 ·have h1:=TR b (Gn n env) (Gn n env') a.tmps.toList (by simp[HO]) hlook
  have h2:=hs.c.cnt b
  omega
end
end Go.AI
namespace Go.AI
section
variable{P:Program}{n:Nat}{h:EX}{ops:Array Oper}{K:Fs->cj->Prop}
def jq(hno:∀(i:Nat) (o:Oper),ops[i]? =some o->Gx h o≠4): ∀(fuel:Nat) (listed:Array Bool) (e:Fs) (H:cj),P7 P n h ops K fuel listed e H ->
  ∃e' H',K e' H' /\ ∀(t:Tmp) (a b:Nat),(∀(k:Nat) (ok:Oper),ops[k]? =some ok->listed.getD k true=false->ok.dst≠some t)->Fr e' t = .ptr a b->Fr e t = .ptr a b
 | 0,listed,e,H,ha=>⟨e,H,ha.2,λ_ _ _ _ h=>h⟩
 | fuel+1,listed,e,H,ha=>by
  cases hr:Region.ready .any ops listed with
  |nil=>exact⟨e,H,ha.1 hr,λ_ _ _ _ h=>h⟩
  |cons i r =>
   have hi:i∈Region.ready .any ops listed:=by rw[hr];simp
   obtain⟨o,ho,h1⟩:=ha.2 i hi
   obtain⟨v,H1,_,h2⟩:=Lh (hno i o ho) h1
   obtain⟨e',H',hk,hl⟩:=jq hno fuel _ _ _ h2
   refine⟨e',H',hk,λt a b hw hp=>Zg (hw i o ho (mem_ready.1 hi).1) (hl t a b (λk ok hk hun=>?_) hp)⟩
   refine hw k ok hk ?_
   by_cases hik:i=k
   ·subst hik;exact(mem_ready.1 hi).1
   ·rw[getD_set_ne true hik]at hun;exact hun
def AGT(h:EX)(o:Oper):Option (Tmp×Bool) :=
 match o.op,o.guard with
 |.store _ (.tmp a) _,none=>some (a,true)
 |.load _ (.tmp a),none=>if Rp h o=true then some (a,false)else none
 |_,_=>none
def ZY{o:Oper}{a:Tmp}{s:Bool}(ho:AGT h o=some (a,s)): ∃k,KH P h o=some (a,k,s):=by
 unfold AGT at ho
 unfold KH
 split at ho
 ·rename_i h1 h2
  cases ho
  first|(rw[h1,h2];exact⟨_,rfl⟩)|exact⟨_,rfl⟩
 ·rename_i h1 h2
  split at ho
  ·rename_i h3
   cases ho
   first|(rw[h1,h2];exact⟨_,by simp only[h3,if_true];rfl⟩)|exact⟨_,by simp only[h3,if_true];rfl⟩
  ·cases ho
 ·cases ho
def ACC(ops:Array Oper)(i:Nat)(a:Tmp):Bool:=(Ak ops.size).all λk=>match ops[k]? with
 |some ok => !(ok.dst==some a)||Hh ops 9 i k
 |none=>true
def am(h:EX)(ops:Array Oper)(i:Nat)(oi:Oper)(j:Nat)(oj:Oper):Bool :=
 decide (i<j)&&(V4 h ops oi oj&&match AGT h oi,AGT h oj with
  |some (a,s),some (b,s')=>(s||s')&&ACC ops i a&&ACC ops j b
  |_,_=>false)
def no4(h:EX)(ops:Array Oper):Bool:=ops.toList.all λo => !(Gx h o==4)
def Rv(h:EX)(ops:Array Oper):List (Oper×Oper):=(Ak ops.size).flatMap λi=>(Ak ops.size).filterMap λj=>match ops[i]?,ops[j]? with
 |some oi,some oj=>if(!(i==j) && !(L_ h ops oi oj)&&am h ops i oi j oj && !(Hh ops 9 j i))=true then some (oi,oj)else none
 |_,_=>none
def Jj(P:Program)(h:EX)(ops:Array Oper)(e:Fs):Prop:=∀p∈Rv h ops,KG P h p.1 p.2 e
def ACS{i j:Nat}{oi oj:Oper}(hi:ops[i]? =some oi)(hj:ops[j]? =some oj)(hne:i≠j)(h1:L_ h ops oi oj=false)(h2:am h ops i oi j oj=true)(h3:Hh ops 9 j i=false):(oi,oj)∈Rv h ops:=by
 refine Bo.2 ⟨i,Br.2 (An.1 hi).1,CH.2 ⟨j,Br.2 (An.1 hj).1, ?_⟩⟩
 rw[hi,hj]
 simp[hne,h1,h2,h3]
def ACB{i k:Nat}{a:Tmp}{ok:Oper}(hf:ACC ops i a=true)(hk:ops[k]? =some ok)(hd:ok.dst=some a):Hh ops 9 i k=true:=by
 have:=Am.1 hf k (Br.2 (An.1 hk).1)
 simp only[hk,hd]at this
 simpa using this
def yG(hn4:no4 h ops=true)(hKD:∀e H,K e H->Jj P h ops e){i j:Nat}{oi oj:Oper}(hoi:ops[i]? =some oi)(hoj:ops[j]? =some oj)(hne:i≠j){listed:Array Bool}(hcl:Cl ops listed)
  (hi:i∈Region.ready .any ops listed)(hj:j∈Region.ready .any ops listed)(h1:L_ h ops oi oj=false)(h2:am h ops i oi j oj=true)(h3:Hh ops 9 j i=false){fuel:Nat}{e:Fs}{H:cj}
  (ha:Ie P n h ops oi (Ie P n h ops oj (P7 P n h ops K fuel ((listed.setIfInBounds i true).setIfInBounds j true))) e H):KG P h oi oj e:=by
 have hno:∀(i:Nat) (o:Oper),ops[i]? =some o->Gx h o≠4:=λi o ho h4=>by
  have:=Am.1 hn4 o (by rw[<- Ac]at ho;exact AB ho)
  simp[h4]at this
 obtain⟨v,H1,_,ha1⟩:=Lh (hno i oi hoi) ha
 obtain⟨u,H2,_,ha2⟩:=Lh (hno j oj hoj) ha1
 obtain⟨e',H',hk,hl⟩:=jq hno fuel _ _ _ ha2
 have hap:=hKD e' H' hk _ (ACS hoi hoj hne h1 h2 h3)
 have quiet:∀{m:Nat} {a:Tmp},m∈Region.ready .any ops listed->ACC ops m a=true -> ∀(k:Nat) (ok:Oper),ops[k]? =some ok->listed.getD k true=false->ok.dst≠some a:=λ{m a} hm hf k ok hk hun hd=>by
  obtain⟨_,om,hom,hall⟩:=mem_ready.1 hm
  have:=I6 hcl 9 m (ACB hf hk hd) λoj' hj' e he hb=>by
   rw[hom]at hj';cases hj'
   exact Pn (hall e he hb)
  rw[this]at hun;cases hun
 have now:∀{m:Nat} {a:Tmp} {x y:Nat},m∈Region.ready .any ops listed->ACC ops m a=true->Fr e' a = .ptr x y->Fr e a = .ptr x y:=λ{m a x y} hm hf hp=>by
  have q:=quiet hm hf
  refine Zg (q i oi hoi (mem_ready.1 hi).1) (Zg (q j oj hoj (mem_ready.1 hj).1) (hl a x y (λk ok hk hun=>q k ok hk ?_) hp))
  by_cases hjk:j=k
  ·subst hjk;exact(mem_ready.1 hj).1
  ·rw[getD_set_ne true hjk]at hun
   by_cases hik:i=k
   ·subst hik;exact(mem_ready.1 hi).1
   ·rw[getD_set_ne true hik]at hun;exact hun
 simp only[am,AM]at h2
 replace h2:=h2.2
 obtain⟨_,h2⟩:=h2
 split at h2
 ·rename_i a s b s' ha' hb'
  simp only[AM]at h2
  obtain⟨⟨_,fa⟩,fb⟩:=h2
  obtain⟨k,hka⟩:=ZY (P:=P) ha'
  obtain⟨l,hlb⟩:=ZY (P:=P) hb'
  unfold KG at hap ⊢
  simp only[hka,hlb]at hap ⊢
  refine⟨hap.1, ?_⟩
  have hap:=hap.2
  split at hap
  ·rename_i o1 f1 o2 f2 e1 e2
   rw[now hi fa e1,now hj fb e2]
   exact hap
  ·exact hap.elim
 ·cases h2
def jo(hn4:no4 h ops=true)(hKD : ∀ e H,K e H->Jj P h ops e)(hK:RH K){i:Nat}{oi:Oper}(hi:ops[i]? =some oi): ∀ (fuel:Nat) (listed:Array Bool) (e:Fs) (H:cj),
  (∀(j:Nat) (oj:Oper),ops[j]? =some oj->j≠i->listed.getD j true=false->(∀e∈oj.after,Region.binds .any e=true->e.on≠i)->Hh ops 9 j i=false->L_ h ops oi oj=true\/am h ops i oi j oj=true)->Cl ops listed ->
  i∈Region.ready .any ops listed->Ie P n h ops oi (P7 P n h ops K fuel (listed.setIfInBounds i true)) e H->P7 P n h ops K (fuel+1) listed e H:=by
 intro fuel
 induction fuel with
 | zero =>
  intro listed e H hfree hcl hr ha
  refine⟨λh0=>(by rw[h0]at hr;cases hr),λj hj=>?_⟩
  by_cases hji:j=i
  ·subst hji;exact⟨oi,hi,ha⟩
  ·obtain⟨hjun,oj,hoj,hall⟩:=mem_ready.1 hj
   have hnot:∀e∈oj.after,Region.binds .any e=true->e.on≠i:=λe he hb heq=>by
    have h1:=hall e he hb
    have h0:=(mem_ready.1 hr).1
    rw[heq]at h1
    rcases BM i listed.size with h'|h'
    ·simp[h']at h0 h1;rw[h0]at h1;cases h1
    ·simp[Cm h']at h1
   have hnr:Hh ops 9 j i=false:=by
    cases hR:Hh ops 9 j i with
    |false=>rfl
    | true =>
     have h1:=I6 hcl 9 j hR λoj' hj' e he hb=>by
      rw[hoj]at hj';cases hj'
      exact Pn (hall e he hb)
     have h0:=(mem_ready.1 hr).1
     rw[h0]at h1;cases h1
   have hind:=hfree j oj hoj hji hjun hnot hnr
   have hx4:Gx h oi≠4:=λh4=>by
    have:=Am.1 hn4 oi (by rw[<- Ac]at hi;exact AB hi)
    simp[h4]at this
   obtain⟨v,H',_,h2⟩:=Lh hx4 ha
   have:=ready_mono hj hji
   rw[h2.1]at this
   cases this
 | succ fuel ih =>
  intro listed e H hfree hcl hr ha
  refine⟨λh0=>(by rw[h0]at hr;cases hr),λj hj=>?_⟩
  by_cases hji:j=i
  ·subst hji;exact⟨oi,hi,ha⟩
  ·obtain⟨hjun,oj,hoj,hall⟩:=mem_ready.1 hj
   have hnot:∀e∈oj.after,Region.binds .any e=true->e.on≠i:=λe he hb heq=>by
    have h1:=hall e he hb
    have h0:=(mem_ready.1 hr).1
    rw[heq]at h1
    rcases BM i listed.size with h'|h'
    ·simp[h']at h0 h1;rw[h0]at h1;cases h1
    ·simp[Cm h']at h1
   have hnr:Hh ops 9 j i=false:=by
    cases hR:Hh ops 9 j i with
    |false=>rfl
    | true =>
     have h1:=I6 hcl 9 j hR λoj' hj' e he hb=>by
      rw[hoj]at hj';cases hj'
      exact Pn (hall e he hb)
     have h0:=(mem_ready.1 hr).1
     rw[h0]at h1;cases h1
   have hind:=hfree j oj hoj hji hjun hnot hnr
   have h1:Ie P n h ops oi (Ie P n h ops oj (P7 P n h ops K fuel ((listed.setIfInBounds i true).setIfInBounds j true))) e H:=by
    refine LF (λe' H' h2=>?_) ha
    obtain⟨o,ho,h3⟩:=h2.2 j (ready_mono hj hji)
    rw[hoj]at ho
    cases ho
    exact h3
   have h2:Ie P n h ops oj (Ie P n h ops oi (P7 P n h ops K fuel ((listed.setIfInBounds i true).setIfInBounds j true))) e H:=by
    cases hb:L_ h ops oi oj with
    |true=>exact jZ hb (Py hK fuel _) h1
    | false =>
     have hdy:=hind.resolve_left (by rw[hb];simp)
     have hap:=yG hn4 hKD hi hoj (Ne.symm hji) hcl hr hj hb hdy hnr h1
     have hs:V4 h ops oi oj=true:=by
      simp only[am,AM]at hdy
      replace hdy:=hdy.2
      exact hdy.1
     exact pA hs hap (Py hK fuel _) h1
   have hfree':∀(k:Nat) (ok:Oper),ops[k]? =some ok->k≠i->(listed.setIfInBounds j true).getD k true=false->(∀e∈ok.after,Region.binds .any e=true->e.on≠i)->Hh ops 9 k i=false->L_ h ops oi ok=true\/am h ops i oi k ok=true:=λk ok hk hki hun hno hnr=>by
    refine hfree k ok hk hki ?_ hno hnr
    by_cases hjk:j=k
    ·subst hjk;exact hjun
    ·rw[getD_set_ne true hjk]at hun;exact hun
   refine⟨oj,hoj,LF (λe' H' h3=>ih (listed.setIfInBounds j true) e' H' hfree' (hcl.add hj) (ready_mono hr (Ne.symm hji)) ?_) h2⟩
   rw[ED _ _ hji]
   exact h3
def pI(h:EX)(ops:Array Oper)(listed:Array Bool)(i:Nat):Bool :=
 match ops[i]? with
 |none=>false
 | some oi=>(Ak ops.size).all λj=>j==i||listed.getD j true||match ops[j]? with
   |some oj=>oj.after.any (λe=>Region.binds .any e&&e.on==i)||L_ h ops oi oj||Hh ops 9 j i||am h ops i oi j oj
   |none=>true
def NQ(h:EX)(ops:Array Oper):Nat->Nat->Array Bool->Bool
 | 0,_,listed=>(Region.ready .any ops listed).isEmpty
 |fuel+1,k,listed=>(Region.ready .any ops listed).contains k&&pI h ops listed k&&NQ h ops fuel (k+1) (listed.setIfInBounds k true)
def aw(h:EX)(ops:Array Oper):Bool:=no4 h ops&&NQ h ops ops.size 0 (CL ops.size false)
def jh{i:Nat}{oi:Oper}{listed:Array Bool}(hi:ops[i]? =some oi)(hf:pI h ops listed i=true)(j:Nat)(oj:Oper)
  (hj:ops[j]? =some oj)(hne:j≠i)(hun:listed.getD j true=false)(hno:∀e∈oj.after,Region.binds .any e=true->e.on≠i)(hnr:Hh ops 9 j i=false):L_ h ops oi oj=true\/am h ops i oi j oj=true:=by
 simp only[pI,hi,Am,Br]at hf
 have h1:=hf j (An.1 hj).1
 simp only[hj,CF,beq_iff_eq,hne,false_or,hun,Bx,hnr,or_false]at h1
 rcases h1 with(h1|h1)|h1
 ·obtain⟨e,he,hb⟩:=De.1 h1
  simp only[AM,beq_iff_eq]at hb
  exact absurd hb.2 (hno e he hb.1)
 ·exact .inl h1
 ·exact .inr h1
def Za(hn4:no4 h ops=true)(hKD:∀e H,K e H->Jj P h ops e)(hK:RH K): ∀(l:List Oper) (k:Nat) (listed:Array Bool) (e:Fs) (H:cj),(∀j,l[j]? =ops[k+j]?)->NQ h ops l.length k listed=true->Cl ops listed->LO P n h ops l K e H ->
  P7 P n h ops K l.length listed e H
 |[],_,_,_,_,_,hB,_,ha=>⟨by simpa [NQ]using hB,ha⟩
 |o::l,k,listed,e,H,hl,hB,hcl,ha=>by
  have h0:ops[k]? =some o:=by simpa using(hl 0).symm
  simp only[AD,NQ,AM]at hB
  obtain⟨⟨hr,hf⟩,hB'⟩:=hB
  have hr':k∈Region.ready .any ops listed:=by simpa using hr
  refine jo hn4 hKD hK h0 l.length listed e H (jh h0 hf) hcl hr' ?_
  exact LF (λe' H' h1=>Za hn4 hKD hK l (k+1) _ e' H' (λj=>by have:=hl (j+1);simpa [Ay,Bk 1 j]using this) hB' (hcl.add hr') h1) ha
def Xz{ro:Option Nat}{nn:Nat}{F:Nat->Prop}{G:Gh}{env:Fs}{H:cj}{a:Act}{w:World}{id:Nat}(Q:Exit->Act->World->Prop)(hm:P.follows .mixedOrders=true)(hKD:∀e H,K e H->Jj P h ops e)(hK:RH K)(hd:aw h ops=true)
  (hs:EY F G n env H a w)(ha:LO P n h ops ops.toList K env H)(hQ:∀a' w',NZ F G w n K a' w'->Q .normal a' w'):(Code.region id ops true).wpIn (dA ro) nn P Q a w:=by
 refine wpIn_region_any hm ?_
 simp only[aw,AM]at hd
 have h1:=Za (P:=P) (n:=n) (h:=h) (ops:=ops) hd.1 hKD hK ops.toList 0 (CL ops.size false) env H sm (by simpa using hd.2) (λm om hm hl=>by
  have hlt:=(An.1 hm).1
  simp[Cp,hlt]at hl) ha
 rw[Bt]at h1
 refine N_ (F:=F) Q ops.size _ G env H a w.drew hs.draw h1 λa' w'=>?_
 rintro ⟨env',H',G',hK',hs',he⟩
 exact hQ a' w' ⟨env',H',G',hK',hs',H9.trans he⟩
def ii{e e':Fs}(he:∀t,Fr e t=Fr e' t)(hd:Jj P h ops e):Jj P h ops e':=λp hp=>by
 have h1:=hd p hp
 unfold KG at h1 ⊢
 simp only[he]at h1
 exact h1
end
end Go.AI
namespace Go.AI
section
variable{P:Program}{F:Nat->Prop}{G:Gh}{w:World}{H:cj}{n:Nat}{env:Fs}{a:Act}{vals:List AV}{us:List Value}
def VRel.frozen (h:EZ F G vals H us w) {ob b off len sz:Nat} {cs:List AV} {u:Value} (ho:H[ob]? =some (some cs)) (hb:G.obs[ob]? =some b) (hv:Ea G w (.msl ob off len sz) u) (hle:off+len*sz<=cs.length)
  (ag:Bool) (hs:ag=true\/sz=1):Ea (G.setKind b .imm) w (.sl none (Ho ag sz len ((cs.drop off).map Go.AI.borrow1))) u:=by
 have hbc:=hv.msl_cells hb
 have hext:=(h.freeze ho hb hbc).2
 have hobj:=h.h.obj ob cs b ho hb
 obtain⟨C,E,hrow,hlC,hC⟩:=(hobj.of_cells hbc.choose_spec.choose_spec).2
 generalize hx:AV.msl ob off len sz=x at hv
 cases hv<;>cases hx
 rename_i b0 cap hcap hob hlcap hcc
 rw[hb]at hob
 cases hob
 have hcs:∀c∈(cs.drop off).map Go.AI.borrow1,c.scalar=true:=λc hm=>by
  obtain⟨c0,hc0,rfl⟩:=AO.1 hm
  obtain⟨i,hi⟩:=List.getElem?_of_mem hc0
  rw[A2]at hi
  have hlt:off+i<C.size:=BP (AC.1 hi).1 hlC
  rw[GT]
  exact(hC _ _ _ hi (Ai hlt)).1
 obtain⟨k1,k2⟩:=PC ag sz hs len ((cs.drop off).map Go.AI.borrow1) Hy hcs
 have e:=Lf ag sz len ((cs.drop off).map Go.AI.borrow1)
 have key:∀(i:Nat) (c:AV),(HP (Ho ag sz len ((cs.drop off).map Go.AI.borrow1)))[i]? =some c->c.scalar=true /\ ∃v,C[off+i]? =some v/\Ea (G.setKind b .imm) w c v:=λi c hi=>by
  rw[k1]at hi
  have hi':((cs.drop off).map Go.AI.borrow1)[i]? =some c:=by
   rw[List.getElem?_take]at hi
   split at hi
   ·exact hi
   ·cases hi
  rw[Aa,A2]at hi'
  cases hc0:cs[off+i]? with
  |none=>rw[hc0]at hi';cases hi'
  |some c0 =>
   rw[hc0]at hi'
   cases hi'
   have hlt:off+i<C.size:=BP (AC.1 hc0).1 hlC
   have:=hC _ _ _ hc0 (Ai hlt)
   exact⟨(GT c0).trans this.1,_,Ai hlt,(this.2.1.keep hext.keeps).borrow1⟩
 have hres:=VRel.sl (G:=G.setKind b .imm) (w:=w) none (Ho ag sz len ((cs.drop off).map Go.AI.borrow1)) sz b off cap (λi=>(C[off+i]?).getD Go.undef) k2 (by intro n hn;cases hn) (by rw[e];exact hlcap) (by assumption)
  (λi c hi=>by
   obtain⟨g1,v,g2,g3⟩:=key i c hi
   refine⟨g1, ?_, ?_⟩
   ·unfold Gh.safe
    rw[G.kind_set]
    trivial
   ·rw[g2]
    simp only[Option.getD_some]
    simp[World.cell?,hrow,g2])
  (λi c hi=>by
   obtain⟨g1,v,g2,g3⟩:=key i c hi
   rw[g2]
   exact g3)
 rw[e]at hres
 exact hres
end
end Go.AI
namespace Go.AI
mutual
def AV.bnd(k:Nat):AV->Bool
 |.ptr o _=>decide (o<k)
 |.msl o _ _ _=>decide (o<k)
 |.mslc o _ _ _ _=>decide (o<k)
 |.mapr o=>decide (o<k)
 |.it o=>decide (o<k)
 |.yld o _=>decide (o<k)
 |.ifc _ a=>a.bnd k
 |.cptr cs _=>Fo k cs
 |.sl _ es=>Fo k es
 |.fn _ a b=>Fo k a&&Fo k b
 |.agg cs=>Fo k cs
 |.tup vs=>Fo k vs
 |_=>true
def Fo(k:Nat):List AV->Bool
 |[]=>true
 |v::vs=>v.bnd k&&Fo k vs
end
def GO{k:Nat}{vs:List AV}:Fo k vs=true ↔ ∀v∈vs,v.bnd k=true:=by
 induction vs with
 |nil=>simp[Fo]
 |cons x xs ih=>simp[Fo,ih]
def Hg{α:Type}{k:Nat}{f:α->AV}{l:List α}(h:∀x,(f x).bnd k=true):Fo k (l.map f)=true:=by
 rw[GO]
 intro v hv
 obtain⟨x,_,rfl⟩:=AO.1 hv
 exact h x
def xp{k:Nat}{v:AV}(h:v.bnd k=true): ∀c∈v.cells,c.bnd k=true:=by
 cases v<;>first|(intro c hc;simp only[AV.cells,List.mem_singleton]at hc;subst hc;exact h)|skip
 simp only[AV.bnd]at h
 exact GO.1 h
def AF'{k:Nat}{es:List AV}(h:Fo k es=true): ∀c∈HP es,c.bnd k=true:=by
 intro c hc
 obtain⟨e,he,hc⟩:=Bo.1 hc
 exact xp (GO.1 h e he) c hc
def Gh.cut(G:Gh)(k:Nat):Gh:=⟨G.obs.take k,G.kind⟩
def VRel.cut{G:Gh}{w:World}(k:Nat){a:AV}{v:Value}(h:Ea G w a v)(hp:a.bnd k=true):Ea (G.cut k) w a v:=by
 have hobs:∀o b,o<k->G.obs[o]? =some b->(G.cut k).obs[o]? =some b:=λo b ho hb=>by
  show(G.obs.take k)[o]? =some b
  rw[Bv ho];exact hb
 induction h with
 |undef v=>exact .undef v
 |int k n=>exact .int k n
 |bool b=>exact .bool b
 |str s=>exact .str s
 |nilp=>exact .nilp
 |ptr o off b h hc=>exact .ptr o off b (hobs o b (by simpa [AV.bnd]using hp) h) hc
 |cptr cs off b q u h hu ih =>
  simp only[AV.bnd]at hp
  exact .cptr cs off b q u h λi c hi=>ih i c hi (GO.1 hp c (AB hi))
 |slnil own=>exact .slnil own
 |slany own a=>exact .slany own a
 |sl own es sz b q cap u hsz hown hl hm h hu ih =>
  simp only[AV.bnd]at hp
  exact .sl own es sz b q cap u hsz hown hl hm h λi c hi=>ih i c hi (AF' hp c (AB hi))
 |msl o off len sz b cap h hl hm hc=>exact .msl o off len sz b cap (hobs o b (by simpa [AV.bnd]using hp) h) hl hm hc
 |mslc o off len sz cap b h hl hm hc=>exact .mslc o off len sz cap b (hobs o b (by simpa [AV.bnd]using hp) h) hl hm hc
 |fn f first captured fi ca h1 h2 h3 h4 ih1 ih2 =>
  simp only[AV.bnd,AM]at hp
  exact .fn f first captured fi ca h1 h2 (λi c v hc hv=>ih1 i c v hc hv (GO.1 hp.1 c (AB hc))) (λi c v hc hv=>ih2 i c v hc hv (GO.1 hp.2 c (AB hc)))
 |nilf=>exact .nilf
 |mapr o b h hb hk=>exact .mapr o b (hobs o b (by simpa [AV.bnd]using hp) h) hb hk
 |nilm=>exact .nilm
 |it o b h hb hk=>exact .it o b (hobs o b (by simpa [AV.bnd]using hp) h) hb hk
 |yld o b L h hb hk=>exact .yld o b L (hobs o b (by simpa [AV.bnd]using hp) h) hb hk
 |ifc t a v hs h ih=>exact .ifc t a v hs (ih (by simpa [AV.bnd]using hp))
 |nili=>exact .nili
 |agg cs vs hl hs h ih =>
  simp only[AV.bnd]at hp
  exact .agg cs vs hl hs λi c v hc hv=>ih i c v hc hv (GO.1 hp c (AB hc))
 |tup cs vs hl hs h ih =>
  simp only[AV.bnd]at hp
  exact .tup cs vs hl hs λi c v hc hv=>ih i c v hc hv (GO.1 hp c (AB hc))
def R0(H:cj):Prop:=∀(o:Nat) (cs:List AV),H[o]? =some (some cs)->Fo H.length cs=true
section
variable{P:Program}{F:Nat->Prop}{G:Gh}{w:World}
def GD.cut{k:Nat}{p:AV×Value}(h:GD F G w p):GD F (G.cut k) w p:=h
def ORel.cut{cs:List AV}{b:Nat}(h:ORel F G w cs b)(k:Nat)(hc:∀c∈cs,c.bnd k=true):ORel F (G.cut k) w cs b:=by
 refine⟨h.own, ?_⟩
 have hi:=h.is
 show match G.kind b with
  |.obj=>rU F (G.cut k) w cs b
  |.map=>AHk (G.cut k) w cs b
  |.iter=>cO (G.cut k) w cs b
  |.loop L=>ADp (G.cut k) w L cs b
  |_=>False
 split at hi
 ·rename_i hk
  try rw[hk]
  obtain⟨C,E,g1,g2,g3⟩:=hi
  exact⟨C,E,g1,g2,λi c v hci hv=>⟨(g3 i c v hci hv).1,(g3 i c v hci hv).2.1.cut _ (hc c (AB hci)),(g3 i c v hci hv).2.2⟩⟩
 ·rename_i hk
  try rw[hk]
  obtain⟨es,ms,cl,g1,g2,g3,g4,g5⟩:=hi
  subst g2
  have hb:=hc _ (by simp[J6]:AV.tup (es.flatMap λp=>[p.1,p.2])∈J6 es)
  simp only[AV.bnd]at hb
  refine⟨es,ms,cl,g1,rfl,g3,λi p m hp hm=>?_,g5⟩
  obtain⟨a1,a2,a3,a4⟩:=g4 i p m hp hm
  have F9:=AB hp
  exact⟨a1,a2,a3.cut _ (GO.1 hb _ (Bo.2 ⟨p,F9,sm⟩)),a4.cut _ (GO.1 hb _ (Bo.2 ⟨p,F9,sm⟩))⟩
 ·rename_i hk
  try rw[hk]
  rcases hi with⟨s,pos,h1,h2⟩|⟨h1,h2⟩|⟨o,mb,si,se,h1,h2,h3⟩
  ·exact .inl ⟨s,pos,h1,h2⟩
  ·exact .inr (.inl ⟨h1,h2⟩)
  ·exact .inr (.inr ⟨o,mb,si,se,h1,h2,h3.cut _ (hc _ (by rw[h2];simp[Ti]))⟩)
 ·rename_i L hk
  try rw[hk]
  obtain⟨s,pe,t,D,st,vals,g1,g2,g3,g4,g5⟩:=hi
  subst g3
  have hb:=hc _ (by simp[G8]:AV.tup vals∈G8 st vals)
  simp only[AV.bnd]at hb
  exact⟨s,pe,t,D,st,vals,g1,g2,rfl,g4,λi a u ha hu=>⟨(g5 i a u ha hu).1,(g5 i a u ha hu).2.cut _ (GO.1 hb _ (AB ha))⟩⟩
 ·exact hi.elim
def Zl{n m:Nat}{f:Nat->Nat}(h:n<=m):((Ak n).map f).sum<=((Ak m).map f).sum := by
  induction m with
  | zero => have : n = 0 := by omega
            subst this;exact AT _
  | succ m ih =>
    rw[B9,Aq,B_]
    by_cases e:n=m+1
    · subst e;rw[B9,Aq,B_];exact AT _
    · have := ih FR ; omega
def CRel.cutL{vs:List AV}{us:List Value}{H1 junk:cj}(h:EZ F G vs (H1++junk) us w)(hv:Fo H1.length vs=true)(hc:R0 H1):EZ F (G.cut H1.length) vs H1 us w:=by
 have hlen:=h.h.len
 rw[AF]at hlen
 have hob:∀o,o<H1.length->(G.cut H1.length).obs[o]? =G.obs[o]?:=λo ho=>Bv ho
 have hget:∀(o:Nat) (cs:List AV),H1[o]? =some (some cs)->(H1++junk)[o]? =some (some cs):=λo cs ho=>by
  rw[AX (AC.1 ho).1];exact ho
 refine⟨⟨h.l.len,λi a u h1 h2=>(h.l.rel i a u h1 h2).cut _ (GO.1 hv a (AB h1)),λi a u h1 h2 p hp=>h.l.tok i a u h1 h2 p hp⟩,⟨?_,λo cs b ho hb=>?_,λo o' cs cs' b g1 g2 g3 g4=>?_,h.h.fore,h.h.glob.same rfl⟩,λb=>?_⟩
 ·show(G.obs.take H1.length).length=_
  simp;omega
 ·have hlt:=(AC.1 ho).1
  rw[hob o hlt]at hb
  exact(h.h.obj o cs b (hget o cs ho) hb).cut _ (GO.1 (hc o cs ho))
 ·have l1:=(AC.1 g1).1
  have l2:=(AC.1 g2).1
  rw[hob _ l1]at g3
  rw[hob _ l2]at g4
  exact h.h.inj o o' cs cs' b (hget _ _ g1) (hget _ _ g2) g3 g4
 ·have h3:=h.cnt b
  have e:∀o,o<H1.length->Gq (G.cut H1.length) H1 w o=Gq G (H1++junk) w o:=λo ho=>by
   unfold Gq
   rw[hob o ho,AX ho]
  have h4:IM (G.cut H1.length) H1 w b<=IM G (H1++junk) w b:=by
   unfold IM
   rw[JW (λo ho=>by rw[e o ho]),AF]
   exact Zl FR
  omega
def CRel.cut{v:AV}{u:Value}{H1 junk:cj}(h:EZ F G [v] (H1++junk) [u] w)(hv:v.bnd H1.length=true)(hc:R0 H1):EZ F (G.cut H1.length) [v] H1 [u] w :=
 h.cutL (by simp[Fo,hv]) hc
def Uo(H:cj):Bool:=H.all λo=>match o with
 |some cs=>Fo H.length cs
 |none=>true
def bA{H:cj}(h:Uo H=true):R0 H:=λo cs ho=>by
 have:=Am.1 h _ (AB ho)
 exact this
def T9(n:Option Nat)(e:Fs)(H:cj):cj :=
 match n with
 |some n=>if n<=H.length/\Fo n (e.map (·.2))=true/\Uo (H.take n)=true then H.take n else H
 |none=>H
def AA9{e:Fs}{t:Tmp}:Fr e t = .undef\/Fr e t∈e.map (·.2):=by
 induction e with
 |nil=>exact .inl rfl
 | cons p e ih =>
  obtain⟨k,v⟩:=p
  simp only[Fr]
  split
  ·exact .inr sm
  ·rcases ih with h|h
   ·exact .inl h
   ·exact .inr (by simp only[AS,AY];exact .inr h)
def AFV{G0:Gh}{w0:World}{n:Nat}{env:Fs}{H:cj}{a:Act}(k:Option Nat)(hs:EY F G n env H a w)(he:Ext F G0 w0 G w)(h0:k=none\/G0.obs=[]):
  ∃G',EY F G' n env (T9 k env H) a w/\Ext F G0 w0 G' w:=by
 cases k with
 |none=>exact⟨G,hs,he⟩
 | some k =>
  have h0:G0.obs=[]:=h0.resolve_left sm
  simp only[T9]
  split
  ·rename_i hc
   obtain⟨h1,h2,h3⟩:=hc
   have hl:(H.take k).length=k:=Hy
   have hcr:=hs.c
   rw[<- List.take_append_drop k H]at hcr
   have:=hcr.cutL (by
    rw[hl,GO]
    intro v hv
    obtain⟨t,_,rfl⟩:=AO.1 hv
    rcases AA9 (e:=env) (t:=t)with h|h
    ·rw[h];rfl
    ·exact GO.1 h2 _ h) (bA h3)
   refine⟨_,⟨hs.size,hs.defers,hs.out,this⟩,he.size,⟨λo b ho=>by rw[h0]at ho;simp at ho,he.keeps.shape,he.keeps.sp,he.keeps.safe⟩,he.kind,he.cells,he.io⟩
  ·exact⟨G,hs,he⟩
end
end Go.AI
namespace Go.AI
def GR(k:Nat):List AV->Fs
 |[]=>[]
 |v::vs=>(k,v)::GR (k+1) vs
section
variable{P:Program}{F:Nat->Prop}{G:Gh}{w:World}{H:cj}{n:Nat}
def Kx : ∀ (vs:List AV) (k t:Nat),Fr (GR k vs) t=if k<=t then (vs[t - k]?).getD .undef else .undef
 |[],k,t=>by simp[GR,Fr]
 | v::vs,k,t=>by
  simp only[GR,Fr]
  by_cases h:k=t
  ·subst h;simp
  ·rw[iN h,Kx vs (k+1) t]
   by_cases hk:k<=t
   ·rw[iP FR,iP hk,show t - k=(t - (k+1))+1 by omega]
    simp
   ·rw[iN FR,iN hk]
def WF(vs:List AV)(h:vs.length<=n):Gn n (GR 0 vs)=vs++List.replicate (n - vs.length) .undef:=by
 apply List.ext_getElem?
 intro i
 by_cases hi:i<n
 ·rw[IK _ hi,Kx,iP (BU _),Bm]
  by_cases hv:i<vs.length
  ·rw[AX hv,AH hv];rfl
  ·rw[AN FR,Av FR,List.getElem?_replicate,iP FR];rfl
 ·rw[Av (by rw[HO];omega),Av Hy]
def oK{f:FuncId}{first captured args:List AV}{fv:Value}{uargs:Array Value}(hc:EZ F G (.fn (.func f) first captured::args) H (fv::uargs.toList) w)(hcal:HS P f=true):
  ∃(d:Deferred) (us:Array Value),(Deferred.ofValue fv uargs).run P w = .ok d w/\(invoke d.target d.args).run P w = .ok (.enter f us) w /\
   EZ F G (first.map AV.borrow++args++captured.map AV.borrow) H us.toList w:=by
 have hx:=hc.l.rel 0 _ _ rfl rfl
 obtain⟨_,_,hargs⟩:=hc.l.uncons
 cases hx with
 | fn _ _ _ fi ca h1 h2 h3 h4 =>
  obtain⟨l1,t1⟩:=Hb (F:=F) (G:=G) (w:=w) (first:=first) (fi:=fi.toList) (by simpa using h1) (λi c v a b=>h3 i c v a (by simpa using b))
  obtain⟨l2,t2⟩:=Hb (F:=F) (G:=G) (w:=w) (first:=captured) (fi:=ca.toList) (by simpa using h2) (λi c v a b=>h4 i c v a (by simpa using b))
  have hcr:EZ F G (first.map AV.borrow++args++captured.map AV.borrow) H (fi.toList++uargs.toList++ca.toList) w:=by
   refine⟨(l1.append hargs).append l2,hc.h,λb=>?_⟩
   rw[GV _ _ _ _ _ (l1.append hargs).len,GV _ _ _ _ _ l1.len,t1,t2]
   have:=hc.cnt b
   rw[Fc]at this
   omega
  refine⟨{ target:=.fn (.func f) ca,args:=fi++uargs },fi++uargs++ca,rfl, ?_,by simpa using hcr⟩
  unfold HS at hcal
  split at hcal
  ·rename_i fn hfn
   simp only[AM,BS,beq_eq_false_iff_ne,ne_eq]at hcal
   obtain⟨g1,g2⟩:=hcal
   have g3:fn.body.isNone=false:=by cases hb:fn.body<;>simp_all
   simp only[Sem.run_bind,Sem.run_pure,Result.andThen_ok,invoke,callFunc,run_program,hfn,beq_eq_false_iff_ne.2 g1,g3,Bx,if_false]
  ·cases hcal
def K3(vals:List AV):List Tmp->List AV->Fs->Fs
 |p::ps,y::ys,e=>K3 vals ps ys ((p,y)::e)
 |_,_,e=>e
def Hj(n:Nat)(e:Fs):List AV:=(Gn n e).map AV.borrow
def TT{vals:List AV}: ∀(ps:List Tmp) (ys:List AV) (us:List Value) (e:Fs) (tm:Array Value),EZ F G (ys++Gn n e) H (us++tm.toList) w->ys.length=us.length->tm.size=n->(∀p∈ps,p<n) ->
  (∀t,n<=t->Fr e t = .undef)->ps.length=ys.length ->
  EZ F G (Gn n (K3 vals ps ys e)) H ((ps.zip us).foldl (λ(t:Array Value) (x:Tmp×Value)=>t.setIfInBounds x.1 x.2) tm).toList w /\
   ((ps.zip us).foldl (λ(t:Array Value) (x:Tmp×Value)=>t.setIfInBounds x.1 x.2) tm).size=n /\ ∀t,n<=t->Fr (K3 vals ps ys e) t = .undef
 |[],[],[],e,tm,h,_,hn,_,ho,_=>⟨by simpa [K3]using h,hn,ho⟩
 | p::ps,y::ys,u::us,e,tm,h,hl,hn,hp,ho,hps=>by
  have hpn:=hp p sm
  have hl':ys.length=us.length:=by simpa using hl
  have hset:=h.setSlot (v:=y) (L:=ys++Gn n e) (u:=u) (tm:=us++tm.toList) (d:=us.length+p) (by
   have h1:tm.toList.length=n:=by rw[Bt];exact hn
   rw[AF,h1];exact Nat.add_lt_add_left hpn _)
  have e1:(ys++Gn n e).set (us.length+p) y=ys++Gn n ((p,y)::e):=by
   rw[S4 e y hpn,BV _ _ FR]
   congr 2;omega
  have e2:(us++tm.toList).set (us.length+p) u=us++(tm.setIfInBounds p u).toList:=by
   rw[BV _ _ FR,C5]
   congr 2;omega
  rw[e1,e2]at hset
  exact TT ps ys us ((p,y)::e) (tm.setIfInBounds p u) hset hl' (by simpa using hn) (λq hq=>hp q (by simp[hq])) (λt ht=>by
   have hne:¬p=t:=λe=>by subst e;exact absurd hpn (Nat.not_lt.2 ht)
   simp only[Fr]
   rw[iN hne]
   exact ho t ht) (by simpa using hps)
 |[],_::_,_,_,_,_,_,_,_,_,h=>by simp at h
 |_::_,[],_,_,_,_,_,_,_,_,h=>by simp at h
 |_::_,_::_,[],_,_,_,h,_,_,_,_=>by simp at h
 |[],[],_::_,_,_,_,h,_,_,_,_=>by simp at h
def Nq{s:LoopState}{p:Option Code}(h:Mo s p=some 0):s = .ready/\p=none:=by
 unfold Mo at h
 split at h<;>first|exact⟨rfl,rfl⟩|(simp at h;try omega)
def me{s:LoopState}{p:Option Code}(h:Mo s p=some (-2)):s = .done/\p=some .ret:=by
 unfold Mo at h
 split at h<;>first|exact⟨rfl,rfl⟩|(simp at h;try omega)
def fh{s:LoopState}{p:Option Code}{k:Nat}(h:Mo s p=some ((k:Int)+1)):s = .done/\p=some (.exit k):=by
 unfold Mo at h
 split at h<;>first|(simp at h;omega)|skip
 ·rename_i j
  have:j=k:=by simp at h;omega
  subst this;exact⟨rfl,rfl⟩
 ·simp at h
end
end Go.AI
namespace Go.AI
def KB(ag:Bool)(v:AV)(H:cj):Option (AV×cj) :=
 match v with
 |.msl ob off len sz=>match H[ob]? with
  |some (some cs)=>if off+len*sz<=cs.length/\(ag=true\/sz=1)then some (.sl none (Ho ag sz len ((cs.drop off).map borrow1)),H.set ob none)else none
  |_=>none
 |_=>none
def Xi(z:Tmp×Option Nat×Bool)(e:Fs)(H:cj):Fs×cj :=
 match z.2.1 with
 |none=>match KB z.2.2 (Fr e z.1) H with
  |some (v,H')=>((z.1,v)::e,H')
  |none=>(e,H)
 | some k=>match Fr e z.1 with
  | .ptr o off=>match H[o]? with
   | some (some cs)=>match cs[off+k]? with
    | some c=>match KB z.2.2 c H with
     |some (v,H')=>match H'[o]? with
      |some (some _)=>(e,H'.set o (some (cs.set (off+k) v)))
      |_=>(e,H)
     |none=>(e,H)
    |none=>(e,H)
   |_=>(e,H)
  |_=>(e,H)
def Kf:List (Tmp×Option Nat×Bool)->Fs->cj->Fs×cj
 |[],e,H=>(e,H)
 |z::zs,e,H=>Kf zs (Xi z e H).1 (Xi z e H).2
def Hint.lv(h:EX)(id:Nat):List Tmp:=(h.live.lookup id).getD []
def Hint.ct(h:EX)(id:Nat):Option Nat:=h.gc.lookup id
def Hint.da(h:EX)(id:Nat):Bool:=h.dy.contains id
def Hint.mv(h:EX)(id:Nat):List Nat:=h.dy.filterMap λx=>if x / 1000=id+1 then some (x % 1000)else none
def mP(l:List Nat)(n:Nat):List Nat:=l++(Ak n).filter λi => !l.contains i
def Hint.ord(h:EX)(id:Nat)(ops:Array Oper):List Oper:=match h.mv id with
 |[]=>ops.toList
 |l=>(mP l ops.size).filterMap λi=>ops[i]?
def Hint.dn(h:EX)(id:Nat):Bool:=h.da id || !(h.mv id).isEmpty
def pj{h:EX}{id:Nat}(hd:h.dn id=false)(ops:Array Oper):h.da id=false/\h.ord id ops=ops.toList:=by
 simp only[Hint.dn,Bool.or_eq_false_iff,Bool.not_eq_false',EE]at hd
 refine⟨hd.1, ?_⟩
 unfold Hint.ord
 rw[hd.2]
def Hint.at(h:EX)(id:Nat):List (Tmp×Option Nat×Bool):=(h.fz.lookup id).getD []
section
variable{F:Nat->Prop}{G:Gh}{w:World}{H:cj}{n:Nat}{env:Fs}{a:Act}
def Q3{ag:Bool}{v v':AV}{H':cj}(hf:KB ag v H=some (v',H')){vals:List AV}{us:List Value}(h:EZ F G vals H us w){u:Value}(hv:Ea G w v u):
  ∃ob b es,H'=H.set ob none/\v' = .sl none es/\(∃cs,H[ob]? =some (some cs))/\EZ F (G.setKind b .imm) vals H' us w/\Ext F G w (G.setKind b .imm) w/\Ea (G.setKind b .imm) w v' u/\(∃o f l s,v = .msl o f l s):=by
 unfold KB at hf
 split at hf
 ·rename_i ob off len sz
  split at hf
  ·rename_i cs hob
   split at hf
   ·rename_i hc
    cases hf
    have hb:∃b,G.obs[ob]? =some b:=by
     have:=h.h.len
     exact⟨_,AH (by rw[this];exact(AC.1 hob).1)⟩
    obtain⟨b,hb⟩:=hb
    obtain⟨h1,h2⟩:=h.freeze hob hb (hv.msl_cells hb)
    exact⟨ob,b,_,rfl,rfl,⟨cs,hob⟩,h1,h2,VRel.frozen h hob hb hv hc.1 ag hc.2,_,_,_,_,rfl⟩
   ·cases hf
  ·cases hf
 ·cases hf
def AFY(z:Tmp×Option Nat×Bool)(hs:EY F G n env H a w): ∃ G',EY F G' n (Xi z env H).1 (Xi z env H).2 a w/\Ext F G w G' w:=by
 have same:∃G',EY F G' n env H a w/\Ext F G w G' w:=⟨G,hs,.refl F G w⟩
 obtain⟨t,k,ag⟩:=z
 have slot:∀v,Fr env t=v->v ≠ .undef->t<n /\ ∃u,a.tmps[t]? =some u/\Ea G w v u:=λv hv hne=>by
  have hdn:t<n:=by
   by_cases hdn:t<n
   ·exact hdn
   ·rw[hs.out t (B' hdn)]at hv;exact absurd hv.symm hne
  obtain⟨x,hx⟩:∃x,a.tmps[t]? =some x:=⟨_,Ai (by rw[hs.size];exact hdn)⟩
  have hr:=hs.c.l.rel t (Fr env t) x (IK env hdn) (by rw[Ac];exact hx)
  rw[hv]at hr
  exact⟨hdn,x,hx,hr⟩
 unfold Xi
 cases k with
 | none =>
  dsimp only
  split
  ·rename_i v' H' hf
   obtain⟨hdn,u,hu,hvr⟩:=slot (Fr env t) rfl (by intro e;rw[e]at hf;simp[KB]at hf)
   obtain⟨ob,b,es,rfl,rfl,_,h1,h2,h3,_⟩:=Q3 hf hs.c hvr
   refine⟨_, ?_,h2⟩
   have hput:=U4 (v:=.sl none es) (u:=u) hs.size hs.defers hs.out ⟨.cons h3 (Fj (GP rfl u) _ _ _) h1.l,h1.h,λx=>by rw[Fc,GP rfl u];simpa using h1.cnt x⟩ (some t) hdn
   have ea:a.put (some t) u=a:=by
    obtain⟨tm,df⟩:=a
    simp only[Act.put,Act.mk.injEq,and_true]
    apply Array.ext'
    rw[C5]
    exact db (by rw[Ac];exact hu)
   rw[ea]at hput
   exact hput
  ·exact same
 | some k =>
  dsimp only
  split
  ·rename_i o off hlk
   split
   ·rename_i cs hob
    split
    ·rename_i c hc
     split
     ·rename_i v' H' hf
      split
      ·rename_i cs' hob'
       obtain⟨hdn,u,hu,hvr⟩:=slot _ hlk (by intro e;cases e)
       have hlen:=hs.c.h.len
       have hb:∃b,G.obs[o]? =some b:=⟨_,AH (by rw[hlen];exact(AC.1 hob).1)⟩
       obtain⟨b,hb⟩:=hb
       have hcell:∃(C:Array Value) (E:TypeId),w.heap[b]? =some (.cells C E (0,0)):=by
        cases hvr with
        |ptr _ _ b2 h2 hc2=>rw[hb]at h2;cases h2;exact hc2
       obtain⟨C0,E0,hcell⟩:=hcell
       obtain⟨g1,C,E,g2,g3,g4⟩:=(hs.c.h.obj o cs b hob hb).of_cells hcell
       have hlt:off+k<C.size:=BP (AC.1 hc).1 g3
       obtain⟨s1,s2,s3⟩:=g4 _ _ _ hc (Ai hlt)
       obtain⟨ob,b',es,rfl,rfl,_,h1,h2,h3,⟨o5,f5,l5,z5,hmsl⟩⟩:=Q3 hf hs.c s2
       have hne:ob≠o:=by
        rintro rfl
        rw[A1 (by exact(AC.1 hob).1)]at hob'
        cases hob'
       have hob2:(H.set ob none)[o]? =some (some cs):=by rw[A6 hne];exact hob
       have hb2:(G.setKind b' .imm).obs[o]? =some b:=hb
       have hrow':=h1.h.obj o cs b hob2 hb2
       obtain⟨r1,C2,E2,r2,r3,r4⟩:=hrow'.of_cells g2
       have hCC:C2=C:=by rw[g2]at r2;cases r2;rfl
       subst hCC
       have hset:=h1.setObj hob2 hb2 r2 (C':=C2) rfl (cs':=cs.set (off+k) (.sl none es)) (by simpa using r3) (λi c2 y hc2 hy=>?_) (vs:=Gn n env) (us':=a.tmps.toList) h1.l (λx=>?_)
       ·rw[setRow_self w b C2 E2 _ r2]at hset
        exact⟨_,⟨hs.size,hs.defers,hs.out,hset.1⟩,h2.trans hset.2⟩
       ·rw[List.getElem?_set]at hc2
        split at hc2
        ·rename_i he
         subst he
         rw[iP (AC.1 hc).1]at hc2
         cases hc2
         have:y=C2[off+k]:=by rw[Ai hlt]at hy;cases hy;rfl
         subst this
         exact⟨rfl,h3,GA rfl⟩
        ·exact r4 i c2 y hc2 hy
       ·have hle:(((cs.set (off+k) (.sl none es)).zip C2.toList).filterMap tok).count x<=((cs.zip C2.toList).filterMap tok).count x:=by
         subst hmsl
         clear hrow' hcell
         clear h3 h1 h2 s2 s3 r4 g4 g3 r3 hob2 hf hob hob'
         generalize hL:C2.toList=L
         clear hL
         generalize off+k=j at hc ⊢
         induction cs generalizing j L with
         |nil=>simp
         | cons d cs ih =>
          cases L with
          |nil=>simp
          | cons y L =>
           cases j with
           |zero =>
            simp only[A7,Option.some.injEq]at hc
            subst hc
            simp only[List.set_cons_zero,B4,B5]
            simp[tok]
           |succ j =>
            simp only[List.getElem?_cons_succ]at hc
            have:=ih L j hc
            simp only[List.set_cons_succ,B4,B5]
            split
            ·exact this
            ·simp only[List.count_cons];omega
        omega
      ·exact same
     ·exact same
    ·exact same
   ·exact same
  ·exact same
def qr:∀(zs:List (Tmp×Option Nat×Bool)) {G:Gh} {env:Fs} {H:cj},EY F G n env H a w -> ∃G',EY F G' n (Kf zs env H).1 (Kf zs env H).2 a w/\Ext F G w G' w
 |[],G,_,_,hs=>⟨G,hs,.refl F G w⟩
 |z::zs,G,env,H,hs=>by
  obtain⟨G1,h1,e1⟩:=AFY z hs
  obtain⟨G2,h2,e2⟩:=qr zs h1
  exact⟨G2,h2,e1.trans e2⟩
end
def bS(ar:Option Nat)(H:cj):Prop :=
 match ar with
 |none=>True
 |some o => ∃cs,H[o]? =some (some cs)
def JF(P:Program)(n:Nat)(h:EX):Option Nat->Code->(Exit->Fs->cj->Prop)->Fs->cj->Prop
 |_,.skip,Q=>Q .normal
 |_,.region id ops _,Q=>λe H=>LO P n h ops (h.ord id ops) (λe H=>(h.da id=true->Jj P h ops e)/\Q .normal (Kf (h.at id) (Hf (h.lv id) e) H).1 (T9 (h.ct id) (Kf (h.at id) (Hf (h.lv id) e) H).1 (Kf (h.at id) (Hf (h.lv id) e) H).2)) e H
 | ar,.seq a b,Q=>JF P n h ar a λex e H=>match ex with
   |.normal=>JF P n h ar b Q e H
   |ex=>Q ex e H
 | ar,.cond c a b,Q=>λe H=>match G6 P none e c with
   |.bool t=>if t=true then JF P n h ar a Q e H else JF P n h ar b Q e H
   |_=>False
 | ar,.block id c,Q=>JF P n h ar c λex e H=>match ex with
   |.exit j=>if j=id then Q .normal e H else Q (.exit j) e H
   |ex=>Q ex e H
 | ar,.loop c,Q=>λe H => ∃ (I:Fs->cj->Prop) (μ:Fs->cj->Nat),I e H /\ ∀ e H,I e H->JF P n h ar c (λex e' H'=>match ex with
   |.normal=>I e' H'/\μ e' H'<μ e H
   |ex=>Q ex e' H') e H
 | ar,.rangeFunc g ps assign body,Q=>λe H=>bS ar H /\ ∃ (tag:Nat) (f:FuncId) (first captured:List AV),G6 P none e g = .fn (.func f) first captured /\
   Fa P f (first.map AV.borrow++[.yld H.length ⟨tag,ps,assign,body⟩]++captured.map AV.borrow) (H++[some (G8 0 (Hj n e))]) λ_ H2 => ∃st av,
    H2[H.length]? =some (some (G8 st av)) /\
     ((st=0/\Q .normal e (H2.set H.length none))\/(st = -2/\Q .ret e (H2.set H.length none)) \/ ∃k:Nat,st=(k:Int)+1/\Q (.exit k) e (H2.set H.length none))
 |_,.exit id,Q=>Q (.exit id)
 |_,.ret,Q=>Q .ret
 |_,_,_=>λ_ _=>False
def Ga(h:EX):Code->Bool
 |.region id ops draw=>((h.mv id).isEmpty&&(!draw||no h ops||(h.da id&&aw h ops)))||(draw&&au h ops (mP (h.mv id) ops.size) && !(h.mv id).isEmpty)
 |.seq a b=>Ga h a&&Ga h b
 |.cond _ a b=>Ga h a&&Ga h b
 |.block _ c=>Ga h c
 |.loop c=>Ga h c
 |.rangeFunc _ _ a b=>Ga h a&&Ga h b
 |_=>true
def Ru{p:Nat->Prop}(h:∃m,p m): ∃m,p m /\ ∀k,p k->m<=k:=by
 obtain⟨m,hm⟩:=h
 induction m using Nat.strongRecOn with
 | _ m ih =>
  by_cases h0:∃k,k<m/\p k
  ·obtain⟨k,hk,hp⟩:=h0
   exact ih k hk hp
  ·exact⟨m,hm,λk hp=>B' λhlt=>h0 ⟨k,hlt,hp⟩⟩
def XD{F:Fence}{n:Nat}{P:Program}{c:Code}{Q:Exit->Act->World->Prop}{a:Act}{w:World}(J:Nat->Act->World->Prop)(h0:∃m,J m a w)
  (round:∀m a w,J m a w->c.wpIn F n P (Exit.then (λa' w' => ∃m',m'<m/\J m' a' w') Q) a w):(Code.loop c).wpIn F n P Q a w:=by
 have hl:∀a w,∃m,(∃m,J m a w)->J m a w /\ ∀k,J k a w->m<=k:=λa w=>by
  by_cases he:∃m,J m a w
  ·obtain⟨m,h1,h2⟩:=Ru he
   exact⟨m,λ_=>⟨h1,h2⟩⟩
  ·exact⟨0,λh=>absurd h he⟩
 refine wpIn_loop (λa w => ∃m,J m a w) (λa w=>Classical.choose (hl a w)) h0 λa w hI=>?_
 obtain⟨h1,h2⟩:=Classical.choose_spec (hl a w) hI
 refine wpIn_mono (round _ a w h1) (λe a' w' hq=>?_)
 cases e with
 |normal =>
  obtain⟨m',hm,hJ⟩:=hq
  refine⟨⟨m',hJ⟩, ?_⟩
  obtain⟨_,h4⟩:=Classical.choose_spec (hl a' w') ⟨m',hJ⟩
  exact Nat.lt_of_le_of_lt (h4 m' hJ) hm
 |_=>exact hq
def Left(F:Nat->Prop)(G:Gh)(w:World)(n:Nat)(Q:Exit->Fs->cj->Prop)(ex:Exit)(a':Act)(w':World):Prop:=NZ F G w n (Q ex) a' w'
def R2(a:AV):borrow0 (borrow0 a)=borrow0 a:=by
 cases a<;>first|rfl|skip
 case agg cs=>simp only[borrow0,By];congr 1;exact Bq λc _=>N3 c
def Tn(a:AV):a.borrow.borrow=a.borrow:=by
 cases a<;>first|rfl|skip
 case agg cs=>exact R2 (.agg cs)
 case tup vs=>simp only[AV.borrow,By];congr 1;exact Bq λc _=>R2 c
def cr(G0:Gh)(w0:World)(ro ar:Option Nat):Prop :=
 match ro,ar with
 |none,none=>True
 |some l,some o=>G0.obs[o]? =some l/\(∃L,G0.kind l = .loop L)/\l<w0.heap.size
 |_,_=>False
def cr.loop{F:Nat->Prop}{G0 G:Gh}{w0 w:World}{ro ar:Option Nat}{H:cj}{vs:List AV}{us:List Value}(h:cr G0 w0 ro ar)(he:Ext F G0 w0 G w)(hc:EZ F G vs H us w)(ha:bS ar H):
  ∀l,ro=some l -> ∃r:Loop,w.heap[l]? =some (.loop r):=by
 intro l hl
 subst hl
 cases ar with
 |none=>exact h.elim
 |some o =>
  obtain⟨h1,⟨L,h2⟩,h3⟩:=h
  obtain⟨cs,hcs⟩:=ha
  have hk:=he.keeps.sp l h3 (by rw[h2];rfl)
  have hi:=(hc.h.obj o cs l hcs (he.keeps.obs o l h1)).is
  rw[hk.2,h2]at hi
  obtain⟨s,pe,t,D,st,vals,g1,_⟩:=hi
  exact⟨_,g1⟩
def I'{P:Program}{n:Nat}{h:EX}(hm:P.follows .mixedOrders=true): ∀ (c:Code) (ro ar:Option Nat) (F:Nat->Prop) (G0:Gh) (w0:World) (h0:h.gc=[]\/G0.obs=[]) (har:cr G0 w0 ro ar) (hd:Ga h c=true)
  (Q:Exit->Fs->cj->Prop) (QQ:Exit->Act->World->Prop) (G:Gh) (env:Fs) (H:cj) (a:Act) (w:World),
  EY F G n env H a w->Ext F G0 w0 G w->JF P n h ar c Q env H->(∀ex a' w',Left F G0 w0 n Q ex a' w'->QQ ex a' w')->c.wpIn (dA ro) 0 P QQ a w
 |.skip,ro,ar,F,G0,w0,h0,har,_,Q,QQ,G,env,H,a,w,hs,hx,ha,hQ=>wpIn_skip (hQ _ _ _ ⟨env,H,G,ha,hs,hx⟩)
 |.exit id,ro,ar,F,G0,w0,h0,har,_,Q,QQ,G,env,H,a,w,hs,hx,ha,hQ=>wpIn_exit (hQ _ _ _ ⟨env,H,G,ha,hs,hx⟩)
 |.ret,ro,ar,F,G0,w0,h0,har,_,Q,QQ,G,env,H,a,w,hs,hx,ha,hQ=>wpIn_ret (hQ _ _ _ ⟨env,H,G,ha,hs,hx⟩)
 | .region id ops draw,ro,ar,F,G0,w0,h0,har,hd,Q,QQ,G,env,H,a,w,hs,hx,ha,hQ=>by
  have hK:RH λe H=>(h.da id=true->Jj P h ops e)/\Q .normal (Kf (h.at id) (Hf (h.lv id) e) H).1 (T9 (h.ct id) (Kf (h.at id) (Hf (h.lv id) e) H).1 (Kf (h.at id) (Hf (h.lv id) e) H).2):=λe e' H he hq=>by
   refine⟨λhy=>ii he (hq.1 hy), ?_⟩
   show Q .normal (Kf (h.at id) (Hf (h.lv id) e') H).1 (T9 (h.ct id) (Kf (h.at id) (Hf (h.lv id) e') H).1 (Kf (h.at id) (Hf (h.lv id) e') H).2)
   rw[<- iy (h.lv id) he];exact hq.2
  have hnext:∀a' w',NZ F G w n (λe H=>(h.da id=true->Jj P h ops e)/\Q .normal (Kf (h.at id) (Hf (h.lv id) e) H).1 (T9 (h.ct id) (Kf (h.at id) (Hf (h.lv id) e) H).1 (Kf (h.at id) (Hf (h.lv id) e) H).2)) a' w'->QQ .normal a' w':=by
   rintro a' w' ⟨env',H',G',hK',hs',he⟩
   obtain⟨G2,h2,e2⟩:=qr (h.at id) (hs'.forget (mf (h.lv id) env'))
   obtain⟨G3,h3,e3⟩:=AFV (h.ct id) h2 ((hx.trans he).trans e2) (h0.imp (λhg=>by unfold Hint.ct;rw[hg];rfl) (λhg=>hg))
   exact hQ _ _ _ ⟨_,_,G3,hK'.2,h3,e3⟩
  have ho0:(h.mv id).isEmpty=true->h.ord id ops=ops.toList:=λhe=>by
   unfold Hint.ord
   rw[EE.1 he]
  have ho1:(h.mv id).isEmpty=false->h.ord id ops=(mP (h.mv id) ops.size).filterMap λi=>ops[i]?:=λhe=>by
   unfold Hint.ord
   cases hmv:h.mv id with
   |nil=>rw[hmv]at he;cases he
   |cons a l=>rfl
  simp only[JF]at ha
  cases draw with
  |false =>
   simp only[Ga,Bool.not_false,Bool.true_or,Bool.and_true,Bool.false_and,Bool.or_false]at hd
   rw[ho0 hd]at ha
   exact jU _ _ hs ha hnext
  | true =>
   simp only[Ga,Bool.not_true,Bool.false_or,Bool.true_and,CF,AM,BS]at hd
   rcases hd with⟨he,hd|⟨hy,hd⟩⟩|⟨hd,he⟩
   ·rw[ho0 he]at ha
    exact bY _ hm hK hd hs ha hnext
   ·rw[ho0 he]at ha
    exact Xz _ hm (λe H hk=>hk.1 hy) hK hd hs ha hnext
   ·rw[ho1 he]at ha
    exact Xy _ _ hm hK hd hs ha hnext
 | .seq x y,ro,ar,F,G0,w0,h0,har,hd,Q,QQ,G,env,H,a,w,hs,hx,ha,hQ=>by
  simp only[Ga,AM]at hd
  refine wpIn_seq (I' hm x ro ar F G0 w0 h0 har hd.1 _ _ G env H a w hs hx ha λex a' w' hl=>?_)
  obtain⟨env',H',G',hK,hs',he⟩:=hl
  cases ex with
  |normal =>
   exact I' hm y ro ar F G0 w0 h0 har hd.2 Q QQ G' env' H' a' w' hs' he hK hQ
  |_=>exact hQ _ _ _ ⟨env',H',G',hK,hs',he⟩
 | .cond c x y,ro,ar,F,G0,w0,h0,har,hd,Q,QQ,G,env,H,a,w,hs,hx,ha,hQ=>by
  simp only[Ga,AM]at hd
  simp only[JF]at ha
  split at ha
  ·rename_i t ht
   have hev:a.eval c = .bool t:=by
    obtain⟨h1,_⟩:=WC (P:=P) (n:=n) (pre:=[]) (upre:=[]) none false c hs.c rfl hs.size hs.out
    have hr:=h1.l.rel 0 _ _ rfl rfl
    simp only[NO,ht,AV.borrow,borrow0]at hr
    generalize a.eval c=u at hr
    cases hr;rfl
   refine wpIn_cond hev ?_
   cases t with
   |true=>exact I' hm x ro ar F G0 w0 h0 har hd.1 Q QQ G env H a w hs hx (by simpa using ha) hQ
   |false=>exact I' hm y ro ar F G0 w0 h0 har hd.2 Q QQ G env H a w hs hx (by simpa using ha) hQ
  ·exact ha.elim
 | .block id c,ro,ar,F,G0,w0,h0,har,hd,Q,QQ,G,env,H,a,w,hs,hx,ha,hQ=>by
  refine wpIn_block (I' hm c ro ar F G0 w0 h0 har hd _ _ G env H a w hs hx ha λex a' w' hl=>?_)
  obtain⟨env',H',G',hK,hs',he⟩:=hl
  cases ex with
  | exit j =>
   simp only[Exit.inBlock]at hK ⊢
   split
   ·rename_i hj
    rw[iP hj]at hK
    exact hQ _ _ _ ⟨env',H',G',hK,hs',he⟩
   ·rename_i hj
    rw[iN hj]at hK
    exact hQ _ _ _ ⟨env',H',G',hK,hs',he⟩
  |_=>exact hQ _ _ _ ⟨env',H',G',hK,hs',he⟩
 |.loop c,ro,ar,F,G0,w0,h0,har,hd,Q,QQ,G,env,H,a,w,hs,hx,ha,hQ=>by
  obtain⟨I,μ,hI,hround⟩:=ha
  refine XD (λm a' w' => ∃env' H' G',I env' H'/\μ env' H'=m/\EY F G' n env' H' a' w'/\Ext F G0 w0 G' w') ⟨_,env,H,G,hI,rfl,hs,hx⟩ λm a' w' hJ=>?_
  obtain⟨env',H',G',hI',hμ,hs',he⟩:=hJ
  refine I' hm c ro ar F G0 w0 h0 har hd _ _ G' env' H' a' w' hs' he (hround env' H' hI') λex a2 w2 hl=>?_
  obtain⟨env2,H2,G2,hK,hs2,he2⟩:=hl
  cases ex with
  |normal=>exact⟨_,hμ▸hK.2,env2,H2,G2,hK.1,rfl,hs2,he2⟩
  |_=>exact hQ _ _ _ ⟨env2,H2,G2,hK,hs2,he2⟩
 | .rangeFunc g ps assign body,ro,ar,F,G0,w0,h0,har,hd,Q,QQ,G,env,H,a,w,hs,hx,ha,hQ=>by
  simp only[Ga,AM]at hd
  obtain⟨haround,tag,f,first,captured,hg,hcal,hcall⟩:=ha
  have hlen:=hs.c.h.len
  have hev:a.eval g=a.eval g:=rfl
  obtain⟨h1,_⟩:=WC (P:=P) (n:=n) (pre:=[]) (upre:=[]) none false g hs.c rfl hs.size hs.out
  simp only[NO,hg,List.nil_append]at h1
  have hb1:(AV.fn (.func f) first captured).borrow = .fn (.func f) first captured:=rfl
  rw[hb1]at h1
  have main:∀(fn:FuncId) (D:Nat) (Gm:Gh) (wm:World) (mark:List Deferred),EY F Gm n env H { a with defers:=mark++a.defers } wm->Ext F G w Gm wm ->
    EZ F Gm (.fn (.func f) first captured::Gn n env) H (a.eval g::a.tmps.toList) wm ->
    ∃(d:Deferred) (w₁':World) (us:Array Value) (w₂:World),
     (resolve a.eval (rangeCall g wm.heap.size) 0).run P (wm.alloc (.loop { state:=.ready,pending:=none,fn,tmps:=a.tmps,params:=ps,assign,body,defers:=D })) = .ok d w₁' /\
     (invoke d.target d.args).run P w₁' = .ok (.enter f us) w₂ /\
     CallsIn (dA ro) 0 P f us w₂ (rangePost (dA ro) 0 P wm.heap.size QQ { a with defers:=mark++a.defers }):=by
   intro fn D Gm wm mark hsm hem hcm
   have he:=NM (G:=Gm) hcm.h.fore (.loop { state:=.ready,pending:=none,fn,tmps:=a.tmps,params:=ps,assign,body,defers:=D }) (.loop ⟨tag,ps,assign,body⟩)
   have hold:∀b,b<wm.heap.size->(Gm.newK wm.heap.size (.loop ⟨tag,ps,assign,body⟩)).kind b=Gm.kind b/\(wm.alloc (.loop { state:=.ready,pending:=none,fn,tmps:=a.tmps,params:=ps,assign,body,defers:=D })).heap[b]? =wm.heap[b]?:=λb hb =>
    ⟨Gm.newK_kind_ne _ (Nat.ne_of_lt hb),HN _ hb⟩
   have hkn:(Gm.newK wm.heap.size (.loop ⟨tag,ps,assign,body⟩)).kind wm.heap.size = .loop ⟨tag,ps,assign,body⟩:=Gm.kind_set _ _
   have hmlen:=hcm.h.len
   have hobn:(Gm.newK wm.heap.size (.loop ⟨tag,ps,assign,body⟩)).obs[H.length]? =some wm.heap.size:=by
    show(Gm.obs++[wm.heap.size])[H.length]? =_
    rw[AN FR,hmlen,AP];rfl
   have hyv:Gs (.yld H.length ⟨tag,ps,assign,body⟩) (.func (.yield wm.heap.size) #[] #[])=[]:=GP rfl _
   have hvr:Ea (Gm.newK wm.heap.size (.loop ⟨tag,ps,assign,body⟩)) (wm.alloc (.loop { state:=.ready,pending:=none,fn,tmps:=a.tmps,params:=ps,assign,body,defers:=D })) (.yld H.length ⟨tag,ps,assign,body⟩) (.func (.yield wm.heap.size) #[] #[]) :=
    .yld _ _ _ hobn (by rw[size_alloc];omega) hkn
   have hlE:LRel F (Gm.newK wm.heap.size (.loop ⟨tag,ps,assign,body⟩)) (Gn n env) a.tmps.toList (wm.alloc (.loop { state:=.ready,pending:=none,fn,tmps:=a.tmps,params:=ps,assign,body,defers:=D })) :=
    ⟨hsm.c.l.len,λi a' u q1 q2=>(hsm.c.l.rel i a' u q1 q2).keep he.keeps,λi a' u q1 q2 p hp=>(hsm.c.l.tok i a' u q1 q2 p hp).keep λb hb=>by
     obtain⟨t1,_,C,E,t3⟩:=(hsm.c.l.tok i a' u q1 q2 p hp).of_tok hb
     exact⟨t1,hold b (An.1 t3).1⟩⟩
   have hnew:=hcm.newG (.loop ⟨tag,ps,assign,body⟩) (.loop { state:=.ready,pending:=none,fn,tmps:=a.tmps,params:=ps,assign,body,defers:=D }) (G8 0 (Hj n env))
    (vs:=.fn (.func f) first captured :: .yld H.length ⟨tag,ps,assign,body⟩::Gn n env) (us':=a.eval g :: .func (.yield wm.heap.size) #[] #[]::a.tmps.toList)
    ⟨λhF=>absurd (hcm.h.fore _ hF) (Bs _),by
     rw[hkn]
     refine⟨.ready,none,a.tmps,(fn,D),0,Hj n env,heap_alloc_new _ _,rfl,rfl,by simp[Hj,HO];exact hs.size.symm,λi a' u q1 q2=>?_⟩
     simp only[Hj,Aa]at q1
     cases hc:(Gn n env)[i]? with
     |none=>rw[hc]at q1;cases q1
     |some c =>
      rw[hc]at q1;cases q1
      exact⟨Tn c,((hsm.c.l.rel i c u hc (by rw[Ac];exact q2)).borrow).keep he.keeps⟩⟩
    (.cons ((hcm.l.rel 0 _ _ rfl rfl).keep he.keeps) (Fj (RP _ _ _ _) F _ _) (.cons hvr (Fj hyv F _ _) hlE))
    (λb=>by rw[Fc,Fc,Fc,hyv,RP];simp[WW])
   have hsp:=hnew.split (A:=[.fn (.func f) first captured,.yld H.length ⟨tag,ps,assign,body⟩]) (ua:=[a.eval g,.func (.yield wm.heap.size) #[] #[]]) rfl
   have hcD:=hsp.addD
   obtain⟨d,us,hd1,hd2,hcr⟩:=oK (uargs:=#[.func (.yield wm.heap.size) #[] #[]]) hcD hcal
   refine⟨d,_,us,_, ?_,hd2, ?_⟩
   ·simpa [resolve,Act.eval,rangeCall]using hd1
   ·have hC:=hcall _ _ _ _ hcr
    rw[Array.toArray_toList]at hC
    refine CallsIn.mono (show CallsIn (dA ro) 0 P f us _ _ from(callsIn_wide (n:=0)).2 hC) λe w' hen=>?_
    obtain⟨u,rfl,v,H',G',⟨st,av,hst,hor⟩,hcr',hext⟩:=hen
    have hcb:∀b,HA b (Gn n env) a.tmps.toList<=1:=λb=>by
     have:HA b (Gn n env) a.tmps.toList+IM Gm H wm b<=1:=hsm.c.cnt b
     omega
    have hj:=TL (F:=F) hlE hcb (λb hb => .inl (.inl hb)) (λb hb => .inl (.inr hb)) hext hcr'
    have hE:EZ F G' (Gn n env) H' a.tmps.toList w':=hj.rest
    have hob':=hext.keeps.obs _ _ hobn
    obtain⟨hl',hkk'⟩:=hext.keeps.sp wm.heap.size (by rw[size_alloc];omega) (by rw[hkn];rfl)
    have hk':G'.kind wm.heap.size = .loop ⟨tag,ps,assign,body⟩:=hkk'.trans hkn
    obtain⟨r,r1,r2,_⟩:=hE.setLoop hst hob' hk' (s':=.exhausted) (p':=none) rfl
    obtain⟨r',r1',r2',_,_,_,_,_,hset,hexs⟩:=hE.setLoop hst hob' hk' (s':=.exhausted) (p':=r.pending) rfl
    rw[r1]at r1';cases r1'
    have hnb:r.state ≠ .busy:=λhb=>by
     rw[hb]at r2
     have:st = -1:=by cases r2;rfl
     rcases hor with⟨h,_⟩|⟨h,_⟩|⟨k,h,_⟩<;>omega
    have hfin:∀ex,Q ex env (H'.set H.length none)->QQ ex { a with defers:=mark++a.defers } (w'.putObj wm.heap.size (.loop { r with state:=.exhausted })):=λex hq=>by
     refine hQ _ _ _ ⟨env,_,G',hq,⟨hs.size, ?_,hs.out, ?_⟩,hx.trans (hem.trans (he.trans ((hext.mono λb hb => .inl (.inl hb)).trans hexs)))⟩
     ·refine hsm.defers.keep λb hb=>?_
      have hb1:aZ (wm.alloc (.loop { state:=.ready,pending:=none,fn,tmps:=a.tmps,params:=ps,assign,body,defers:=D })) b:=by
       unfold aZ at hb ⊢
       rw[HN _ (An.1 hb).1];exact hb
      have hb2:aZ w' b:=(hext.cells b (.inr hb1)).trans hb1
      unfold aZ at hb2 ⊢
      rw[World.putObj_heap_other (λe=>by subst e;rw[r1]at hb2;cases hb2)];exact hb2
     ·have:=hset.drop H.length
      rw[BB]at this
      exact this
    refine⟨_,_,run_endLoop (P:=P) r1 hnb, ?_⟩
    generalize w'.putObj wm.heap.size (.loop { r with state:=.exhausted })=w5 at hfin ⊢
    rcases hor with⟨h,hq⟩|⟨h,hq⟩|⟨k,h,hq⟩
    ·subst h
     rw[(Nq r2).2]
     exact hfin _ hq
    ·subst h
     rw[(me r2).2]
     exact wpIn_ret (hfin _ hq)
    ·subst h
     rw[(fh r2).2]
     exact wpIn_exit (hfin _ hq)
  refine wpIn_rangeFunc λfn _=>?_
  cases ro with
  | none =>
   have hca:=hs.c.alloc (.deferred (some [])) .imm
   have hea:=Pp (F:=F) (G:=G) (w:=w) (.deferred (some [])) .imm hs.c.h.fore G.obs (λ_ _ h=>h)
   have hdf:DOk F (w.alloc (.deferred (some []))) ([{ target:=.collected w.heap.size,args:=#[] }]++a.defers):=by
    obtain⟨bs,b1,b2,b3⟩:=hs.defers
    have hlt:∀b∈bs,b<w.heap.size:=λb hb=>(An.1 (b3 b hb).2).1
    refine⟨w.heap.size::bs,by rw[b1];rfl,List.nodup_cons.2 ⟨λhm=>absurd (hlt _ hm) (Bs _),b2⟩,λb hb=>?_⟩
    rcases AY.1 hb with rfl|hb
    ·exact⟨λhF=>absurd (hs.c.h.fore _ hF) (Bs _),heap_alloc_new _ _⟩
    ·refine⟨(b3 b hb).1, ?_⟩
     have:=(b3 b hb).2
     unfold aZ at this ⊢
     rw[HN _ (hlt b hb)];exact this
   obtain⟨d,w1',us,w2,m1,m2,m3⟩:=main fn w.heap.size (G.setKind w.heap.size .imm) (w.alloc (.deferred (some []))) [{ target:=.collected w.heap.size,args:=#[] }] ⟨hs.size,hdf,hs.out,hca⟩ hea (h1.alloc (.deferred (some [])) .imm)
   rw[size_alloc]at m1 m3
   exact⟨_,_,_,d,w1',f,us,w2,run_enterLoop_outer (P:=P) fn a.tmps ps assign body,m1,λ_ _=>trivial,m2,λhx=>Bool.noConfusion hx,m3⟩
  |some l0 =>
   obtain⟨r0,hr0⟩:=har.loop hx hs.c haround l0 rfl
   obtain⟨d,w1',us,w2,m1,m2,m3⟩:=main fn r0.defers G w [] hs (.refl F G w) h1
   exact⟨_,_,_,d,w1',f,us,w2,run_enterLoop_inner (P:=P) hr0 fn a.tmps ps assign body,m1,λ_ _=>trivial,m2,λhx=>Bool.noConfusion hx,m3⟩
 |.scope _,_,_,_,_,_,_,_,_,_,_,_,_,_,_,_,_,_,ha,_=>ha.elim
 |.label _,_,_,_,_,_,_,_,_,_,_,_,_,_,_,_,_,_,ha,_=>ha.elim
 |.goto _,_,_,_,_,_,_,_,_,_,_,_,_,_,_,_,_,_,ha,_=>ha.elim
 |.refuse _,_,_,_,_,_,_,_,_,_,_,_,_,_,_,_,_,_,ha,_=>ha.elim
def LU{P:Program}{n:Nat}{h:EX}{o tag:Nat}{ps:Array Tmp}{assign body:Code}(hm:P.follows .mixedOrders=true)(hgc:h.gc=[])(hd:Ga h assign=true/\Ga h body=true)(hps : ∀ p∈ps.toList,p<n):
  ∀ (ys:List AV) (H1:cj) (R:AV->cj->Prop) (av:List AV),H1[o]? =some (some (G8 0 av))->av.length=n->ps.toList.length=ys.length ->
   JF P n h (some o) assign (λex e2 H2=>ex = .normal /\ ∃av2,H2[o]? =some (some (G8 0 av2)) /\
    JF P n h (some o) body (λex e3 H3 => ∃av3,H3[o]? =some (some (G8 (-1) av3))/\match ex with
     |.normal=>R (.bool true) (H3.set o (some (G8 0 av3)))
     |.ret=>R (.bool false) (H3.set o (some (G8 (-2) av3)))
     |.exit k=>R (.bool false) (H3.set o (some (G8 ((k:Int)+1) av3)))
     |_=>False) e2 (H2.set o (some (G8 (-1) av2)))) (K3 av ps.toList ys (GR 0 av)) H1 ->
   NR P o ⟨tag,ps,assign,body⟩ ys H1 R:=by
 intro ys H1 R av hH1 hfl hpl hawp F1 G1 w1 us b hc hb hk
 obtain⟨r,g1,g2,g4,g5,g6,g7,g8,_⟩:=hc.setLoop hH1 hb hk (s':=.ready) (p':=none) rfl
 obtain⟨gr,gp⟩:=Nq g2
 obtain⟨rs,rp,rf,rt,rps,ra,rb,rd⟩:=r
 simp only at g4 g5 g6 g7 g8 gr gp
 have g4:=g4.symm;have g5:=g5.symm;have g6:=g6.symm;have gr:=gr.symm;have gp:=gp.symm
 subst g4 g5 g6 gr gp
 have hul:=hc.l.len
 refine⟨_,g1,by rw[<- hul,<- hpl];simp,roundIn_of_wpIn trivial ?_⟩
 have hbl:b<w1.heap.size:=(An.1 g1).1
 have hframe:EZ F1 G1 (ys++Gn n (GR 0 av)) H1 (us++rt.toList) w1:=by
  rw[WF _ (Nat.le_of_eq hfl),hfl,AP,List.replicate_zero,List.append_nil]
  have htl:∀b',HA b' av rt.toList=0:=λb'=>by
   by_cases h0:0<HA b' av rt.toList
   ·obtain⟨i,a',u',q1,q2,p,q3,q4⟩:=RQ _ _ h0
    have hbo:=(g8 i a' u' q1 (by rw[<- Ac];exact q2)).1
    have:Gs a' u'=[]:=by rw[<- hbo];exact Gc _ _
    have hmem:b'∈Gs a' u':=CH.2 ⟨p,q3,q4⟩
    rw[this]at hmem;cases hmem
   ·omega
  refine⟨hc.l.append ⟨by simpa using g7,λi a' u' q1 q2=>(g8 i a' u' q1 (by rw[<- Ac];exact q2)).2,λi a' u' q1 q2=>?_⟩,hc.h,λb'=>?_⟩
  ·have hbo:=(g8 i a' u' q1 (by rw[<- Ac];exact q2)).1
   exact Fj (by rw[<- hbo];exact Gc _ _) F1 G1 w1
  ·rw[GV _ _ _ _ _ hul,htl]
   exact hc.cnt b'
 have hrt:rt.size=n:=by rw[<- g7,hfl]
 obtain⟨hc2,hsz,hout⟩:=TT (vals:=av) ps.toList ys us (GR 0 av) rt hframe hul hrt hps (λt ht=>by
  rw[Kx,iP (BU _),Av (by rw[Bm,hfl];exact ht)];rfl) hpl
 have hfold:((ps.zip us.toArray).foldl (λtmps (t,a)=>tmps.setIfInBounds t a) rt)=((ps.toList.zip us).foldl (λ(t:Array Value) (x:Tmp×Value)=>t.setIfInBounds x.1 x.2) rt):=by
  rw[<- Array.foldl_toList,Array.toList_zip]
 simp only[hfold]
 have hs1:EY F1 G1 n (K3 av ps.toList ys (GR 0 av)) H1 { tmps:=(ps.toList.zip us).foldl (λ(t:Array Value) (x:Tmp×Value)=>t.setIfInBounds x.1 x.2) rt,defers:=[] } w1 :=
  ⟨hsz,.nil F1 w1,hout,hc2⟩
 have har1:cr G1 w1 (some b) (some o):=⟨hb,⟨_,hk⟩,hbl⟩
 refine I' hm assign (some b) (some o) F1 G1 w1 (.inl hgc) har1 hd.1 _ _ G1 _ H1 _ w1 hs1 (.refl F1 G1 w1) hawp λex a2 w2 hl=>?_
 obtain⟨e2,H2,G2,⟨rfl,av2,hH2,hbody⟩,hs2,he2⟩:=hl
 have hob2:G2.obs[o]? =some b:=he2.keeps.obs _ _ hb
 obtain⟨hbl2,hkk2⟩:=he2.keeps.sp b hbl (by rw[hk];rfl)
 have hk2:G2.kind b = .loop ⟨tag,ps,assign,body⟩:=hkk2.trans hk
 obtain⟨r2,j1,j2,j4,j5,j6,j7,j8,j9,j10⟩:=hs2.c.setLoop hH2 hob2 hk2 (s':=.busy) (p':=none) rfl
 obtain⟨jr,jp⟩:=Nq j2
 have hbegin:=run_beginRound (P:=P) j1 jr
 rw[show({ r2 with state:=.busy }:Loop)={ r2 with state:=.busy,pending:=none } by rw[<- jp]]at hbegin
 refine⟨_,hbegin, ?_⟩
 have hdef3:DOk F1 (w2.putObj b (.loop { r2 with state:=.busy,pending:=none })) a2.defers:=hs2.defers.keep λb' hb'=>by
  unfold aZ at hb' ⊢
  rw[World.putObj_heap_other (λe=>by subst e;rw[j1]at hb';cases hb')];exact hb'
 generalize w2.putObj b (.loop { r2 with state:=.busy,pending:=none })=w3 at j9 j10 hdef3 ⊢
 have he3:=he2.trans j10
 ·have hs3:EY F1 G2 n e2 (H2.set o (some (G8 (-1) av2))) a2 w3:=⟨hs2.size,hdef3,hs2.out,j9⟩
  refine I' hm body (some b) (some o) F1 G1 w1 (.inl hgc) har1 hd.2 _ _ G2 e2 _ a2 w3 hs3 he3 hbody λex a4 w4 hl=>?_
  obtain⟨e4,H4,G4,⟨av3,hH4,hR⟩,hs4,he4⟩:=hl
  have hob4:G4.obs[o]? =some b:=he4.keeps.obs _ _ hb
  obtain⟨hbl4,hkk4⟩:=he4.keeps.sp b hbl (by rw[hk];rfl)
  have hk4:G4.kind b = .loop ⟨tag,ps,assign,body⟩:=hkk4.trans hk
  have fin:∀(jump:Option Code) (s':LoopState) (st':Int) (Q':Prop),s'=(if jump.isNone then .ready else .done)->Mo s' jump=some st'->R (.bool jump.isNone) (H4.set o (some (G8 st' av3))) ->
    ∃v w',(Instr.endRound b jump).run P w4 = .ok v w' /\ ∃u,Ending.returned v = .returned u/\Fi F1 G1 w1 R u w':=by
   intro jump s' st' _ hs' hst hR'
   obtain⟨r4,i1,i2,i4,i5,i6,i7,i8,i9,i10⟩:=hs4.c.setLoop hH4 hob4 hk4 (s':=s') (p':=jump) hst
   refine⟨_,_,run_endRound (P:=P) jump i1,_,rfl,.bool jump.isNone,_,G4,hR', ?_, ?_⟩
   ·rw[<- hs']
    exact i9.plain (.bool _) (GP rfl _)
   ·rw[<- hs']
    exact he4.trans i10
  cases ex with
  |normal=>exact fin none .ready 0 True rfl rfl hR
  |ret=>exact fin (some .ret) .done (-2) True rfl rfl hR
  |exit k=>exact fin (some (.exit k)) .done _ True rfl rfl hR
  |_=>exact hR.elim
end Go.AI
