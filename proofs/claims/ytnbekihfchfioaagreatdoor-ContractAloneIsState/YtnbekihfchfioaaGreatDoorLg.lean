/- Stores and plain loads by their addresses. -/
import Derived.Test.YtnbekihfchfioaaGreatDoorAiV
import Derived.Test.YtnbekihfchfioaaGreatDoorLd
import Derived.Test.YtnbekihfchfioaaGreatDoorLa
import Derived.RangeFuncNested
set_option linter.unusedSimpArgs false
set_option linter.unusedVariables false
open Array renaming any_eq_true'->Db,getD_eq_getD_getElem?->Co,getElem?_eq_getElem->Ai,getElem?_eq_none->Cn,getElem?_eq_some_iff->Ap,getElem?_toList->Ad,length_toList->Bq,replicate->CN,setIfInBounds_comm->D7,toList_setIfInBounds->Cy
open Bool renaming and_eq_true->AR,false_eq_true->Bw,not_eq_true'->BX,or_eq_true->CJ
open List renaming all_eq_true->Ao,filterMap_cons->B6,getElem?_append_left->AW,getElem?_append_right->AM,getElem?_cons_zero->A8,getElem?_drop->A1,getElem?_eq_getElem->AL,getElem?_eq_none->Ax,getElem?_eq_some_iff->AD,getElem?_map->Ac,getElem?_set_ne->A6,getElem?_set_self->Az,getElem?_take_of_lt->Bu,isEmpty_iff->D8,length_append->AE,length_cons->AC,map_append->As,map_congr_left->B3,map_cons->AT,mem_cons->AZ,mem_filterMap->CL,mem_flatMap->Bx,mem_map->AO,mem_of_getElem?->AB,mem_range->Bo,range->Am,range_succ->CA,set_append_right->BZ,sum_append->CB,zip_cons_cons->B5
open Nat renaming add_assoc->AP,le_of_not_lt->CC,le_refl->AU,lt_irrefl->Bp,lt_of_lt_of_le->BR,lt_or_ge->BT
namespace Go.AI
section
variable {P:Program} {n:Nat} {h:Hint} {ops:Array Oper}
theorem RG{o:Oper}{e:Ee}(hg:o.guard=none):ke ops e o=some true:=by simp [ke,hg]
theorem KD.store{o:Oper}{t:TypeId}{a:Tmp}{x:Operand}{e:Ee}{H H':DM}{v:AV}(hop:o.op = .store t (.tmp a) x)(hg:o.guard=none)(ho:KD P n h ops o e H v H'):
  ∃ (ob off:Nat) (cs xs:List AV),Ec e a = .ptr ob off/\H[ob]? =some (some cs)/\xs.length=P.cellsOf t/\off+xs.length<=cs.length/\v = .undef/\H'=H.set ob (some (splice cs off xs)) /\
   ∀ (H2:DM) (cs2:List AV),H2[ob]? =some (some cs2)->off+xs.length<=cs2.length->KD P n h ops o e H2 .undef (H2.set ob (some (splice cs2 off xs))):=by
 have hc:Fg h o=3:=by simp [Fg,hop]
 unfold KD at ho
 rw [RG hg] at ho
 obtain ⟨hd,hf⟩:=ho
 have hr:=hf.again (λv' H''=>v'=v/\H''=H') ⟨rfl,rfl⟩
 have hv : ∃ v2,(NS P (F5 o) (El h o) o.op.operands.toList e).1=[Ec e a,v2]:=by
  have ht:El h o=true:=by simp [El,hop]
  rw [ht,hop]
  exact ⟨_,rfl⟩
 obtain ⟨v2,hv⟩:=hv
 rw [hv] at hr
 unfold ER at hr
 rw [hop] at hr
 cases hl:Ec e a with
 | ptr ob off =>
  rw [hl] at hr
  dsimp only at hr
  cases hob:H[ob]? with
  | none=>rw [hob] at hr;exact hr.elim
  | some q =>
   cases q with
   | none=>rw [hob] at hr;exact hr.elim
   | some cs =>
    rw [hob] at hr
    obtain ⟨g1,g2,g3,g4,rfl,rfl⟩:=hr
    refine ⟨ob,off,cs,v2.cells,rfl,hob,g2,DF,rfl,rfl,λH2 cs2 k1 k2=>?_⟩
    unfold KD
    rw [RG hg]
    refine ⟨hd, ?_⟩
    refine Fact.any hc λR' hr'=>?_
    rw [hv,hl]
    simp only [ER,hop,k1]
    exact ⟨g1,g2,g3,DF,hr'⟩
 | _=>rw [hl] at hr;exact hr.elim
theorem KD.pload{o:Oper}{t:TypeId}{a:Tmp}{e:Ee}{H H':DM}{v:AV}{ob off:Nat}(hop:o.op = .load t (.tmp a))(hld:Qj h o=true)(hg:o.guard=none)(hl:Ec e a = .ptr ob off)(ho:KD P n h ops o e H v H'):
  ∃ (cs:List AV) (x:AV),H[ob]? =some (some cs)/\Kh P t cs off=some x/\v=x.borrow/\H'=H /\
   ∀ (H2:DM) (cs2:List AV),H2[ob]? =some (some cs2)->Kh P t cs2 off=some x->KD P n h ops o e H2 v H2:=by
 have hc:=HF hld
 have htk:o.dst.any h.tk.contains=false:=by simpa [Qj,hop] using hld
 unfold KD at ho
 rw [RG hg] at ho
 obtain ⟨hd,hf⟩:=ho
 have hr:=hf.again (λv' H''=>v'=v/\H''=H') ⟨rfl,rfl⟩
 have hv:(NS P (F5 o) (El h o) o.op.operands.toList e).1=[.ptr ob off]:=by
  have ht:El h o=false:=by simp [El,hop]
  rw [ht,hop]
  show [(Ec e a).borrow]=_
  rw [hl];rfl
 rw [hv] at hr
 unfold ER at hr
 rw [hop] at hr
 dsimp only at hr
 cases hob:H[ob]? with
 | none=>rw [hob] at hr;exact hr.elim
 | some q =>
  cases q with
  | none=>rw [hob] at hr;exact hr.elim
  | some cs =>
   rw [hob] at hr
   dsimp only at hr
   cases hx:Kh P t cs off with
   | none=>rw [hx] at hr;exact hr.elim
   | some x =>
    rw [hx,htk] at hr
    obtain ⟨rfl,rfl⟩:=hr
    refine ⟨cs,x,rfl,hx,rfl,rfl,λH2 cs2 k1 k2=>?_⟩
    have ha:ER P h o [.ptr ob off] H2 λv' H''=>v'=x.borrow/\H''=H2:=by
     simp only [ER,hop,k1,k2,htk]
     first|exact ⟨rfl,rfl⟩|exact ⟨trivial,trivial⟩
    obtain ⟨v',H'',⟨rfl,rfl⟩,hf2⟩:=Sb DF ha
    unfold KD
    rw [RG hg]
    refine ⟨hd, ?_⟩
    rw [hv]
    exact hf2
def I6(P:Program)(h:Hint)(o:Oper):Option (Tmp×Nat×Bool) :=
 match o.op,o.guard with
 | .store t (.tmp a) _,none=>some (a,P.cellsOf t,true)
 | .load t (.tmp a),none=>if Qj h o=true then some (a,Yl P t,false) else none
 | _,_=>none
theorem P5{o:Oper}{a:Tmp}{k:Nat}{s:Bool}(ho:I6 P h o=some (a,k,s)):o.guard=none /\
  ((s=true /\ ∃ t x,o.op = .store t (.tmp a) x/\k=P.cellsOf t)\/(s=false /\ ∃ t,o.op = .load t (.tmp a)/\Qj h o=true/\k=Yl P t)):=by
 unfold I6 at ho
 split at ho
 ·rename_i h1 h2
  cases ho
  exact ⟨h2,.inl ⟨rfl,_,_,h1,rfl⟩⟩
 ·rename_i h1 h2
  split at ho
  ·rename_i h3
   cases ho
   exact ⟨h2,.inr ⟨rfl,_,h1,h3,rfl⟩⟩
  ·cases ho
 ·cases ho
def I5(P:Program)(h:Hint)(x y:Oper)(e:Ee):Prop :=
 match I6 P h x,I6 P h y with
 | some (a,k,s),some (b,l,s')=>(s=true\/s'=true)/\match Ec e a,Ec e b with
  | .ptr o1 f1,.ptr o2 f2=>o1≠o2\/f1+k<=f2\/f2+l<=f1
  | _,_=>False
 | _,_=>False
theorem KD.swapAt{x y:Oper}{e e':Ee}{H H1 H2:DM}{v u:AV}(hx:KD P n h ops x e H v H1)(hy:KD P n h ops y e' H1 u H2)(hd:I5 P h x y e)(hyl : ∀ b k s,I6 P h y=some (b,k,s)->Ec e' b=Ec e b):
  ∃ H1',KD P n h ops y e' H u H1'/\KD P n h ops x e H1' v H2:=by
 unfold I5 at hd
 cases hax:I6 P h x with
 | none=>rw [hax] at hd;exact hd.elim
 | some px =>
  obtain ⟨a,k,s⟩:=px
  cases hay:I6 P h y with
  | none=>rw [hax,hay] at hd;exact hd.elim
  | some py =>
   obtain ⟨b,l,s'⟩:=py
   rw [hax,hay] at hd
   obtain ⟨hss,hd⟩:=hd
   have hlb:=hyl b l s' hay
   cases hla:Ec e a<;>rw [hla] at hd<;>first|exact hd.elim|skip
   rename_i o1 f1
   cases hlb':Ec e b<;>rw [hlb'] at hd<;>first|exact hd.elim|skip
   rename_i o2 f2
   rw [hlb'] at hlb
   obtain ⟨gx,hx'⟩:=P5 hax
   obtain ⟨gy,hy'⟩:=P5 hay
   rcases hx' with ⟨rfl,t,z,ox,rfl⟩|⟨rfl,t,ox,ldx,rfl⟩
   ·obtain ⟨ob,off,cs,xs,e1,e2,e3,e4,rfl,rfl,again⟩:=hx.store ox gx
    rw [hla] at e1;cases e1
    have hlt:=(AD.1 e2).1
    rcases hy' with ⟨rfl,t',z',oy,rfl⟩|⟨rfl,t',oy,ldy,rfl⟩
    · -- two stores
     obtain ⟨ob',off',cs',ys,k1,k2,k3,k4,rfl,rfl,again'⟩:=hy.store oy gy
     rw [hlb] at k1;cases k1
     by_cases hoo:o1=o2
     ·subst hoo
      rw [Az hlt] at k2
      cases k2
      have hdis:f1+xs.length<=f2\/f2+ys.length<=f1:=by rw [e3,k3];exact hd.resolve_left (λhne=>hne rfl)
      have hle:f2+ys.length<=cs.length:=by rw [JN e4] at k4;exact k4
      refine ⟨_,again' H cs e2 hle, ?_⟩
      have:=again (H.set o1 (some (splice cs f2 ys))) (splice cs f2 ys) (Az hlt) (by rw [JN hle];exact e4)
      rw [List.set_set] at this ⊢
      rw [dD hdis e4 hle]
      exact this
     ·rw [A6 hoo] at k2
      refine ⟨_,again' H cs' k2 k4, ?_⟩
      have:=again (H.set o2 (some (splice cs' f2 ys))) cs (by rw [A6 (Ne.symm hoo)];exact e2) e4
      rw [List.set_comm _ _ hoo]
      exact this
    · -- a store,a load behind it
     obtain ⟨cs',w,k1,k2,rfl,rfl,again'⟩:=hy.pload oy ldy gy hlb
     by_cases hoo:o1=o2
     ·subst hoo
      rw [Az hlt] at k1
      cases k1
      have hdis:f2+Yl P t'<=f1\/f1+xs.length<=f2:=by rw [e3];exact (hd.resolve_left (λhne=>hne rfl)).symm
      rw [VF hdis e4] at k2
      exact ⟨H,again' H cs e2 k2,hx⟩
     ·rw [A6 hoo] at k1
      exact ⟨H,again' H cs' k1 k2,hx⟩
   ·obtain ⟨cs,w,e1,e2,rfl,rfl,again⟩:=hx.pload ox ldx gx hla
    rcases hy' with ⟨rfl,t',z',oy,rfl⟩|⟨rfl,t',oy,ldy,rfl⟩
    · -- a load,a store behind it
     obtain ⟨ob',off',cs',ys,k1,k2,k3,k4,rfl,rfl,again'⟩:=hy.store oy gy
     rw [hlb] at k1;cases k1
     have hlt:=(AD.1 k2).1
     refine ⟨_,hy, ?_⟩
     by_cases hoo:o1=o2
     ·subst hoo
      rw [e1] at k2;cases k2
      have hdis:f1+Yl P t<=f2\/f2+ys.length<=f1:=by rw [k3];exact hd.resolve_left (λhne=>hne rfl)
      exact again _ (splice cs f2 ys) (Az hlt) (by rw [VF hdis k4];exact e2)
     ·exact again _ cs (by rw [A6 (Ne.symm hoo)];exact e1) e2
    ·rcases hss with h|h<;>cases h
end
end Go.AI
namespace Go.AI
section
variable {P:Program} {n:Nat} {h:Hint} {ops:Array Oper}
def Vl(h:Hint)(ops:Array Oper)(x y:Oper):Bool :=
 x.apart ops y&&(HN h x).all (λt => !(y.looksAt ops).contains t)&&(HN h y).all (λt => !(x.looksAt ops).contains t)
theorem fk{x y:Oper}(hi:Vl h ops x y=true):(∀ d,x.dst=some d->d∉y.looksAt ops)/\(∀ d,x.dst=some d->y.dst≠some d)/\(∀ d,y.dst=some d->d∉x.looksAt ops) /\
  (∀ t∈HN h x,t∉y.looksAt ops)/\(∀ t∈HN h y,t∉x.looksAt ops):=by
 simp only [Vl,AR] at hi
 obtain ⟨⟨h1,h2⟩,h3⟩:=hi
 obtain ⟨g1,g2,g3⟩:=Oper.apart_spec h1
 exact ⟨g1,g2,g3,λt ht=>by simpa using Ao.1 h2 t ht,λt ht=>by simpa using Ao.1 h3 t ht⟩
theorem ZN{o:Oper}{q:Tmp×Nat×Bool}(ho:I6 P h o=some q):Fg h o≠4:=by
 obtain ⟨a,k,s⟩:=q
 obtain ⟨_,h1⟩:=P5 ho
 rcases h1 with ⟨_,t,x,hop,_⟩|⟨_,t,hop,hl,_⟩
 ·simp [Fg,hop]
 ·have:=HF hl;omega
theorem pw{x y:Oper}{K:Ee->DM->Prop}{e:Ee}{H:DM}(hi:Vl h ops x y=true)(hd:I5 P h x y e)(hK:QB K)(ha:HM P n h ops x (HM P n h ops y K) e H):HM P n h ops y (HM P n h ops x K) e H:=by
 obtain ⟨i1,i2,i3,i4,i5⟩:=fk hi
 have hx4:Fg h x≠4:=by
  unfold I5 at hd
  cases hax:I6 P h x with
  | none=>rw [hax] at hd;exact hd.elim
  | some q=>exact ZN hax
 have hy4:Fg h y≠4:=by
  unfold I5 at hd
  cases hay:I6 P h y with
  | none=>rw [hay] at hd;cases hax:I6 P h x<;>rw [hax] at hd<;>exact hd.elim
  | some q=>exact ZN hay
 obtain ⟨v,H1,hx,hya⟩:=Ke hx4 ha
 obtain ⟨u,H2,hy,hk⟩:=Ke hy4 hya
 have hye : ∀ t∈y.looksAt ops,Ec (TR P h ops x e v) t=Ec e t:=λt ht=>GX (λhd=>i1 t hd ht) (λhm=>i4 t hm ht)
 have hy':=hy.env hye
 obtain ⟨H1',hy2,hx2⟩:=hx.swapAt hy' hd λ_ _ _ _=>rfl
 have hxe : ∀ t∈x.looksAt ops,Ec e t=Ec (TR P h ops y e u) t:=λt ht=>(GX (λhd=>i3 t hd ht) (λhm=>i5 t hm ht)).symm
 have hx3:=hx2.env hxe
 refine UL hy2 (UL hx3 (hK _ _ _ (λt=>?_) hk))
 by_cases hyd:y.dst=some t
 ·have hxd:x.dst≠some t:=λhd=>i2 t hd hyd
  have hxt:t∉HN h x:=λhm=>i3 t hyd (Hj hm)
  rw [GX (o:=x) (e:=TR P h ops y e u) hxd hxt]
  exact JL hye (.inl hyd)
 ·by_cases hyt:t∈HN h y
  ·have hxd:x.dst≠some t:=λhd=>i1 t hd (Hj hyt)
   have hxt:t∉HN h x:=λhm=>i4 t hm (Hj hyt)
   rw [GX (o:=x) (e:=TR P h ops y e u) hxd hxt]
   exact JL hye (.inr (GX hxd hxt))
  ·rw [GX (o:=y) hyd hyt]
   refine JL hxe ?_
   by_cases hxd:x.dst=some t
   ·exact .inl hxd
   ·exact .inr (GX hyd hyt).symm
theorem WI{v:AV}{a b:Nat}(h:v.borrow = .ptr a b):v = .ptr a b:=by
 cases v<;>first|exact h|cases h
theorem ADe{ty:Option TypeId}{take:Bool}{x:Operand}{e:Ee}{t:Tmp}{a b:Nat}(h2:Ec (MC P ty take x e).2 t = .ptr a b):Ec e t = .ptr a b:=by
 cases take with
 | false=>exact h2
 | true =>
  simp only [MC] at h2
  split at h2
  ·simp only [Ec] at h2
   split at h2
   ·rename_i ht;subst ht;exact WI h2
   ·exact h2
  ·exact h2
theorem rX{ty:Option TypeId}{take:Bool}{t:Tmp}{a b:Nat}: ∀ {xs:List Operand} {e:Ee},Ec (NS P ty take xs e).2 t = .ptr a b->Ec e t = .ptr a b
 | [],e,h2=>h2
 | x::xs,e,h2=>ADe (rX (xs:=xs) h2)
theorem ZT{o:Oper}{e:Ee}{v:AV}{t:Tmp}(h1:o.dst≠some t){a b:Nat}(h2:Ec (TR P h ops o e v) t = .ptr a b):Ec e t = .ptr a b:=by
 unfold TR at h2
 split at h2<;>rw [QZ,if_neg h1] at h2
 ·exact rX h2
 ·exact h2
end
end Go.AI
namespace Go.AI
def O4(P:Program)(n:Nat)(h:Hint)(ops:Array Oper)(K:Ee->DM->Prop):Nat->Array Bool->Ee->DM->Prop
 | 0,listed=>λe H=>Region.ready .any ops listed=[]/\K e H
 | fuel+1,listed=>λe H=>(Region.ready .any ops listed=[]->K e H) /\
   ∀ i∈Region.ready .any ops listed,∃ o,ops[i]? =some o/\HM P n h ops o (O4 P n h ops K fuel (listed.setIfInBounds i true)) e H
theorem Oi{listed:Array Bool}{k:Nat}(h:listed.getD k false=true):listed.getD k true=true:=by
 rw [Co] at h ⊢
 cases hx:listed[k]? with
 | none=>rfl
 | some b=>rw [hx] at h;exact h
def GI(ops:Array Oper):Nat->Nat->Nat->Bool
 | 0,_,_=>false
 | f+1,j,i=>match ops[j]? with
  | none=>false
  | some oj=>oj.after.any λe=>Region.binds .any e&&(e.on==i||GI ops f e.on i)
def Cl(ops:Array Oper)(listed:Array Bool):Prop:=∀ (m:Nat) (om:Oper),ops[m]? =some om->listed.getD m true=true -> ∀ e∈om.after,Region.binds .any e=true->listed.getD e.on true=true
theorem Hk{ops:Array Oper}{listed:Array Bool}(hcl:Cl ops listed){i:Nat}: ∀ (f j:Nat),GI ops f j i=true->(∀ oj,ops[j]? =some oj -> ∀ e∈oj.after,Region.binds .any e=true->listed.getD e.on true=true)->listed.getD i true=true
 | 0,j,h,_=>by cases h
 | f+1,j,h,ha=>by
  unfold GI at h
  split at h
  ·cases h
  ·rename_i oj hj
   obtain ⟨e,he,hb⟩:=Db.1 h
   simp only [AR,CJ,beq_iff_eq] at hb
   have hl:=ha oj hj e he hb.1
   rcases hb.2 with h1|h1
   ·rw [<- h1];exact hl
   ·exact Hk hcl f e.on h1 λom hm e' he' hb'=>hcl e.on om hm hl e' he' hb'
theorem Cl.add{ops:Array Oper}{listed:Array Bool}(hcl:Cl ops listed){j:Nat}(hj:j∈Region.ready .any ops listed):Cl ops (listed.setIfInBounds j true):=by
 have mono : ∀ k,listed.getD k true=true->(listed.setIfInBounds j true).getD k true=true:=λk hk=>by
  by_cases hjk:j=k
  ·subst hjk
   rw [Co,Array.getElem?_setIfInBounds_self]
   split<;>rfl
  ·rw [getD_set_ne true hjk];exact hk
 intro m om hm hl e he hb
 by_cases hjm:j=m
 ·subst hjm
  obtain ⟨_,oj,hoj,hall⟩:=mem_ready.1 hj
  rw [hm] at hoj;cases hoj
  refine mono _ ?_
  exact Oi (hall e he hb)
 ·rw [getD_set_ne true hjm] at hl
  exact mono _ (hcl m om hm hl e he hb)
def r6(h:Hint)(ops:Array Oper)(listed:Array Bool)(i:Nat):Bool :=
 match ops[i]? with
 | none=>false
 | some oi=>(Am ops.size).all λj=>j==i||listed.getD j true||match ops[j]? with
   | some oj=>oj.after.any (λe=>Region.binds .any e&&e.on==i)||Ky h ops oi oj||GI ops 9 j i
   | none=>true
def OF(h:Hint)(ops:Array Oper):Nat->Nat->Array Bool->Bool
 | 0,_,listed=>(Region.ready .any ops listed).isEmpty
 | fuel+1,k,listed=>(Region.ready .any ops listed).contains k&&r6 h ops listed k&&OF h ops fuel (k+1) (listed.setIfInBounds k true)
def oe(h:Hint)(ops:Array Oper):Bool:=OF h ops ops.size 0 (CN ops.size false)
def jL(h:Hint)(ops:Array Oper):List Nat->Array Bool->Bool
 | [],listed=>(Region.ready .any ops listed).isEmpty
 | k::r,listed=>(Region.ready .any ops listed).contains k&&r6 h ops listed k&&jL h ops r (listed.setIfInBounds k true)
def ae(h:Hint)(ops:Array Oper)(l:List Nat):Bool:=l.length==ops.size&&jL h ops l (CN ops.size false)
section
variable {P:Program} {n:Nat} {h:Hint} {ops:Array Oper} {K:Ee->DM->Prop}
theorem Ow(hK:QB K): ∀ (fuel:Nat) (listed:Array Bool),QB (O4 P n h ops K fuel listed)
 | 0,listed=>λe e' H he ha=>⟨ha.1,hK e e' H he ha.2⟩
 | fuel+1,listed=>λe e' H he ha=>⟨λhr=>hK e e' H he (ha.1 hr),λi hi =>
   let ⟨o,ho,h1⟩:=ha.2 i hi
   ⟨o,ho,ABQ (Ow hK fuel _) e e' H he h1⟩⟩
theorem WV(hK:QB K){i:Nat}{oi:Oper}(hi:ops[i]? =some oi): ∀ (fuel:Nat) (listed:Array Bool) (e:Ee) (H:DM),
  (∀ (j:Nat) (oj:Oper),ops[j]? =some oj->j≠i->listed.getD j true=false->(∀ e∈oj.after,Region.binds .any e=true->e.on≠i)->GI ops 9 j i=false->Ky h ops oi oj=true)->Cl ops listed ->
  i∈Region.ready .any ops listed->HM P n h ops oi (O4 P n h ops K fuel (listed.setIfInBounds i true)) e H->O4 P n h ops K (fuel+1) listed e H:=by
 intro fuel
 induction fuel with
 | zero =>
  intro listed e H hfree hcl hr ha
  refine ⟨λh0=>(by rw [h0] at hr;cases hr),λj hj=>?_⟩
  by_cases hji:j=i
  ·subst hji;exact ⟨oi,hi,ha⟩
  ·obtain ⟨hjun,oj,hoj,hall⟩:=mem_ready.1 hj
   have hnot : ∀ e∈oj.after,Region.binds .any e=true->e.on≠i:=λe he hb heq=>by
    have h1:=hall e he hb
    have h0:=(mem_ready.1 hr).1
    rw [heq] at h1
    rcases BT i listed.size with h'|h'
    ·simp [h'] at h0 h1;rw [h0] at h1;cases h1
    ·simp [Cn h'] at h1
   have hnr:GI ops 9 j i=false:=by
    cases hR:GI ops 9 j i with
    | false=>rfl
    | true =>
     have h1:=Hk hcl 9 j hR λoj' hj' e he hb=>by
      rw [hoj] at hj';cases hj'
      exact Oi (hall e he hb)
     have h0:=(mem_ready.1 hr).1
     rw [h0] at h1;cases h1
   have hind:=hfree j oj hoj hji hjun hnot hnr
   have hx4:Fg h oi≠4:=by
    have i6:=(Vk hind).2.2.2.2.2
    intro h4
    rcases i6 with i6|i6
    ·rw [h4] at i6;simp [V8] at i6
    ·have:=HF i6.1;omega
   obtain ⟨v,H',_,h2⟩:=Ke hx4 ha
   have:=ready_mono hj hji
   rw [h2.1] at this
   cases this
 | succ fuel ih =>
  intro listed e H hfree hcl hr ha
  refine ⟨λh0=>(by rw [h0] at hr;cases hr),λj hj=>?_⟩
  by_cases hji:j=i
  ·subst hji;exact ⟨oi,hi,ha⟩
  ·obtain ⟨hjun,oj,hoj,hall⟩:=mem_ready.1 hj
   have hnot : ∀ e∈oj.after,Region.binds .any e=true->e.on≠i:=λe he hb heq=>by
    have h1:=hall e he hb
    have h0:=(mem_ready.1 hr).1
    rw [heq] at h1
    rcases BT i listed.size with h'|h'
    ·simp [h'] at h0 h1;rw [h0] at h1;cases h1
    ·simp [Cn h'] at h1
   have hnr:GI ops 9 j i=false:=by
    cases hR:GI ops 9 j i with
    | false=>rfl
    | true =>
     have h1:=Hk hcl 9 j hR λoj' hj' e he hb=>by
      rw [hoj] at hj';cases hj'
      exact Oi (hall e he hb)
     have h0:=(mem_ready.1 hr).1
     rw [h0] at h1;cases h1
   have hind:=hfree j oj hoj hji hjun hnot hnr
   have h1:HM P n h ops oi (HM P n h ops oj (O4 P n h ops K fuel ((listed.setIfInBounds i true).setIfInBounds j true))) e H:=by
    refine KA (λe' H' h2=>?_) ha
    obtain ⟨o,ho,h3⟩:=h2.2 j (ready_mono hj hji)
    rw [hoj] at ho
    cases ho
    exact h3
   have h2:=jE hind (Ow hK fuel _) h1
   have hfree' : ∀ (k:Nat) (ok:Oper),ops[k]? =some ok->k≠i->(listed.setIfInBounds j true).getD k true=false->(∀ e∈ok.after,Region.binds .any e=true->e.on≠i)->GI ops 9 k i=false->Ky h ops oi ok=true:=λk ok hk hki hun hno hnr=>by
    refine hfree k ok hk hki ?_ hno hnr
    by_cases hjk:j=k
    ·subst hjk;exact hjun
    ·rw [getD_set_ne true hjk] at hun;exact hun
   refine ⟨oj,hoj,KA (λe' H' h3=>ih (listed.setIfInBounds j true) e' H' hfree' (hcl.add hj) (ready_mono hr (Ne.symm hji)) ?_) h2⟩
   rw [D7 _ _ hji]
   exact h3
theorem WR {i:Nat} {oi:Oper} {listed:Array Bool} (hi:ops[i]? =some oi) (hf:r6 h ops listed i=true) (j:Nat) (oj:Oper)
  (hj:ops[j]? =some oj) (hne:j≠i) (hun:listed.getD j true=false) (hno : ∀ e∈oj.after,Region.binds .any e=true->e.on≠i) (hnr:GI ops 9 j i=false):Ky h ops oi oj=true:=by
 simp only [r6,hi,Ao,Bo] at hf
 have h1:=hf j (Ap.1 hj).1
 simp only [hj,CJ,beq_iff_eq,hne,false_or,hun,Bw,hnr,or_false] at h1
 rcases h1 with h1|h1
 ·obtain ⟨e,he,hb⟩:=Db.1 h1
  simp only [AR,beq_iff_eq] at hb
  exact absurd hb.2 (hno e he hb.1)
 ·exact h1
theorem jS(hK:QB K): ∀ (l:List Oper) (k:Nat) (listed:Array Bool) (e:Ee) (H:DM),(∀ j,l[j]? =ops[k+j]?)->OF h ops l.length k listed=true->Cl ops listed->KK P n h ops l K e H ->
  O4 P n h ops K l.length listed e H
 | [],_,_,_,_,_,hB,_,ha=>⟨by simpa [OF] using hB,ha⟩
 | o::l,k,listed,e,H,hl,hB,hcl,ha=>by
  have h0:ops[k]? =some o:=by simpa using (hl 0).symm
  simp only [AC,OF,AR] at hB
  obtain ⟨⟨hr,hf⟩,hB'⟩:=hB
  have hr':k∈Region.ready .any ops listed:=by simpa using hr
  refine WV hK h0 l.length listed e H (WR h0 hf) hcl hr' ?_
  exact KA (λe' H' h1=>jS hK l (k+1) _ e' H' (λj=>by have:=hl (j+1);simpa [AP,Nat.add_comm 1 j] using this) hB' (hcl.add hr') h1) ha
theorem jR(hK:QB K): ∀ (l:List Nat) (listed:Array Bool) (e:Ee) (H:DM),jL h ops l listed=true->Cl ops listed->KK P n h ops (l.filterMap λi=>ops[i]?) K e H ->
  O4 P n h ops K l.length listed e H
 | [],_,_,_,hB,_,ha=>⟨by simpa [jL] using hB,ha⟩
 | k::l,listed,e,H,hB,hcl,ha=>by
  simp only [jL,AR] at hB
  obtain ⟨⟨hr,hf⟩,hB'⟩:=hB
  have hr':k∈Region.ready .any ops listed:=by simpa using hr
  obtain ⟨_,o,h0,_⟩:=mem_ready.1 hr'
  rw [B6,h0] at ha
  refine WV hK h0 l.length listed e H (WR h0 hf) hcl hr' ?_
  exact KA (λe' H' h1=>jR hK l _ e' H' hB' (hcl.add hr') h1) ha
theorem M2{ro:Option Nat}{nn:Nat}{F:Nat->Prop}(Q:Exit->Act->World->Prop): ∀ (fuel:Nat) (listed:Array Bool) (G:Gh) (env:Ee) (H:DM) (a:Act) (w:World),SRel F G n env H a w->O4 P n h ops K fuel listed env H ->
  (∀ a' w',MN F G w n K a' w'->Q .normal a' w')->wpAnyIn (cX ro) nn P .any ops Q fuel listed a w
 | 0,listed,G,env,H,a,w,hs,ha,hQ=>⟨ha.1,hQ a w ⟨env,H,G,ha.2,hs,.refl F G w⟩⟩
 | fuel+1,listed,G,env,H,a,w,hs,ha,hQ=>by
  refine ⟨λhr=>hQ a w ⟨env,H,G,ha.1 hr,hs,.refl F G w⟩,λi hi=>?_⟩
  obtain ⟨o,ho,h1⟩:=ha.2 i hi
  have hst:=jF (ro:=ro) (nn:=nn) hs h1 Q
  have next : ∀ a' w',MN F G w n (O4 P n h ops K fuel (listed.setIfInBounds i true)) a' w'->wpAnyIn (cX ro) nn P .any ops Q fuel (listed.setIfInBounds i true) a' w':=by
   rintro a' w' ⟨env',H',G',hK,hs',he⟩
   refine M2 Q fuel _ G' env' H' a' w' hs' hK λa'' w''=>?_
   rintro ⟨env2,H2,G2,hK2,hs2,he2⟩
   exact hQ a'' w'' ⟨env2,H2,G2,hK2,hs2,he.trans he2⟩
  unfold wpOpIn
  rw [ho]
  simp only
  split
  ·rename_i hw
   rw [if_pos hw] at hst
   exact Oper.wpIn_mono next hst
  ·rename_i hw
   rw [if_neg hw] at hst
   exact ⟨λ_ _=>trivial,next _ _ hst⟩
theorem SRel.draw{F:Nat->Prop}{G:Gh}{env:Ee}{H:DM}{a:Act}{w:World}(hs:SRel F G n env H a w):SRel F G n env H a w.drew:=⟨hs.size,hs.defers,hs.out,hs.c.draw⟩
theorem bM {ro:Option Nat} {nn:Nat} {F:Nat->Prop} {G:Gh} {env:Ee} {H:DM} {a:Act} {w:World} {id:Nat} (Q:Exit->Act->World->Prop) (hm:P.follows .mixedOrders=true) (hK:QB K) (hd:oe h ops=true)
  (hs:SRel F G n env H a w) (ha:KK P n h ops ops.toList K env H) (hQ : ∀ a' w',MN F G w n K a' w'->Q .normal a' w'):(Code.region id ops true).wpIn (cX ro) nn P Q a w:=by
 refine wpIn_region_any hm ?_
 have h1:=jS (P:=P) (n:=n) (h:=h) (ops:=ops) hK ops.toList 0 (CN ops.size false) env H sm (by simpa [oe] using hd) (λm om hm hl=>by
  have hlt:=(Ap.1 hm).1
  simp [Co,hlt] at hl) ha
 rw [Bq] at h1
 refine M2 (F:=F) Q ops.size _ G env H a w.drew hs.draw h1 λa' w'=>?_
 rintro ⟨env',H',G',hK',hs',he⟩
 exact hQ a' w' ⟨env',H',G',hK',hs',Gc.trans he⟩
theorem Xp {ro:Option Nat} {nn:Nat} {F:Nat->Prop} {G:Gh} {env:Ee} {H:DM} {a:Act} {w:World} {id:Nat} (l:List Nat) (Q:Exit->Act->World->Prop) (hm:P.follows .mixedOrders=true) (hK:QB K) (hd:ae h ops l=true)
  (hs:SRel F G n env H a w) (ha:KK P n h ops (l.filterMap λi=>ops[i]?) K env H) (hQ : ∀ a' w',MN F G w n K a' w'->Q .normal a' w'):(Code.region id ops true).wpIn (cX ro) nn P Q a w:=by
 refine wpIn_region_any hm ?_
 simp only [ae,AR,beq_iff_eq] at hd
 have h1:=jR (P:=P) (n:=n) (h:=h) (ops:=ops) hK l (CN ops.size false) env H hd.2 (λm om hm hl=>by
  have hlt:=(Ap.1 hm).1
  simp [Co,hlt] at hl) ha
 rw [hd.1] at h1
 refine M2 (F:=F) Q ops.size _ G env H a w.drew hs.draw h1 λa' w'=>?_
 rintro ⟨env',H',G',hK',hs',he⟩
 exact hQ a' w' ⟨env',H',G',hK',hs',Gc.trans he⟩
def GH(live:List Tmp)(e:Ee):Ee:=live.map λt=>(t,Ec e t)
theorem mK(live:List Tmp)(e:Ee)(t:Tmp):Ec (GH live e) t=Ec e t\/Ec (GH live e) t = .undef:=by
 induction live with
 | nil=>exact .inr rfl
 | cons x l ih =>
  simp only [GH,AT,Ec]
  split
  ·rename_i hx;subst hx;exact .inl rfl
  ·exact ih
theorem iT(live:List Tmp){e e':Ee}(he : ∀ t,Ec e t=Ec e' t):GH live e=GH live e':=by
 simp [GH,he]
theorem Sv(b:Nat): ∀ (vs vs':List AV) (us:List Value),vs.length=vs'.length->(∀ i:Nat,vs'[i]? =vs[i]?\/vs'[i]? =some .undef)->Fo b vs' us<=Fo b vs us
 | [],[],us,_,_=>AU _
 | [],_::_,_,h,_=>by simp at h
 | _::_,[],_,h,_=>by simp at h
 | v::vs,v'::vs',[],_,_=>by simp [Fo]
 | v::vs,v'::vs',u::us,hl,h=>by
  rw [EK,EK]
  have ih:=Sv b vs vs' us (by simpa using hl) (λi=>by simpa using h (i+1))
  have h0:=h 0
  simp only [A8,Option.some.injEq] at h0
  rcases h0 with rfl|rfl
  ·omega
  ·rw [GD];simp only [List.count_nil];omega
theorem SRel.forget{F:Nat->Prop}{G:Gh}{env env':Ee}{H:DM}{a:Act}{w:World}(hs:SRel F G n env H a w)(he : ∀ t,Ec env' t=Ec env t\/Ec env' t = .undef):SRel F G n env' H a w:=by
 have hlook : ∀ i:Nat,(FT n env')[i]? =(FT n env)[i]?\/(FT n env')[i]? =some .undef:=by
  intro i
  by_cases hi:i<n
  ·rw [Gs _ hi,Gs _ hi]
   rcases he i with h1|h1
   ·exact .inl (by rw [h1])
   ·exact .inr (by rw [h1])
  ·exact .inl (by rw [Ax (by rw [F3];omega),Ax (by rw [F3];omega)])
 refine ⟨hs.size,hs.defers,λt ht=>?_,⟨by rw [F3];simp [hs.size],λi x u h1 h2=>?_,λi x u h1 h2=>?_⟩,hs.c.h,λb=>?_⟩
 ·rcases he t with h1|h1
  ·rw [h1];exact hs.out t ht
  ·exact h1
 ·rcases hlook i with h3|h3
  ·rw [h3] at h1;exact hs.c.l.rel i x u h1 h2
  ·rw [h3] at h1;cases h1;exact .undef u
 ·rcases hlook i with h3|h3
  ·rw [h3] at h1;exact hs.c.l.tok i x u h1 h2
  ·rw [h3] at h1;cases h1;exact ET (GD u) F G w
 ·have h1:=Sv b (FT n env) (FT n env') a.tmps.toList (by simp [F3]) hlook
  have h2:=hs.c.cnt b
  omega
end
end Go.AI
namespace Go.AI
section
variable {P:Program} {n:Nat} {h:Hint} {ops:Array Oper} {K:Ee->DM->Prop}
theorem jU(hno : ∀ (i:Nat) (o:Oper),ops[i]? =some o->Fg h o≠4): ∀ (fuel:Nat) (listed:Array Bool) (e:Ee) (H:DM),O4 P n h ops K fuel listed e H ->
  ∃ e' H',K e' H' /\ ∀ (t:Tmp) (a b:Nat),(∀ (k:Nat) (ok:Oper),ops[k]? =some ok->listed.getD k true=false->ok.dst≠some t)->Ec e' t = .ptr a b->Ec e t = .ptr a b
 | 0,listed,e,H,ha=>⟨e,H,ha.2,λ_ _ _ _ h=>h⟩
 | fuel+1,listed,e,H,ha=>by
  cases hr:Region.ready .any ops listed with
  | nil=>exact ⟨e,H,ha.1 hr,λ_ _ _ _ h=>h⟩
  | cons i r =>
   have hi:i∈Region.ready .any ops listed:=by rw [hr];simp
   obtain ⟨o,ho,h1⟩:=ha.2 i hi
   obtain ⟨v,H1,_,h2⟩:=Ke (hno i o ho) h1
   obtain ⟨e',H',hk,hl⟩:=jU hno fuel _ _ _ h2
   refine ⟨e',H',hk,λt a b hw hp=>ZT (hw i o ho (mem_ready.1 hi).1) (hl t a b (λk ok hk hun=>?_) hp)⟩
   refine hw k ok hk ?_
   by_cases hik:i=k
   ·subst hik;exact (mem_ready.1 hi).1
   ·rw [getD_set_ne true hik] at hun;exact hun
def AEQ(h:Hint)(o:Oper):Option (Tmp×Bool) :=
 match o.op,o.guard with
 | .store _ (.tmp a) _,none=>some (a,true)
 | .load _ (.tmp a),none=>if Qj h o=true then some (a,false) else none
 | _,_=>none
theorem ZM{o:Oper}{a:Tmp}{s:Bool}(ho:AEQ h o=some (a,s)): ∃ k,I6 P h o=some (a,k,s):=by
 unfold AEQ at ho
 unfold I6
 split at ho
 ·rename_i h1 h2
  cases ho
  first|(rw [h1,h2];exact ⟨_,rfl⟩)|exact ⟨_,rfl⟩
 ·rename_i h1 h2
  split at ho
  ·rename_i h3
   cases ho
   first|(rw [h1,h2];exact ⟨_,by simp only [h3,if_true];rfl⟩)|exact ⟨_,by simp only [h3,if_true];rfl⟩
  ·cases ho
 ·cases ho
def AAB(ops:Array Oper)(i:Nat)(a:Tmp):Bool:=(Am ops.size).all λk=>match ops[k]? with
 | some ok => !(ok.dst==some a)||GI ops 9 i k
 | none=>true
def ac(h:Hint)(ops:Array Oper)(i:Nat)(oi:Oper)(j:Nat)(oj:Oper):Bool :=
 decide (i<j)&&(Vl h ops oi oj&&match AEQ h oi,AEQ h oj with
  | some (a,s),some (b,s')=>(s||s')&&AAB ops i a&&AAB ops j b
  | _,_=>false)
def no4(h:Hint)(ops:Array Oper):Bool:=ops.toList.all λo => !(Fg h o==4)
def Q3(h:Hint)(ops:Array Oper):List (Oper×Oper):=(Am ops.size).flatMap λi=>(Am ops.size).filterMap λj=>match ops[i]?,ops[j]? with
 | some oi,some oj=>if (!(i==j) && !(Ky h ops oi oj)&&ac h ops i oi j oj && !(GI ops 9 j i))=true then some (oi,oj) else none
 | _,_=>none
def IZ(P:Program)(h:Hint)(ops:Array Oper)(e:Ee):Prop:=∀ p∈Q3 h ops,I5 P h p.1 p.2 e
theorem AAP{i j:Nat}{oi oj:Oper}(hi:ops[i]? =some oi)(hj:ops[j]? =some oj)(hne:i≠j)(h1:Ky h ops oi oj=false)(h2:ac h ops i oi j oj=true)(h3:GI ops 9 j i=false):(oi,oj)∈Q3 h ops:=by
 refine Bx.2 ⟨i,Bo.2 (Ap.1 hi).1,CL.2 ⟨j,Bo.2 (Ap.1 hj).1, ?_⟩⟩
 rw [hi,hj]
 simp [hne,h1,h2,h3]
theorem AAA{i k:Nat}{a:Tmp}{ok:Oper}(hf:AAB ops i a=true)(hk:ops[k]? =some ok)(hd:ok.dst=some a):GI ops 9 i k=true:=by
 have:=Ao.1 hf k (Bo.2 (Ap.1 hk).1)
 simp only [hk,hd] at this
 simpa using this
theorem vm (hn4:no4 h ops=true) (hKD : ∀ e H,K e H->IZ P h ops e) {i j:Nat} {oi oj:Oper} (hoi:ops[i]? =some oi) (hoj:ops[j]? =some oj) (hne:i≠j) {listed:Array Bool} (hcl:Cl ops listed)
  (hi:i∈Region.ready .any ops listed) (hj:j∈Region.ready .any ops listed) (h1:Ky h ops oi oj=false) (h2:ac h ops i oi j oj=true) (h3:GI ops 9 j i=false) {fuel:Nat} {e:Ee} {H:DM}
  (ha:HM P n h ops oi (HM P n h ops oj (O4 P n h ops K fuel ((listed.setIfInBounds i true).setIfInBounds j true))) e H):I5 P h oi oj e:=by
 have hno : ∀ (i:Nat) (o:Oper),ops[i]? =some o->Fg h o≠4:=λi o ho h4=>by
  have:=Ao.1 hn4 o (by rw [<- Ad] at ho;exact AB ho)
  simp [h4] at this
 obtain ⟨v,H1,_,ha1⟩:=Ke (hno i oi hoi) ha
 obtain ⟨u,H2,_,ha2⟩:=Ke (hno j oj hoj) ha1
 obtain ⟨e',H',hk,hl⟩:=jU hno fuel _ _ _ ha2
 have hap:=hKD e' H' hk _ (AAP hoi hoj hne h1 h2 h3)
 have quiet : ∀ {m:Nat} {a:Tmp},m∈Region.ready .any ops listed->AAB ops m a=true -> ∀ (k:Nat) (ok:Oper),ops[k]? =some ok->listed.getD k true=false->ok.dst≠some a:=λ{m a} hm hf k ok hk hun hd=>by
  obtain ⟨_,om,hom,hall⟩:=mem_ready.1 hm
  have:=Hk hcl 9 m (AAA hf hk hd) λoj' hj' e he hb=>by
   rw [hom] at hj';cases hj'
   exact Oi (hall e he hb)
  rw [this] at hun;cases hun
 have now : ∀ {m:Nat} {a:Tmp} {x y:Nat},m∈Region.ready .any ops listed->AAB ops m a=true->Ec e' a = .ptr x y->Ec e a = .ptr x y:=λ{m a x y} hm hf hp=>by
  have q:=quiet hm hf
  refine ZT (q i oi hoi (mem_ready.1 hi).1) (ZT (q j oj hoj (mem_ready.1 hj).1) (hl a x y (λk ok hk hun=>q k ok hk ?_) hp))
  by_cases hjk:j=k
  ·subst hjk;exact (mem_ready.1 hj).1
  ·rw [getD_set_ne true hjk] at hun
   by_cases hik:i=k
   ·subst hik;exact (mem_ready.1 hi).1
   ·rw [getD_set_ne true hik] at hun;exact hun
 simp only [ac,AR] at h2
 replace h2:=h2.2
 obtain ⟨_,h2⟩:=h2
 split at h2
 ·rename_i a s b s' ha' hb'
  simp only [AR] at h2
  obtain ⟨⟨_,fa⟩,fb⟩:=h2
  obtain ⟨k,hka⟩:=ZM (P:=P) ha'
  obtain ⟨l,hlb⟩:=ZM (P:=P) hb'
  unfold I5 at hap ⊢
  simp only [hka,hlb] at hap ⊢
  refine ⟨hap.1, ?_⟩
  have hap:=hap.2
  split at hap
  ·rename_i o1 f1 o2 f2 e1 e2
   rw [now hi fa e1,now hj fb e2]
   exact hap
  ·exact hap.elim
 ·cases h2
theorem jT(hn4:no4 h ops=true)(hKD : ∀ e H,K e H->IZ P h ops e)(hK:QB K){i:Nat}{oi:Oper}(hi:ops[i]? =some oi): ∀ (fuel:Nat) (listed:Array Bool) (e:Ee) (H:DM),
  (∀ (j:Nat) (oj:Oper),ops[j]? =some oj->j≠i->listed.getD j true=false->(∀ e∈oj.after,Region.binds .any e=true->e.on≠i)->GI ops 9 j i=false->Ky h ops oi oj=true\/ac h ops i oi j oj=true)->Cl ops listed ->
  i∈Region.ready .any ops listed->HM P n h ops oi (O4 P n h ops K fuel (listed.setIfInBounds i true)) e H->O4 P n h ops K (fuel+1) listed e H:=by
 intro fuel
 induction fuel with
 | zero =>
  intro listed e H hfree hcl hr ha
  refine ⟨λh0=>(by rw [h0] at hr;cases hr),λj hj=>?_⟩
  by_cases hji:j=i
  ·subst hji;exact ⟨oi,hi,ha⟩
  ·obtain ⟨hjun,oj,hoj,hall⟩:=mem_ready.1 hj
   have hnot : ∀ e∈oj.after,Region.binds .any e=true->e.on≠i:=λe he hb heq=>by
    have h1:=hall e he hb
    have h0:=(mem_ready.1 hr).1
    rw [heq] at h1
    rcases BT i listed.size with h'|h'
    ·simp [h'] at h0 h1;rw [h0] at h1;cases h1
    ·simp [Cn h'] at h1
   have hnr:GI ops 9 j i=false:=by
    cases hR:GI ops 9 j i with
    | false=>rfl
    | true =>
     have h1:=Hk hcl 9 j hR λoj' hj' e he hb=>by
      rw [hoj] at hj';cases hj'
      exact Oi (hall e he hb)
     have h0:=(mem_ready.1 hr).1
     rw [h0] at h1;cases h1
   have hind:=hfree j oj hoj hji hjun hnot hnr
   have hx4:Fg h oi≠4:=λh4=>by
    have:=Ao.1 hn4 oi (by rw [<- Ad] at hi;exact AB hi)
    simp [h4] at this
   obtain ⟨v,H',_,h2⟩:=Ke hx4 ha
   have:=ready_mono hj hji
   rw [h2.1] at this
   cases this
 | succ fuel ih =>
  intro listed e H hfree hcl hr ha
  refine ⟨λh0=>(by rw [h0] at hr;cases hr),λj hj=>?_⟩
  by_cases hji:j=i
  ·subst hji;exact ⟨oi,hi,ha⟩
  ·obtain ⟨hjun,oj,hoj,hall⟩:=mem_ready.1 hj
   have hnot : ∀ e∈oj.after,Region.binds .any e=true->e.on≠i:=λe he hb heq=>by
    have h1:=hall e he hb
    have h0:=(mem_ready.1 hr).1
    rw [heq] at h1
    rcases BT i listed.size with h'|h'
    ·simp [h'] at h0 h1;rw [h0] at h1;cases h1
    ·simp [Cn h'] at h1
   have hnr:GI ops 9 j i=false:=by
    cases hR:GI ops 9 j i with
    | false=>rfl
    | true =>
     have h1:=Hk hcl 9 j hR λoj' hj' e he hb=>by
      rw [hoj] at hj';cases hj'
      exact Oi (hall e he hb)
     have h0:=(mem_ready.1 hr).1
     rw [h0] at h1;cases h1
   have hind:=hfree j oj hoj hji hjun hnot hnr
   have h1:HM P n h ops oi (HM P n h ops oj (O4 P n h ops K fuel ((listed.setIfInBounds i true).setIfInBounds j true))) e H:=by
    refine KA (λe' H' h2=>?_) ha
    obtain ⟨o,ho,h3⟩:=h2.2 j (ready_mono hj hji)
    rw [hoj] at ho
    cases ho
    exact h3
   have h2:HM P n h ops oj (HM P n h ops oi (O4 P n h ops K fuel ((listed.setIfInBounds i true).setIfInBounds j true))) e H:=by
    cases hb:Ky h ops oi oj with
    | true=>exact jE hb (Ow hK fuel _) h1
    | false =>
     have hdy:=hind.resolve_left (by rw [hb];simp)
     have hap:=vm hn4 hKD hi hoj (Ne.symm hji) hcl hr hj hb hdy hnr h1
     have hs:Vl h ops oi oj=true:=by
      simp only [ac,AR] at hdy
      replace hdy:=hdy.2
      exact hdy.1
     exact pw hs hap (Ow hK fuel _) h1
   have hfree' : ∀ (k:Nat) (ok:Oper),ops[k]? =some ok->k≠i->(listed.setIfInBounds j true).getD k true=false->(∀ e∈ok.after,Region.binds .any e=true->e.on≠i)->GI ops 9 k i=false->Ky h ops oi ok=true\/ac h ops i oi k ok=true:=λk ok hk hki hun hno hnr=>by
    refine hfree k ok hk hki ?_ hno hnr
    by_cases hjk:j=k
    ·subst hjk;exact hjun
    ·rw [getD_set_ne true hjk] at hun;exact hun
   refine ⟨oj,hoj,KA (λe' H' h3=>ih (listed.setIfInBounds j true) e' H' hfree' (hcl.add hj) (ready_mono hr (Ne.symm hji)) ?_) h2⟩
   rw [D7 _ _ hji]
   exact h3
def qA(h:Hint)(ops:Array Oper)(listed:Array Bool)(i:Nat):Bool :=
 match ops[i]? with
 | none=>false
 | some oi=>(Am ops.size).all λj=>j==i||listed.getD j true||match ops[j]? with
   | some oj=>oj.after.any (λe=>Region.binds .any e&&e.on==i)||Ky h ops oi oj||GI ops 9 j i||ac h ops i oi j oj
   | none=>true
def MD(h:Hint)(ops:Array Oper):Nat->Nat->Array Bool->Bool
 | 0,_,listed=>(Region.ready .any ops listed).isEmpty
 | fuel+1,k,listed=>(Region.ready .any ops listed).contains k&&qA h ops listed k&&MD h ops fuel (k+1) (listed.setIfInBounds k true)
def ah(h:Hint)(ops:Array Oper):Bool:=no4 h ops&&MD h ops ops.size 0 (CN ops.size false)
theorem jM {i:Nat} {oi:Oper} {listed:Array Bool} (hi:ops[i]? =some oi) (hf:qA h ops listed i=true) (j:Nat) (oj:Oper)
  (hj:ops[j]? =some oj) (hne:j≠i) (hun:listed.getD j true=false) (hno : ∀ e∈oj.after,Region.binds .any e=true->e.on≠i) (hnr:GI ops 9 j i=false):Ky h ops oi oj=true\/ac h ops i oi j oj=true:=by
 simp only [qA,hi,Ao,Bo] at hf
 have h1:=hf j (Ap.1 hj).1
 simp only [hj,CJ,beq_iff_eq,hne,false_or,hun,Bw,hnr,or_false] at h1
 rcases h1 with (h1|h1)|h1
 ·obtain ⟨e,he,hb⟩:=Db.1 h1
  simp only [AR,beq_iff_eq] at hb
  exact absurd hb.2 (hno e he hb.1)
 ·exact .inl h1
 ·exact .inr h1
theorem ZO(hn4:no4 h ops=true)(hKD : ∀ e H,K e H->IZ P h ops e)(hK:QB K): ∀ (l:List Oper) (k:Nat) (listed:Array Bool) (e:Ee) (H:DM),(∀ j,l[j]? =ops[k+j]?)->MD h ops l.length k listed=true->Cl ops listed->KK P n h ops l K e H ->
  O4 P n h ops K l.length listed e H
 | [],_,_,_,_,_,hB,_,ha=>⟨by simpa [MD] using hB,ha⟩
 | o::l,k,listed,e,H,hl,hB,hcl,ha=>by
  have h0:ops[k]? =some o:=by simpa using (hl 0).symm
  simp only [AC,MD,AR] at hB
  obtain ⟨⟨hr,hf⟩,hB'⟩:=hB
  have hr':k∈Region.ready .any ops listed:=by simpa using hr
  refine jT hn4 hKD hK h0 l.length listed e H (jM h0 hf) hcl hr' ?_
  exact KA (λe' H' h1=>ZO hn4 hKD hK l (k+1) _ e' H' (λj=>by have:=hl (j+1);simpa [AP,Nat.add_comm 1 j] using this) hB' (hcl.add hr') h1) ha
theorem Xq {ro:Option Nat} {nn:Nat} {F:Nat->Prop} {G:Gh} {env:Ee} {H:DM} {a:Act} {w:World} {id:Nat} (Q:Exit->Act->World->Prop) (hm:P.follows .mixedOrders=true) (hKD : ∀ e H,K e H->IZ P h ops e) (hK:QB K) (hd:ah h ops=true)
  (hs:SRel F G n env H a w) (ha:KK P n h ops ops.toList K env H) (hQ : ∀ a' w',MN F G w n K a' w'->Q .normal a' w'):(Code.region id ops true).wpIn (cX ro) nn P Q a w:=by
 refine wpIn_region_any hm ?_
 simp only [ah,AR] at hd
 have h1:=ZO (P:=P) (n:=n) (h:=h) (ops:=ops) hd.1 hKD hK ops.toList 0 (CN ops.size false) env H sm (by simpa using hd.2) (λm om hm hl=>by
  have hlt:=(Ap.1 hm).1
  simp [Co,hlt] at hl) ha
 rw [Bq] at h1
 refine M2 (F:=F) Q ops.size _ G env H a w.drew hs.draw h1 λa' w'=>?_
 rintro ⟨env',H',G',hK',hs',he⟩
 exact hQ a' w' ⟨env',H',G',hK',hs',Gc.trans he⟩
theorem iK{e e':Ee}(he : ∀ t,Ec e t=Ec e' t)(hd:IZ P h ops e):IZ P h ops e':=λp hp=>by
 have h1:=hd p hp
 unfold I5 at h1 ⊢
 simp only [he] at h1
 exact h1
end
end Go.AI
namespace Go.AI
section
variable {P:Program} {F:Nat->Prop} {G:Gh} {w:World} {H:DM} {n:Nat} {env:Ee} {a:Act} {vals:List AV} {us:List Value}
theorem VRel.frozen (h:CRel F G vals H us w) {ob b off len sz:Nat} {cs:List AV} {u:Value} (ho:H[ob]? =some (some cs)) (hb:G.obs[ob]? =some b) (hv:VRel G w (.msl ob off len sz) u) (hle:off+len*sz<=cs.length)
  (ag:Bool) (hs:ag=true\/sz=1):VRel (G.setKind b .imm) w (.sl none (HK ag sz len ((cs.drop off).map Go.AI.borrow1))) u:=by
 have hbc:=hv.msl_cells hb
 have hext:=(h.freeze ho hb hbc).2
 have hobj:=h.h.obj ob cs b ho hb
 obtain ⟨C,E,hrow,hlC,hC⟩:=(hobj.of_cells hbc.choose_spec.choose_spec).2
 generalize hx:AV.msl ob off len sz=x at hv
 cases hv<;>cases hx
 rename_i b0 cap hcap hob hlcap hcc
 rw [hb] at hob
 cases hob
 have hcs : ∀ c∈(cs.drop off).map Go.AI.borrow1,c.scalar=true:=λc hm=>by
  obtain ⟨c0,hc0,rfl⟩:=AO.1 hm
  obtain ⟨i,hi⟩:=List.getElem?_of_mem hc0
  rw [A1] at hi
  have hlt:off+i<C.size:=BR (AD.1 hi).1 hlC
  rw [FB]
  exact (hC _ _ _ hi (Ai hlt)).1
 obtain ⟨k1,k2⟩:=N6 ag sz hs len ((cs.drop off).map Go.AI.borrow1) (by simp;omega) hcs
 have e:=Kc ag sz len ((cs.drop off).map Go.AI.borrow1)
 have key : ∀ (i:Nat) (c:AV),(F4 (HK ag sz len ((cs.drop off).map Go.AI.borrow1)))[i]? =some c->c.scalar=true /\ ∃ v,C[off+i]? =some v/\VRel (G.setKind b .imm) w c v:=λi c hi=>by
  rw [k1] at hi
  have hi':((cs.drop off).map Go.AI.borrow1)[i]? =some c:=by
   rw [List.getElem?_take] at hi
   split at hi
   ·exact hi
   ·cases hi
  rw [Ac,A1] at hi'
  cases hc0:cs[off+i]? with
  | none=>rw [hc0] at hi';cases hi'
  | some c0 =>
   rw [hc0] at hi'
   cases hi'
   have hlt:off+i<C.size:=BR (AD.1 hc0).1 hlC
   have:=hC _ _ _ hc0 (Ai hlt)
   exact ⟨(FB c0).trans this.1,_,Ai hlt,(this.2.1.keep hext.keeps).borrow1⟩
 have hres:=VRel.sl (G:=G.setKind b .imm) (w:=w) none (HK ag sz len ((cs.drop off).map Go.AI.borrow1)) sz b off cap (λi=>(C[off+i]?).getD Go.undef) k2 (by intro n hn;cases hn) (by rw [e];exact hlcap) (by assumption)
  (λi c hi=>by
   obtain ⟨g1,v,g2,g3⟩:=key i c hi
   refine ⟨g1, ?_, ?_⟩
   ·unfold Gh.safe
    rw [G.kind_set]
    trivial
   ·rw [g2]
    simp only [Option.getD_some]
    simp [World.cell?,hrow,g2])
  (λi c hi=>by
   obtain ⟨g1,v,g2,g3⟩:=key i c hi
   rw [g2]
   exact g3)
 rw [e] at hres
 exact hres
end
end Go.AI
namespace Go.AI
mutual
def AV.bnd(k:Nat):AV->Bool
 | .ptr o _=>decide (o<k)
 | .msl o _ _ _=>decide (o<k)
 | .mslc o _ _ _ _=>decide (o<k)
 | .mapr o=>decide (o<k)
 | .it o=>decide (o<k)
 | .yld o _=>decide (o<k)
 | .ifc _ a=>a.bnd k
 | .cptr cs _=>EZ k cs
 | .sl _ es=>EZ k es
 | .fn _ a b=>EZ k a&&EZ k b
 | .agg cs=>EZ k cs
 | .tup vs=>EZ k vs
 | _=>true
def EZ(k:Nat):List AV->Bool
 | []=>true
 | v::vs=>v.bnd k&&EZ k vs
end
theorem E7{k:Nat}{vs:List AV}:EZ k vs=true ↔ ∀ v∈vs,v.bnd k=true:=by
 induction vs with
 | nil=>simp [EZ]
 | cons x xs ih=>simp [EZ,ih]
theorem GQ{α:Type}{k:Nat}{f:α->AV}{l:List α}(h : ∀ x,(f x).bnd k=true):EZ k (l.map f)=true:=by
 rw [E7]
 intro v hv
 obtain ⟨x,_,rfl⟩:=AO.1 hv
 exact h x
theorem vR{k:Nat}{v:AV}(h:v.bnd k=true): ∀ c∈v.cells,c.bnd k=true:=by
 cases v<;>first|(intro c hc;simp only [AV.cells,List.mem_singleton] at hc;subst hc;exact h)|skip
 simp only [AV.bnd] at h
 exact E7.1 h
theorem AD7{k:Nat}{es:List AV}(h:EZ k es=true): ∀ c∈F4 es,c.bnd k=true:=by
 intro c hc
 obtain ⟨e,he,hc⟩:=Bx.1 hc
 exact vR (E7.1 h e he) c hc
def Gh.cut(G:Gh)(k:Nat):Gh:=⟨G.obs.take k,G.kind⟩
theorem VRel.cut{G:Gh}{w:World}(k:Nat){a:AV}{v:Value}(h:VRel G w a v)(hp:a.bnd k=true):VRel (G.cut k) w a v:=by
 have hobs : ∀ o b,o<k->G.obs[o]? =some b->(G.cut k).obs[o]? =some b:=λo b ho hb=>by
  show (G.obs.take k)[o]? =some b
  rw [Bu ho];exact hb
 induction h with
 | undef v=>exact .undef v
 | int k n=>exact .int k n
 | bool b=>exact .bool b
 | str s=>exact .str s
 | nilp=>exact .nilp
 | ptr o off b h hc=>exact .ptr o off b (hobs o b (by simpa [AV.bnd] using hp) h) hc
 | cptr cs off b q u h hu ih =>
  simp only [AV.bnd] at hp
  exact .cptr cs off b q u h λi c hi=>ih i c hi (E7.1 hp c (AB hi))
 | slnil own=>exact .slnil own
 | slany own a=>exact .slany own a
 | sl own es sz b q cap u hsz hown hl hm h hu ih =>
  simp only [AV.bnd] at hp
  exact .sl own es sz b q cap u hsz hown hl hm h λi c hi=>ih i c hi (AD7 hp c (AB hi))
 | msl o off len sz b cap h hl hm hc=>exact .msl o off len sz b cap (hobs o b (by simpa [AV.bnd] using hp) h) hl hm hc
 | mslc o off len sz cap b h hl hm hc=>exact .mslc o off len sz cap b (hobs o b (by simpa [AV.bnd] using hp) h) hl hm hc
 | fn f first captured fi ca h1 h2 h3 h4 ih1 ih2 =>
  simp only [AV.bnd,AR] at hp
  exact .fn f first captured fi ca h1 h2 (λi c v hc hv=>ih1 i c v hc hv (E7.1 hp.1 c (AB hc))) (λi c v hc hv=>ih2 i c v hc hv (E7.1 hp.2 c (AB hc)))
 | nilf=>exact .nilf
 | mapr o b h hb hk=>exact .mapr o b (hobs o b (by simpa [AV.bnd] using hp) h) hb hk
 | nilm=>exact .nilm
 | it o b h hb hk=>exact .it o b (hobs o b (by simpa [AV.bnd] using hp) h) hb hk
 | yld o b L h hb hk=>exact .yld o b L (hobs o b (by simpa [AV.bnd] using hp) h) hb hk
 | ifc t a v hs h ih=>exact .ifc t a v hs (ih (by simpa [AV.bnd] using hp))
 | nili=>exact .nili
 | agg cs vs hl hs h ih =>
  simp only [AV.bnd] at hp
  exact .agg cs vs hl hs λi c v hc hv=>ih i c v hc hv (E7.1 hp c (AB hc))
 | tup cs vs hl hs h ih =>
  simp only [AV.bnd] at hp
  exact .tup cs vs hl hs λi c v hc hv=>ih i c v hc hv (E7.1 hp c (AB hc))
def Q9(H:DM):Prop:=∀ (o:Nat) (cs:List AV),H[o]? =some (some cs)->EZ H.length cs=true
section
variable {P:Program} {F:Nat->Prop} {G:Gh} {w:World}
theorem Ev.cut{k:Nat}{p:AV×Value}(h:Ev F G w p):Ev F (G.cut k) w p:=h
theorem ORel.cut{cs:List AV}{b:Nat}(h:ORel F G w cs b)(k:Nat)(hc : ∀ c∈cs,c.bnd k=true):ORel F (G.cut k) w cs b:=by
 refine ⟨h.own, ?_⟩
 have hi:=h.is
 show match G.kind b with
  | .obj=>r9 F (G.cut k) w cs b
  | .map=>AFd (G.cut k) w cs b
  | .iter=>cB (G.cut k) w cs b
  | .loop L=>ABp (G.cut k) w L cs b
  | _=>False
 split at hi
 ·rename_i hk
  try rw [hk]
  obtain ⟨C,E,g1,g2,g3⟩:=hi
  exact ⟨C,E,g1,g2,λi c v hci hv=>⟨(g3 i c v hci hv).1,(g3 i c v hci hv).2.1.cut _ (hc c (AB hci)),(g3 i c v hci hv).2.2⟩⟩
 ·rename_i hk
  try rw [hk]
  obtain ⟨es,ms,cl,g1,g2,g3,g4,g5⟩:=hi
  subst g2
  have hb:=hc _ (by simp [It]:AV.tup (es.flatMap λp=>[p.1,p.2])∈It es)
  simp only [AV.bnd] at hb
  refine ⟨es,ms,cl,g1,rfl,g3,λi p m hp hm=>?_,g5⟩
  obtain ⟨a1,a2,a3,a4⟩:=g4 i p m hp hm
  have hpm:=AB hp
  exact ⟨a1,a2,a3.cut _ (E7.1 hb _ (Bx.2 ⟨p,hpm,sm⟩)),a4.cut _ (E7.1 hb _ (Bx.2 ⟨p,hpm,sm⟩))⟩
 ·rename_i hk
  try rw [hk]
  rcases hi with ⟨s,pos,h1,h2⟩|⟨h1,h2⟩|⟨o,mb,si,se,h1,h2,h3⟩
  ·exact .inl ⟨s,pos,h1,h2⟩
  ·exact .inr (.inl ⟨h1,h2⟩)
  ·exact .inr (.inr ⟨o,mb,si,se,h1,h2,h3.cut _ (hc _ (by rw [h2];simp [TA]))⟩)
 ·rename_i L hk
  try rw [hk]
  obtain ⟨s,pe,t,D,st,vals,g1,g2,g3,g4,g5⟩:=hi
  subst g3
  have hb:=hc _ (by simp [Fl]:AV.tup vals∈Fl st vals)
  simp only [AV.bnd] at hb
  exact ⟨s,pe,t,D,st,vals,g1,g2,rfl,g4,λi a u ha hu=>⟨(g5 i a u ha hu).1,(g5 i a u ha hu).2.cut _ (E7.1 hb _ (AB ha))⟩⟩
 ·exact hi.elim
theorem ZX{n m:Nat}{f:Nat->Nat}(h:n<=m):((Am n).map f).sum<=((Am m).map f).sum := by
  induction m with
  | zero => have : n = 0 := by omega
            subst this;exact AU _
  | succ m ih =>
    rw [CA,As,CB]
    by_cases e:n=m+1
    · subst e;rw [CA,As,CB];exact AU _
    · have := ih DF ; omega
theorem CRel.cutL{vs:List AV}{us:List Value}{H1 junk:DM}(h:CRel F G vs (H1++junk) us w)(hv:EZ H1.length vs=true)(hc:Q9 H1):CRel F (G.cut H1.length) vs H1 us w:=by
 have hlen:=h.h.len
 rw [AE] at hlen
 have hob : ∀ o,o<H1.length->(G.cut H1.length).obs[o]? =G.obs[o]?:=λo ho=>Bu ho
 have hget : ∀ (o:Nat) (cs:List AV),H1[o]? =some (some cs)->(H1++junk)[o]? =some (some cs):=λo cs ho=>by
  rw [AW (AD.1 ho).1];exact ho
 refine ⟨⟨h.l.len,λi a u h1 h2=>(h.l.rel i a u h1 h2).cut _ (E7.1 hv a (AB h1)),λi a u h1 h2 p hp=>h.l.tok i a u h1 h2 p hp⟩,⟨?_,λo cs b ho hb=>?_,λo o' cs cs' b g1 g2 g3 g4=>?_,h.h.fore,h.h.glob.same rfl⟩,λb=>?_⟩
 ·show (G.obs.take H1.length).length=_
  simp;omega
 ·have hlt:=(AD.1 ho).1
  rw [hob o hlt] at hb
  exact (h.h.obj o cs b (hget o cs ho) hb).cut _ (E7.1 (hc o cs ho))
 ·have l1:=(AD.1 g1).1
  have l2:=(AD.1 g2).1
  rw [hob _ l1] at g3
  rw [hob _ l2] at g4
  exact h.h.inj o o' cs cs' b (hget _ _ g1) (hget _ _ g2) g3 g4
 ·have h3:=h.cnt b
  have e : ∀ o,o<H1.length->FW (G.cut H1.length) H1 w o=FW G (H1++junk) w o:=λo ho=>by
   unfold FW
   rw [hob o ho,AW ho]
  have h4:Gu (G.cut H1.length) H1 w b<=Gu G (H1++junk) w b:=by
   unfold Gu
   rw [IL (λo ho=>by rw [e o ho]),AE]
   exact ZX DF
  omega
theorem CRel.cut{v:AV}{u:Value}{H1 junk:DM}(h:CRel F G [v] (H1++junk) [u] w)(hv:v.bnd H1.length=true)(hc:Q9 H1):CRel F (G.cut H1.length) [v] H1 [u] w :=
 h.cutL (by simp [EZ,hv]) hc
def UV(H:DM):Bool:=H.all λo=>match o with
 | some cs=>EZ H.length cs
 | none=>true
theorem al{H:DM}(h:UV H=true):Q9 H:=λo cs ho=>by
 have:=Ao.1 h _ (AB ho)
 exact this
def To(n:Option Nat)(e:Ee)(H:DM):DM :=
 match n with
 | some n=>if n<=H.length/\EZ n (e.map (·.2))=true/\UV (H.take n)=true then H.take n else H
 | none=>H
theorem yk{e:Ee}{t:Tmp}:Ec e t = .undef\/Ec e t∈e.map (·.2):=by
 induction e with
 | nil=>exact .inl rfl
 | cons p e ih =>
  obtain ⟨k,v⟩:=p
  simp only [Ec]
  split
  ·exact .inr sm
  ·rcases ih with h|h
   ·exact .inl h
   ·exact .inr (by simp only [AT,AZ];exact .inr h)
theorem ADW{G0:Gh}{w0:World}{n:Nat}{env:Ee}{H:DM}{a:Act}(k:Option Nat)(hs:SRel F G n env H a w)(he:Ext F G0 w0 G w)(h0:k=none\/G0.obs=[]):
  ∃ G',SRel F G' n env (To k env H) a w/\Ext F G0 w0 G' w:=by
 cases k with
 | none=>exact ⟨G,hs,he⟩
 | some k =>
  have h0:G0.obs=[]:=h0.resolve_left sm
  simp only [To]
  split
  ·rename_i hc
   obtain ⟨h1,h2,h3⟩:=hc
   have hl:(H.take k).length=k:=by simp;omega
   have hcr:=hs.c
   rw [<- List.take_append_drop k H] at hcr
   have:=hcr.cutL (by
    rw [hl,E7]
    intro v hv
    obtain ⟨t,_,rfl⟩:=AO.1 hv
    rcases yk (e:=env) (t:=t) with h|h
    ·rw [h];rfl
    ·exact E7.1 h2 _ h) (al h3)
   refine ⟨_,⟨hs.size,hs.defers,hs.out,this⟩,he.size,⟨λo b ho=>by rw [h0] at ho;simp at ho,he.keeps.shape,he.keeps.sp,he.keeps.safe⟩,he.kind,he.cells,he.io⟩
  ·exact ⟨G,hs,he⟩
end
end Go.AI
namespace Go.AI
def E9(k:Nat):List AV->Ee
 | []=>[]
 | v::vs=>(k,v)::E9 (k+1) vs
section
variable {P:Program} {F:Nat->Prop} {G:Gh} {w:World} {H:DM} {n:Nat}
theorem Jq : ∀ (vs:List AV) (k t:Nat),Ec (E9 k vs) t=if k<=t then (vs[t - k]?).getD .undef else .undef
 | [],k,t=>by simp [E9,Ec]
 | v::vs,k,t=>by
  simp only [E9,Ec]
  by_cases h:k=t
  ·subst h;simp
  ·rw [if_neg h,Jq vs (k+1) t]
   by_cases hk:k<=t
   ·rw [if_pos DF,if_pos hk,show t - k=(t - (k+1))+1 by omega]
    simp
   ·rw [if_neg DF,if_neg hk]
theorem V1(vs:List AV)(h:vs.length<=n):FT n (E9 0 vs)=vs++List.replicate (n - vs.length) .undef:=by
 apply List.ext_getElem?
 intro i
 by_cases hi:i<n
 ·rw [Gs _ hi,Jq,if_pos (Nat.zero_le _),Nat.sub_zero]
  by_cases hv:i<vs.length
  ·rw [AW hv,AL hv];rfl
  ·rw [AM DF,Ax DF,List.getElem?_replicate,if_pos DF];rfl
 ·rw [Ax (by rw [F3];omega),Ax (by simp;omega)]
theorem pO{f:FuncId}{first captured args:List AV}{fv:Value}{uargs:Array Value}(hc:CRel F G (.fn (.func f) first captured::args) H (fv::uargs.toList) w)(hcal:GP P f=true):
  ∃ (d:Deferred) (us:Array Value),(Deferred.ofValue fv uargs).run P w = .ok d w/\(invoke d.target d.args).run P w = .ok (.enter f us) w /\
   CRel F G (first.map AV.borrow++args++captured.map AV.borrow) H us.toList w:=by
 have hx:=hc.l.rel 0 _ _ rfl rfl
 obtain ⟨_,_,hargs⟩:=hc.l.uncons
 cases hx with
 | fn _ _ _ fi ca h1 h2 h3 h4 =>
  obtain ⟨l1,t1⟩:=GE (F:=F) (G:=G) (w:=w) (first:=first) (fi:=fi.toList) (by simpa using h1) (λi c v a b=>h3 i c v a (by simpa using b))
  obtain ⟨l2,t2⟩:=GE (F:=F) (G:=G) (w:=w) (first:=captured) (fi:=ca.toList) (by simpa using h2) (λi c v a b=>h4 i c v a (by simpa using b))
  have hcr:CRel F G (first.map AV.borrow++args++captured.map AV.borrow) H (fi.toList++uargs.toList++ca.toList) w:=by
   refine ⟨(l1.append hargs).append l2,hc.h,λb=>?_⟩
   rw [FG _ _ _ _ _ (l1.append hargs).len,FG _ _ _ _ _ l1.len,t1,t2]
   have:=hc.cnt b
   rw [EK] at this
   omega
  refine ⟨{ target:=.fn (.func f) ca,args:=fi++uargs },fi++uargs++ca,rfl, ?_,by simpa using hcr⟩
  unfold GP at hcal
  split at hcal
  ·rename_i fn hfn
   simp only [AR,BX,beq_eq_false_iff_ne,ne_eq] at hcal
   obtain ⟨g1,g2⟩:=hcal
   have g3:fn.body.isNone=false:=by cases hb:fn.body<;>simp_all
   simp only [Sem.run_bind,Sem.run_pure,Result.andThen_ok,invoke,callFunc,run_program,hfn,Sem.run_ite,beq_eq_false_iff_ne.2 g1,g3,Bw,if_false]
  ·cases hcal
def Jy(vals:List AV):List Tmp->List AV->Ee->Ee
 | p::ps,y::ys,e=>Jy vals ps ys ((p,y)::e)
 | _,_,e=>e
def GK(n:Nat)(e:Ee):List AV:=(FT n e).map AV.borrow
theorem Sx{vals:List AV}: ∀ (ps:List Tmp) (ys:List AV) (us:List Value) (e:Ee) (tm:Array Value),CRel F G (ys++FT n e) H (us++tm.toList) w->ys.length=us.length->tm.size=n->(∀ p∈ps,p<n) ->
  (∀ t,n<=t->Ec e t = .undef)->ps.length=ys.length ->
  CRel F G (FT n (Jy vals ps ys e)) H ((ps.zip us).foldl (λ(t:Array Value) (x:Tmp×Value)=>t.setIfInBounds x.1 x.2) tm).toList w /\
   ((ps.zip us).foldl (λ(t:Array Value) (x:Tmp×Value)=>t.setIfInBounds x.1 x.2) tm).size=n /\ ∀ t,n<=t->Ec (Jy vals ps ys e) t = .undef
 | [],[],[],e,tm,h,_,hn,_,ho,_=>⟨by simpa [Jy] using h,hn,ho⟩
 | p::ps,y::ys,u::us,e,tm,h,hl,hn,hp,ho,hps=>by
  have hpn:=hp p sm
  have hl':ys.length=us.length:=by simpa using hl
  have hset:=h.setSlot (v:=y) (L:=ys++FT n e) (u:=u) (tm:=us++tm.toList) (d:=us.length+p) (by
   have h1:tm.toList.length=n:=by rw [Bq];exact hn
   rw [AE,h1];exact Nat.add_lt_add_left hpn _)
  have e1:(ys++FT n e).set (us.length+p) y=ys++FT n ((p,y)::e):=by
   rw [SR e y hpn,BZ _ _ DF]
   congr 2;omega
  have e2:(us++tm.toList).set (us.length+p) u=us++(tm.setIfInBounds p u).toList:=by
   rw [BZ _ _ DF,Cy]
   congr 2;omega
  rw [e1,e2] at hset
  exact Sx ps ys us ((p,y)::e) (tm.setIfInBounds p u) hset hl' (by simpa using hn) (λq hq=>hp q (by simp [hq])) (λt ht=>by
   have hne : ¬ p=t:=λe=>by subst e;exact absurd hpn (Nat.not_lt.2 ht)
   simp only [Ec]
   rw [if_neg hne]
   exact ho t ht) (by simpa using hps)
 | [],_::_,_,_,_,_,_,_,_,_,h=>by simp at h
 | _::_,[],_,_,_,_,_,_,_,_,h=>by simp at h
 | _::_,_::_,[],_,_,_,h,_,_,_,_=>by simp at h
 | [],[],_::_,_,_,_,h,_,_,_,_=>by simp at h
theorem Md{s:LoopState}{p:Option Code}(h:LX s p=some 0):s = .ready/\p=none:=by
 unfold LX at h
 split at h<;>first|exact ⟨rfl,rfl⟩|(simp at h;try omega)
theorem mJ{s:LoopState}{p:Option Code}(h:LX s p=some (-2)):s = .done/\p=some .ret:=by
 unfold LX at h
 split at h<;>first|exact ⟨rfl,rfl⟩|(simp at h;try omega)
theorem ez{s:LoopState}{p:Option Code}{k:Nat}(h:LX s p=some ((k:Int)+1)):s = .done/\p=some (.exit k):=by
 unfold LX at h
 split at h<;>first|(simp at h;omega)|skip
 ·rename_i j
  have:j=k:=by simp at h;omega
  subst this;exact ⟨rfl,rfl⟩
 ·simp at h
end
end Go.AI
namespace Go.AI
def Js(ag:Bool)(v:AV)(H:DM):Option (AV×DM) :=
 match v with
 | .msl ob off len sz=>match H[ob]? with
  | some (some cs)=>if off+len*sz<=cs.length/\(ag=true\/sz=1) then some (.sl none (HK ag sz len ((cs.drop off).map borrow1)),H.set ob none) else none
  | _=>none
 | _=>none
def gW(z:Tmp×Option Nat×Bool)(e:Ee)(H:DM):Ee×DM :=
 match z.2.1 with
 | none=>match Js z.2.2 (Ec e z.1) H with
  | some (v,H')=>((z.1,v)::e,H')
  | none=>(e,H)
 | some k=>match Ec e z.1 with
  | .ptr o off=>match H[o]? with
   | some (some cs)=>match cs[off+k]? with
    | some c=>match Js z.2.2 c H with
     | some (v,H')=>match H'[o]? with
      | some (some _)=>(e,H'.set o (some (cs.set (off+k) v)))
      | _=>(e,H)
     | none=>(e,H)
    | none=>(e,H)
   | _=>(e,H)
  | _=>(e,H)
def Ja:List (Tmp×Option Nat×Bool)->Ee->DM->Ee×DM
 | [],e,H=>(e,H)
 | z::zs,e,H=>Ja zs (gW z e H).1 (gW z e H).2
def Hint.lv(h:Hint)(id:Nat):List Tmp:=(h.live.lookup id).getD []
def Hint.ct(h:Hint)(id:Nat):Option Nat:=h.gc.lookup id
def Hint.da(h:Hint)(id:Nat):Bool:=h.dy.contains id
def Hint.mv(h:Hint)(id:Nat):List Nat:=h.dy.filterMap λx=>if x / 1000=id+1 then some (x % 1000) else none
def l4(l:List Nat)(n:Nat):List Nat:=l++(Am n).filter λi => !l.contains i
def Hint.ord(h:Hint)(id:Nat)(ops:Array Oper):List Oper:=match h.mv id with
 | []=>ops.toList
 | l=>(l4 l ops.size).filterMap λi=>ops[i]?
def Hint.dn(h:Hint)(id:Nat):Bool:=h.da id || !(h.mv id).isEmpty
theorem qX{h:Hint}{id:Nat}(hd:h.dn id=false)(ops:Array Oper):h.da id=false/\h.ord id ops=ops.toList:=by
 simp only [Hint.dn,Bool.or_eq_false_iff,Bool.not_eq_false',D8] at hd
 refine ⟨hd.1, ?_⟩
 unfold Hint.ord
 rw [hd.2]
def Hint.at(h:Hint)(id:Nat):List (Tmp×Option Nat×Bool):=(h.fz.lookup id).getD []
section
variable {F:Nat->Prop} {G:Gh} {w:World} {H:DM} {n:Nat} {env:Ee} {a:Act}
theorem Px{ag:Bool}{v v':AV}{H':DM}(hf:Js ag v H=some (v',H')){vals:List AV}{us:List Value}(h:CRel F G vals H us w){u:Value}(hv:VRel G w v u):
  ∃ ob b es,H'=H.set ob none/\v' = .sl none es/\(∃ cs,H[ob]? =some (some cs))/\CRel F (G.setKind b .imm) vals H' us w/\Ext F G w (G.setKind b .imm) w/\VRel (G.setKind b .imm) w v' u/\(∃ o f l s,v = .msl o f l s):=by
 unfold Js at hf
 split at hf
 ·rename_i ob off len sz
  split at hf
  ·rename_i cs hob
   split at hf
   ·rename_i hc
    cases hf
    have hb : ∃ b,G.obs[ob]? =some b:=by
     have:=h.h.len
     exact ⟨_,AL (by rw [this];exact (AD.1 hob).1)⟩
    obtain ⟨b,hb⟩:=hb
    obtain ⟨h1,h2⟩:=h.freeze hob hb (hv.msl_cells hb)
    exact ⟨ob,b,_,rfl,rfl,⟨cs,hob⟩,h1,h2,VRel.frozen h hob hb hv hc.1 ag hc.2,_,_,_,_,rfl⟩
   ·cases hf
  ·cases hf
 ·cases hf
theorem ADZ(z:Tmp×Option Nat×Bool)(hs:SRel F G n env H a w): ∃ G',SRel F G' n (gW z env H).1 (gW z env H).2 a w/\Ext F G w G' w:=by
 have same : ∃ G',SRel F G' n env H a w/\Ext F G w G' w:=⟨G,hs,.refl F G w⟩
 obtain ⟨t,k,ag⟩:=z
 have slot : ∀ v,Ec env t=v->v ≠ .undef->t<n /\ ∃ u,a.tmps[t]? =some u/\VRel G w v u:=λv hv hne=>by
  have hdn:t<n:=by
   by_cases hdn:t<n
   ·exact hdn
   ·rw [hs.out t (CC hdn)] at hv;exact absurd hv.symm hne
  obtain ⟨x,hx⟩ : ∃ x,a.tmps[t]? =some x:=⟨_,Ai (by rw [hs.size];exact hdn)⟩
  have hr:=hs.c.l.rel t (Ec env t) x (Gs env hdn) (by rw [Ad];exact hx)
  rw [hv] at hr
  exact ⟨hdn,x,hx,hr⟩
 unfold gW
 cases k with
 | none =>
  dsimp only
  split
  ·rename_i v' H' hf
   obtain ⟨hdn,u,hu,hvr⟩:=slot (Ec env t) rfl (by intro e;rw [e] at hf;simp [Js] at hf)
   obtain ⟨ob,b,es,rfl,rfl,_,h1,h2,h3,_⟩:=Px hf hs.c hvr
   refine ⟨_, ?_,h2⟩
   have hput:=Uk (v:=.sl none es) (u:=u) hs.size hs.defers hs.out ⟨.cons h3 (ET (E6 rfl u) _ _ _) h1.l,h1.h,λx=>by rw [EK,E6 rfl u];simpa using h1.cnt x⟩ (some t) hdn
   have ea:a.put (some t) u=a:=by
    obtain ⟨tm,df⟩:=a
    simp only [Act.put,Act.mk.injEq,and_true]
    apply Array.ext'
    rw [Cy]
    exact dG (by rw [Ad];exact hu)
   rw [ea] at hput
   exact hput
  ·exact same
 | some k =>
  dsimp only
  split
  ·rename_i o off hlk
   split
   ·rename_i cs hob
    split
    ·rename_i c hc
     split
     ·rename_i v' H' hf
      split
      ·rename_i cs' hob'
       obtain ⟨hdn,u,hu,hvr⟩:=slot _ hlk (by intro e;cases e)
       have hlen:=hs.c.h.len
       have hb : ∃ b,G.obs[o]? =some b:=⟨_,AL (by rw [hlen];exact (AD.1 hob).1)⟩
       obtain ⟨b,hb⟩:=hb
       have hcell : ∃ (C:Array Value) (E:TypeId),w.heap[b]? =some (.cells C E (0,0)):=by
        cases hvr with
        | ptr _ _ b2 h2 hc2=>rw [hb] at h2;cases h2;exact hc2
       obtain ⟨C0,E0,hcell⟩:=hcell
       obtain ⟨g1,C,E,g2,g3,g4⟩:=(hs.c.h.obj o cs b hob hb).of_cells hcell
       have hlt:off+k<C.size:=BR (AD.1 hc).1 g3
       obtain ⟨s1,s2,s3⟩:=g4 _ _ _ hc (Ai hlt)
       obtain ⟨ob,b',es,rfl,rfl,_,h1,h2,h3,⟨o5,f5,l5,z5,hmsl⟩⟩:=Px hf hs.c s2
       have hne:ob≠o:=by
        rintro rfl
        rw [Az (by exact (AD.1 hob).1)] at hob'
        cases hob'
       have hob2:(H.set ob none)[o]? =some (some cs):=by rw [A6 hne];exact hob
       have hb2:(G.setKind b' .imm).obs[o]? =some b:=hb
       have hrow':=h1.h.obj o cs b hob2 hb2
       obtain ⟨r1,C2,E2,r2,r3,r4⟩:=hrow'.of_cells g2
       have hCC:C2=C:=by rw [g2] at r2;cases r2;rfl
       subst hCC
       have hset:=h1.setObj hob2 hb2 r2 (C':=C2) rfl (cs':=cs.set (off+k) (.sl none es)) (by simpa using r3) (λi c2 y hc2 hy=>?_) (vs:=FT n env) (us':=a.tmps.toList) h1.l (λx=>?_)
       ·rw [setRow_self w b C2 E2 _ r2] at hset
        exact ⟨_,⟨hs.size,hs.defers,hs.out,hset.1⟩,h2.trans hset.2⟩
       ·rw [List.getElem?_set] at hc2
        split at hc2
        ·rename_i he
         subst he
         rw [if_pos (AD.1 hc).1] at hc2
         cases hc2
         have:y=C2[off+k]:=by rw [Ai hlt] at hy;cases hy;rfl
         subst this
         exact ⟨rfl,h3,Ep rfl⟩
        ·exact r4 i c2 y hc2 hy
       ·have hle:(((cs.set (off+k) (.sl none es)).zip C2.toList).filterMap tok).count x<=((cs.zip C2.toList).filterMap tok).count x:=by
         subst hmsl
         clear hrow' hcell
         clear h3 h1 h2 s2 s3 r4 g4 g3 r3 hob2 hf hob hob'
         generalize hL:C2.toList=L
         clear hL
         generalize off+k=j at hc ⊢
         induction cs generalizing j L with
         | nil=>simp
         | cons d cs ih =>
          cases L with
          | nil=>simp
          | cons y L =>
           cases j with
           | zero =>
            simp only [A8,Option.some.injEq] at hc
            subst hc
            simp only [List.set_cons_zero,B5,B6]
            simp [tok]
           | succ j =>
            simp only [List.getElem?_cons_succ] at hc
            have:=ih L j hc
            simp only [List.set_cons_succ,B5,B6]
            split
            ·exact this
            ·simp only [List.count_cons];omega
        omega
      ·exact same
     ·exact same
    ·exact same
   ·exact same
  ·exact same
theorem rT : ∀ (zs:List (Tmp×Option Nat×Bool)) {G:Gh} {env:Ee} {H:DM},SRel F G n env H a w -> ∃ G',SRel F G' n (Ja zs env H).1 (Ja zs env H).2 a w/\Ext F G w G' w
 | [],G,_,_,hs=>⟨G,hs,.refl F G w⟩
 | z::zs,G,env,H,hs=>by
  obtain ⟨G1,h1,e1⟩:=ADZ z hs
  obtain ⟨G2,h2,e2⟩:=rT zs h1
  exact ⟨G2,h2,e1.trans e2⟩
end
def bG(ar:Option Nat)(H:DM):Prop :=
 match ar with
 | none=>True
 | some o => ∃ cs,H[o]? =some (some cs)
def Hw(P:Program)(n:Nat)(h:Hint):Option Nat->Code->(Exit->Ee->DM->Prop)->Ee->DM->Prop
 | _,.skip,Q=>Q .normal
 | _,.region id ops _,Q=>λe H=>KK P n h ops (h.ord id ops) (λe H=>(h.da id=true->IZ P h ops e)/\Q .normal (Ja (h.at id) (GH (h.lv id) e) H).1 (To (h.ct id) (Ja (h.at id) (GH (h.lv id) e) H).1 (Ja (h.at id) (GH (h.lv id) e) H).2)) e H
 | ar,.seq a b,Q=>Hw P n h ar a λex e H=>match ex with
   | .normal=>Hw P n h ar b Q e H
   | ex=>Q ex e H
 | ar,.cond c a b,Q=>λe H=>match Fj P none e c with
   | .bool t=>if t=true then Hw P n h ar a Q e H else Hw P n h ar b Q e H
   | _=>False
 | ar,.block id c,Q=>Hw P n h ar c λex e H=>match ex with
   | .exit j=>if j=id then Q .normal e H else Q (.exit j) e H
   | ex=>Q ex e H
 | ar,.loop c,Q=>λe H => ∃ (I:Ee->DM->Prop) (μ:Ee->DM->Nat),I e H /\ ∀ e H,I e H->Hw P n h ar c (λex e' H'=>match ex with
   | .normal=>I e' H'/\μ e' H'<μ e H
   | ex=>Q ex e' H') e H
 | ar,.rangeFunc g ps assign body,Q=>λe H=>bG ar H /\ ∃ (tag:Nat) (f:FuncId) (first captured:List AV),Fj P none e g = .fn (.func f) first captured /\
   Dx P f (first.map AV.borrow++[.yld H.length ⟨tag,ps,assign,body⟩]++captured.map AV.borrow) (H++[some (Fl 0 (GK n e))]) λ_ H2 => ∃ st av,
    H2[H.length]? =some (some (Fl st av)) /\
     ((st=0/\Q .normal e (H2.set H.length none))\/(st = -2/\Q .ret e (H2.set H.length none)) \/ ∃ k:Nat,st=(k:Int)+1/\Q (.exit k) e (H2.set H.length none))
 | _,.exit id,Q=>Q (.exit id)
 | _,.ret,Q=>Q .ret
 | _,_,_=>λ_ _=>False
def FX(h:Hint):Code->Bool
 | .region id ops draw=>((h.mv id).isEmpty&&(!draw||oe h ops||(h.da id&&ah h ops)))||(draw&&ae h ops (l4 (h.mv id) ops.size) && !(h.mv id).isEmpty)
 | .seq a b=>FX h a&&FX h b
 | .cond _ a b=>FX h a&&FX h b
 | .block _ c=>FX h c
 | .loop c=>FX h c
 | .rangeFunc _ _ a b=>FX h a&&FX h b
 | _=>true
theorem Q2{p:Nat->Prop}(h : ∃ m,p m): ∃ m,p m /\ ∀ k,p k->m<=k:=by
 obtain ⟨m,hm⟩:=h
 induction m using Nat.strongRecOn with
 | _ m ih =>
  by_cases h0 : ∃ k,k<m/\p k
  ·obtain ⟨k,hk,hp⟩:=h0
   exact ih k hk hp
  ·exact ⟨m,hm,λk hp=>CC λhlt=>h0 ⟨k,hlt,hp⟩⟩
theorem W3 {F:Fence} {n:Nat} {P:Program} {c:Code} {Q:Exit->Act->World->Prop} {a:Act} {w:World} (J:Nat->Act->World->Prop) (h0 : ∃ m,J m a w)
  (round : ∀ m a w,J m a w->c.wpIn F n P (Exit.then (λa' w' => ∃ m',m'<m/\J m' a' w') Q) a w):(Code.loop c).wpIn F n P Q a w:=by
 have hl : ∀ a w,∃ m,(∃ m,J m a w)->J m a w /\ ∀ k,J k a w->m<=k:=λa w=>by
  by_cases he : ∃ m,J m a w
  ·obtain ⟨m,h1,h2⟩:=Q2 he
   exact ⟨m,λ_=>⟨h1,h2⟩⟩
  ·exact ⟨0,λh=>absurd h he⟩
 refine wpIn_loop (λa w => ∃ m,J m a w) (λa w=>Classical.choose (hl a w)) h0 λa w hI=>?_
 obtain ⟨h1,h2⟩:=Classical.choose_spec (hl a w) hI
 refine wpIn_mono (round _ a w h1) (λe a' w' hq=>?_)
 cases e with
 | normal =>
  obtain ⟨m',hm,hJ⟩:=hq
  refine ⟨⟨m',hJ⟩, ?_⟩
  obtain ⟨_,h4⟩:=Classical.choose_spec (hl a' w') ⟨m',hJ⟩
  exact Nat.lt_of_le_of_lt (h4 m' hJ) hm
 | _=>exact hq
def Left(F:Nat->Prop)(G:Gh)(w:World)(n:Nat)(Q:Exit->Ee->DM->Prop)(ex:Exit)(a':Act)(w':World):Prop:=MN F G w n (Q ex) a' w'
theorem RB(a:AV):borrow0 (borrow0 a)=borrow0 a:=by
 cases a<;>first|rfl|skip
 case agg cs=>simp only [borrow0,List.map_map];congr 1;exact B3 λc _=>Mv c
theorem TF(a:AV):a.borrow.borrow=a.borrow:=by
 cases a<;>first|rfl|skip
 case agg cs=>exact RB (.agg cs)
 case tup vs=>simp only [AV.borrow,List.map_map];congr 1;exact B3 λc _=>RB c
def cT(G0:Gh)(w0:World)(ro ar:Option Nat):Prop :=
 match ro,ar with
 | none,none=>True
 | some l,some o=>G0.obs[o]? =some l/\(∃ L,G0.kind l = .loop L)/\l<w0.heap.size
 | _,_=>False
theorem cT.loop{F:Nat->Prop}{G0 G:Gh}{w0 w:World}{ro ar:Option Nat}{H:DM}{vs:List AV}{us:List Value}(h:cT G0 w0 ro ar)(he:Ext F G0 w0 G w)(hc:CRel F G vs H us w)(ha:bG ar H):
  ∀ l,ro=some l -> ∃ r:Loop,w.heap[l]? =some (.loop r):=by
 intro l hl
 subst hl
 cases ar with
 | none=>exact h.elim
 | some o =>
  obtain ⟨h1,⟨L,h2⟩,h3⟩:=h
  obtain ⟨cs,hcs⟩:=ha
  have hk:=he.keeps.sp l h3 (by rw [h2];rfl)
  have hi:=(hc.h.obj o cs l hcs (he.keeps.obs o l h1)).is
  rw [hk.2,h2] at hi
  obtain ⟨s,pe,t,D,st,vals,g1,_⟩:=hi
  exact ⟨_,g1⟩
theorem Hp{P:Program}{n:Nat}{h:Hint}(hm:P.follows .mixedOrders=true): ∀ (c:Code) (ro ar:Option Nat) (F:Nat->Prop) (G0:Gh) (w0:World) (h0:h.gc=[]\/G0.obs=[]) (har:cT G0 w0 ro ar) (hd:FX h c=true)
  (Q:Exit->Ee->DM->Prop) (QQ:Exit->Act->World->Prop) (G:Gh) (env:Ee) (H:DM) (a:Act) (w:World),
  SRel F G n env H a w->Ext F G0 w0 G w->Hw P n h ar c Q env H->(∀ ex a' w',Left F G0 w0 n Q ex a' w'->QQ ex a' w')->c.wpIn (cX ro) 0 P QQ a w
 | .skip,ro,ar,F,G0,w0,h0,har,_,Q,QQ,G,env,H,a,w,hs,hx,ha,hQ=>wpIn_skip (hQ _ _ _ ⟨env,H,G,ha,hs,hx⟩)
 | .exit id,ro,ar,F,G0,w0,h0,har,_,Q,QQ,G,env,H,a,w,hs,hx,ha,hQ=>wpIn_exit (hQ _ _ _ ⟨env,H,G,ha,hs,hx⟩)
 | .ret,ro,ar,F,G0,w0,h0,har,_,Q,QQ,G,env,H,a,w,hs,hx,ha,hQ=>wpIn_ret (hQ _ _ _ ⟨env,H,G,ha,hs,hx⟩)
 | .region id ops draw,ro,ar,F,G0,w0,h0,har,hd,Q,QQ,G,env,H,a,w,hs,hx,ha,hQ=>by
  have hK:QB λe H=>(h.da id=true->IZ P h ops e)/\Q .normal (Ja (h.at id) (GH (h.lv id) e) H).1 (To (h.ct id) (Ja (h.at id) (GH (h.lv id) e) H).1 (Ja (h.at id) (GH (h.lv id) e) H).2):=λe e' H he hq=>by
   refine ⟨λhy=>iK he (hq.1 hy), ?_⟩
   show Q .normal (Ja (h.at id) (GH (h.lv id) e') H).1 (To (h.ct id) (Ja (h.at id) (GH (h.lv id) e') H).1 (Ja (h.at id) (GH (h.lv id) e') H).2)
   rw [<- iT (h.lv id) he];exact hq.2
  have hnext : ∀ a' w',MN F G w n (λe H=>(h.da id=true->IZ P h ops e)/\Q .normal (Ja (h.at id) (GH (h.lv id) e) H).1 (To (h.ct id) (Ja (h.at id) (GH (h.lv id) e) H).1 (Ja (h.at id) (GH (h.lv id) e) H).2)) a' w'->QQ .normal a' w':=by
   rintro a' w' ⟨env',H',G',hK',hs',he⟩
   obtain ⟨G2,h2,e2⟩:=rT (h.at id) (hs'.forget (mK (h.lv id) env'))
   obtain ⟨G3,h3,e3⟩:=ADW (h.ct id) h2 ((hx.trans he).trans e2) (h0.imp (λhg=>by unfold Hint.ct;rw [hg];rfl) (λhg=>hg))
   exact hQ _ _ _ ⟨_,_,G3,hK'.2,h3,e3⟩
  have ho0:(h.mv id).isEmpty=true->h.ord id ops=ops.toList:=λhe=>by
   unfold Hint.ord
   rw [D8.1 he]
  have ho1:(h.mv id).isEmpty=false->h.ord id ops=(l4 (h.mv id) ops.size).filterMap λi=>ops[i]?:=λhe=>by
   unfold Hint.ord
   cases hmv:h.mv id with
   | nil=>rw [hmv] at he;cases he
   | cons a l=>rfl
  simp only [Hw] at ha
  cases draw with
  | false =>
   simp only [FX,Bool.not_false,Bool.true_or,Bool.and_true,Bool.false_and,Bool.or_false] at hd
   rw [ho0 hd] at ha
   exact iz _ _ hs ha hnext
  | true =>
   simp only [FX,Bool.not_true,Bool.false_or,Bool.true_and,CJ,AR,BX] at hd
   rcases hd with ⟨he,hd|⟨hy,hd⟩⟩|⟨hd,he⟩
   ·rw [ho0 he] at ha
    exact bM _ hm hK hd hs ha hnext
   ·rw [ho0 he] at ha
    exact Xq _ hm (λe H hk=>hk.1 hy) hK hd hs ha hnext
   ·rw [ho1 he] at ha
    exact Xp _ _ hm hK hd hs ha hnext
 | .seq x y,ro,ar,F,G0,w0,h0,har,hd,Q,QQ,G,env,H,a,w,hs,hx,ha,hQ=>by
  simp only [FX,AR] at hd
  refine wpIn_seq (Hp hm x ro ar F G0 w0 h0 har hd.1 _ _ G env H a w hs hx ha λex a' w' hl=>?_)
  obtain ⟨env',H',G',hK,hs',he⟩:=hl
  cases ex with
  | normal =>
   exact Hp hm y ro ar F G0 w0 h0 har hd.2 Q QQ G' env' H' a' w' hs' he hK hQ
  | _=>exact hQ _ _ _ ⟨env',H',G',hK,hs',he⟩
 | .cond c x y,ro,ar,F,G0,w0,h0,har,hd,Q,QQ,G,env,H,a,w,hs,hx,ha,hQ=>by
  simp only [FX,AR] at hd
  simp only [Hw] at ha
  split at ha
  ·rename_i t ht
   have hev:a.eval c = .bool t:=by
    obtain ⟨h1,_⟩:=Vz (P:=P) (n:=n) (pre:=[]) (upre:=[]) none false c hs.c rfl hs.size hs.out
    have hr:=h1.l.rel 0 _ _ rfl rfl
    simp only [MC,ht,AV.borrow,borrow0] at hr
    generalize a.eval c=u at hr
    cases hr;rfl
   refine wpIn_cond hev ?_
   cases t with
   | true=>exact Hp hm x ro ar F G0 w0 h0 har hd.1 Q QQ G env H a w hs hx (by simpa using ha) hQ
   | false=>exact Hp hm y ro ar F G0 w0 h0 har hd.2 Q QQ G env H a w hs hx (by simpa using ha) hQ
  ·exact ha.elim
 | .block id c,ro,ar,F,G0,w0,h0,har,hd,Q,QQ,G,env,H,a,w,hs,hx,ha,hQ=>by
  refine wpIn_block (Hp hm c ro ar F G0 w0 h0 har hd _ _ G env H a w hs hx ha λex a' w' hl=>?_)
  obtain ⟨env',H',G',hK,hs',he⟩:=hl
  cases ex with
  | exit j =>
   simp only [Exit.inBlock] at hK ⊢
   split
   ·rename_i hj
    rw [if_pos hj] at hK
    exact hQ _ _ _ ⟨env',H',G',hK,hs',he⟩
   ·rename_i hj
    rw [if_neg hj] at hK
    exact hQ _ _ _ ⟨env',H',G',hK,hs',he⟩
  | _=>exact hQ _ _ _ ⟨env',H',G',hK,hs',he⟩
 | .loop c,ro,ar,F,G0,w0,h0,har,hd,Q,QQ,G,env,H,a,w,hs,hx,ha,hQ=>by
  obtain ⟨I,μ,hI,hround⟩:=ha
  refine W3 (λm a' w' => ∃ env' H' G',I env' H'/\μ env' H'=m/\SRel F G' n env' H' a' w'/\Ext F G0 w0 G' w') ⟨_,env,H,G,hI,rfl,hs,hx⟩ λm a' w' hJ=>?_
  obtain ⟨env',H',G',hI',hμ,hs',he⟩:=hJ
  refine Hp hm c ro ar F G0 w0 h0 har hd _ _ G' env' H' a' w' hs' he (hround env' H' hI') λex a2 w2 hl=>?_
  obtain ⟨env2,H2,G2,hK,hs2,he2⟩:=hl
  cases ex with
  | normal=>exact ⟨_,hμ▸hK.2,env2,H2,G2,hK.1,rfl,hs2,he2⟩
  | _=>exact hQ _ _ _ ⟨env2,H2,G2,hK,hs2,he2⟩
 | .rangeFunc g ps assign body,ro,ar,F,G0,w0,h0,har,hd,Q,QQ,G,env,H,a,w,hs,hx,ha,hQ=>by
  simp only [FX,AR] at hd
  obtain ⟨haround,tag,f,first,captured,hg,hcal,hcall⟩:=ha
  have hlen:=hs.c.h.len
  have hev:a.eval g=a.eval g:=rfl
  obtain ⟨h1,_⟩:=Vz (P:=P) (n:=n) (pre:=[]) (upre:=[]) none false g hs.c rfl hs.size hs.out
  simp only [MC,hg,List.nil_append] at h1
  have hb1:(AV.fn (.func f) first captured).borrow = .fn (.func f) first captured:=rfl
  rw [hb1] at h1
  have main : ∀ (fn:FuncId) (D:Nat) (Gm:Gh) (wm:World) (mark:List Deferred),SRel F Gm n env H { a with defers:=mark++a.defers } wm->Ext F G w Gm wm ->
    CRel F Gm (.fn (.func f) first captured::FT n env) H (a.eval g::a.tmps.toList) wm ->
    ∃ (d:Deferred) (w₁':World) (us:Array Value) (w₂:World),
     (resolve a.eval (rangeCall g wm.heap.size) 0).run P (wm.alloc (.loop { state:=.ready,pending:=none,fn,tmps:=a.tmps,params:=ps,assign,body,defers:=D })) = .ok d w₁' /\
     (invoke d.target d.args).run P w₁' = .ok (.enter f us) w₂ /\
     CallsIn (cX ro) 0 P f us w₂ (rangePost (cX ro) 0 P wm.heap.size QQ { a with defers:=mark++a.defers }):=by
   intro fn D Gm wm mark hsm hem hcm
   have he:=MA (G:=Gm) hcm.h.fore (.loop { state:=.ready,pending:=none,fn,tmps:=a.tmps,params:=ps,assign,body,defers:=D }) (.loop ⟨tag,ps,assign,body⟩)
   have hold : ∀ b,b<wm.heap.size->(Gm.newK wm.heap.size (.loop ⟨tag,ps,assign,body⟩)).kind b=Gm.kind b/\(wm.alloc (.loop { state:=.ready,pending:=none,fn,tmps:=a.tmps,params:=ps,assign,body,defers:=D })).heap[b]? =wm.heap[b]?:=λb hb =>
    ⟨Gm.newK_kind_ne _ (Nat.ne_of_lt hb),F2 _ hb⟩
   have hkn:(Gm.newK wm.heap.size (.loop ⟨tag,ps,assign,body⟩)).kind wm.heap.size = .loop ⟨tag,ps,assign,body⟩:=Gm.kind_set _ _
   have hmlen:=hcm.h.len
   have hobn:(Gm.newK wm.heap.size (.loop ⟨tag,ps,assign,body⟩)).obs[H.length]? =some wm.heap.size:=by
    show (Gm.obs++[wm.heap.size])[H.length]? =_
    rw [AM DF,hmlen,Nat.sub_self];rfl
   have hyv:Fa (.yld H.length ⟨tag,ps,assign,body⟩) (.func (.yield wm.heap.size) #[] #[])=[]:=E6 rfl _
   have hvr:VRel (Gm.newK wm.heap.size (.loop ⟨tag,ps,assign,body⟩)) (wm.alloc (.loop { state:=.ready,pending:=none,fn,tmps:=a.tmps,params:=ps,assign,body,defers:=D })) (.yld H.length ⟨tag,ps,assign,body⟩) (.func (.yield wm.heap.size) #[] #[]) :=
    .yld _ _ _ hobn (by rw [size_alloc];omega) hkn
   have hlE:LRel F (Gm.newK wm.heap.size (.loop ⟨tag,ps,assign,body⟩)) (FT n env) a.tmps.toList (wm.alloc (.loop { state:=.ready,pending:=none,fn,tmps:=a.tmps,params:=ps,assign,body,defers:=D })) :=
    ⟨hsm.c.l.len,λi a' u q1 q2=>(hsm.c.l.rel i a' u q1 q2).keep he.keeps,λi a' u q1 q2 p hp=>(hsm.c.l.tok i a' u q1 q2 p hp).keep λb hb=>by
     obtain ⟨t1,_,C,E,t3⟩:=(hsm.c.l.tok i a' u q1 q2 p hp).of_tok hb
     exact ⟨t1,hold b (Ap.1 t3).1⟩⟩
   have hnew:=hcm.newG (.loop ⟨tag,ps,assign,body⟩) (.loop { state:=.ready,pending:=none,fn,tmps:=a.tmps,params:=ps,assign,body,defers:=D }) (Fl 0 (GK n env))
    (vs:=.fn (.func f) first captured :: .yld H.length ⟨tag,ps,assign,body⟩::FT n env) (us':=a.eval g :: .func (.yield wm.heap.size) #[] #[]::a.tmps.toList)
    ⟨λhF=>absurd (hcm.h.fore _ hF) (Bp _),by
     rw [hkn]
     refine ⟨.ready,none,a.tmps,(fn,D),0,GK n env,heap_alloc_new _ _,rfl,rfl,by simp [GK,F3];exact hs.size.symm,λi a' u q1 q2=>?_⟩
     simp only [GK,Ac] at q1
     cases hc:(FT n env)[i]? with
     | none=>rw [hc] at q1;cases q1
     | some c =>
      rw [hc] at q1;cases q1
      exact ⟨TF c,((hsm.c.l.rel i c u hc (by rw [Ad];exact q2)).borrow).keep he.keeps⟩⟩
    (.cons ((hcm.l.rel 0 _ _ rfl rfl).keep he.keeps) (ET (QL _ _ _ _) F _ _) (.cons hvr (ET hyv F _ _) hlE))
    (λb=>by rw [EK,EK,EK,hyv,QL];simp [WH])
   have hsp:=hnew.split (A:=[.fn (.func f) first captured,.yld H.length ⟨tag,ps,assign,body⟩]) (ua:=[a.eval g,.func (.yield wm.heap.size) #[] #[]]) rfl
   have hcD:=hsp.addD
   obtain ⟨d,us,hd1,hd2,hcr⟩:=pO (uargs:=#[.func (.yield wm.heap.size) #[] #[]]) hcD hcal
   refine ⟨d,_,us,_, ?_,hd2, ?_⟩
   ·simpa [resolve,Act.eval,rangeCall] using hd1
   ·have hC:=hcall _ _ _ _ hcr
    rw [Array.toArray_toList] at hC
    refine CallsIn.mono (show CallsIn (cX ro) 0 P f us _ _ from (callsIn_wide (n:=0)).2 hC) λe w' hen=>?_
    obtain ⟨u,rfl,v,H',G',⟨st,av,hst,hor⟩,hcr',hext⟩:=hen
    have hcb : ∀ b,Fo b (FT n env) a.tmps.toList<=1:=λb=>by
     have:Fo b (FT n env) a.tmps.toList+Gu Gm H wm b<=1:=hsm.c.cnt b
     omega
    have hj:=So (F:=F) hlE hcb (λb hb => .inl (.inl hb)) (λb hb => .inl (.inr hb)) hext hcr'
    have hE:CRel F G' (FT n env) H' a.tmps.toList w':=hj.rest
    have hob':=hext.keeps.obs _ _ hobn
    obtain ⟨hl',hkk'⟩:=hext.keeps.sp wm.heap.size (by rw [size_alloc];omega) (by rw [hkn];rfl)
    have hk':G'.kind wm.heap.size = .loop ⟨tag,ps,assign,body⟩:=hkk'.trans hkn
    obtain ⟨r,r1,r2,_⟩:=hE.setLoop hst hob' hk' (s':=.exhausted) (p':=none) rfl
    obtain ⟨r',r1',r2',_,_,_,_,_,hset,hexs⟩:=hE.setLoop hst hob' hk' (s':=.exhausted) (p':=r.pending) rfl
    rw [r1] at r1';cases r1'
    have hnb:r.state ≠ .busy:=λhb=>by
     rw [hb] at r2
     have:st = -1:=by cases r2;rfl
     rcases hor with ⟨h,_⟩|⟨h,_⟩|⟨k,h,_⟩<;>omega
    have hfin : ∀ ex,Q ex env (H'.set H.length none)->QQ ex { a with defers:=mark++a.defers } (w'.putObj wm.heap.size (.loop { r with state:=.exhausted })):=λex hq=>by
     refine hQ _ _ _ ⟨env,_,G',hq,⟨hs.size, ?_,hs.out, ?_⟩,hx.trans (hem.trans (he.trans ((hext.mono λb hb => .inl (.inl hb)).trans hexs)))⟩
     ·refine hsm.defers.keep λb hb=>?_
      have hb1:aI (wm.alloc (.loop { state:=.ready,pending:=none,fn,tmps:=a.tmps,params:=ps,assign,body,defers:=D })) b:=by
       unfold aI at hb ⊢
       rw [F2 _ (Ap.1 hb).1];exact hb
      have hb2:aI w' b:=(hext.cells b (.inr hb1)).trans hb1
      unfold aI at hb2 ⊢
      rw [World.putObj_heap_other (λe=>by subst e;rw [r1] at hb2;cases hb2)];exact hb2
     ·have:=hset.drop H.length
      rw [List.set_set] at this
      exact this
    refine ⟨_,_,run_endLoop (P:=P) r1 hnb, ?_⟩
    generalize w'.putObj wm.heap.size (.loop { r with state:=.exhausted })=w5 at hfin ⊢
    rcases hor with ⟨h,hq⟩|⟨h,hq⟩|⟨k,h,hq⟩
    ·subst h
     rw [(Md r2).2]
     exact hfin _ hq
    ·subst h
     rw [(mJ r2).2]
     exact wpIn_ret (hfin _ hq)
    ·subst h
     rw [(ez r2).2]
     exact wpIn_exit (hfin _ hq)
  refine wpIn_rangeFunc λfn _=>?_
  cases ro with
  | none =>
   have hca:=hs.c.alloc (.deferred (some [])) .imm
   have hea:=Ok (F:=F) (G:=G) (w:=w) (.deferred (some [])) .imm hs.c.h.fore G.obs (λ_ _ h=>h)
   have hdf:DOk F (w.alloc (.deferred (some []))) ([{ target:=.collected w.heap.size,args:=#[] }]++a.defers):=by
    obtain ⟨bs,b1,b2,b3⟩:=hs.defers
    have hlt : ∀ b∈bs,b<w.heap.size:=λb hb=>(Ap.1 (b3 b hb).2).1
    refine ⟨w.heap.size::bs,by rw [b1];rfl,List.nodup_cons.2 ⟨λhm=>absurd (hlt _ hm) (Bp _),b2⟩,λb hb=>?_⟩
    rcases AZ.1 hb with rfl|hb
    ·exact ⟨λhF=>absurd (hs.c.h.fore _ hF) (Bp _),heap_alloc_new _ _⟩
    ·refine ⟨(b3 b hb).1, ?_⟩
     have:=(b3 b hb).2
     unfold aI at this ⊢
     rw [F2 _ (hlt b hb)];exact this
   obtain ⟨d,w1',us,w2,m1,m2,m3⟩:=main fn w.heap.size (G.setKind w.heap.size .imm) (w.alloc (.deferred (some []))) [{ target:=.collected w.heap.size,args:=#[] }] ⟨hs.size,hdf,hs.out,hca⟩ hea (h1.alloc (.deferred (some [])) .imm)
   rw [size_alloc] at m1 m3
   exact ⟨_,_,_,d,w1',f,us,w2,run_enterLoop_outer (P:=P) fn a.tmps ps assign body,m1,λ_ _=>trivial,m2,λhx=>Bool.noConfusion hx,m3⟩
  | some l0 =>
   obtain ⟨r0,hr0⟩:=har.loop hx hs.c haround l0 rfl
   obtain ⟨d,w1',us,w2,m1,m2,m3⟩:=main fn r0.defers G w [] hs (.refl F G w) h1
   exact ⟨_,_,_,d,w1',f,us,w2,run_enterLoop_inner (P:=P) hr0 fn a.tmps ps assign body,m1,λ_ _=>trivial,m2,λhx=>Bool.noConfusion hx,m3⟩
 | .scope _,_,_,_,_,_,_,_,_,_,_,_,_,_,_,_,_,_,ha,_=>ha.elim
 | .label _,_,_,_,_,_,_,_,_,_,_,_,_,_,_,_,_,_,ha,_=>ha.elim
 | .goto _,_,_,_,_,_,_,_,_,_,_,_,_,_,_,_,_,_,ha,_=>ha.elim
 | .refuse _,_,_,_,_,_,_,_,_,_,_,_,_,_,_,_,_,_,ha,_=>ha.elim
theorem KR{P:Program}{n:Nat}{h:Hint}{o tag:Nat}{ps:Array Tmp}{assign body:Code}(hm:P.follows .mixedOrders=true)(hgc:h.gc=[])(hd:FX h assign=true/\FX h body=true)(hps : ∀ p∈ps.toList,p<n):
  ∀ (ys:List AV) (H1:DM) (R:AV->DM->Prop) (av:List AV),H1[o]? =some (some (Fl 0 av))->av.length=n->ps.toList.length=ys.length ->
   Hw P n h (some o) assign (λex e2 H2=>ex = .normal /\ ∃ av2,H2[o]? =some (some (Fl 0 av2)) /\
    Hw P n h (some o) body (λex e3 H3 => ∃ av3,H3[o]? =some (some (Fl (-1) av3))/\match ex with
     | .normal=>R (.bool true) (H3.set o (some (Fl 0 av3)))
     | .ret=>R (.bool false) (H3.set o (some (Fl (-2) av3)))
     | .exit k=>R (.bool false) (H3.set o (some (Fl ((k:Int)+1) av3)))
     | _=>False) e2 (H2.set o (some (Fl (-1) av2)))) (Jy av ps.toList ys (E9 0 av)) H1 ->
   ME P o ⟨tag,ps,assign,body⟩ ys H1 R:=by
 intro ys H1 R av hH1 hfl hpl hawp F1 G1 w1 us b hc hb hk
 obtain ⟨r,g1,g2,g4,g5,g6,g7,g8,_⟩:=hc.setLoop hH1 hb hk (s':=.ready) (p':=none) rfl
 obtain ⟨gr,gp⟩:=Md g2
 obtain ⟨rs,rp,rf,rt,rps,ra,rb,rd⟩:=r
 simp only at g4 g5 g6 g7 g8 gr gp
 have g4:=g4.symm;have g5:=g5.symm;have g6:=g6.symm;have gr:=gr.symm;have gp:=gp.symm
 subst g4 g5 g6 gr gp
 have hul:=hc.l.len
 refine ⟨_,g1,by rw [<- hul,<- hpl];simp,roundIn_of_wpIn trivial ?_⟩
 have hbl:b<w1.heap.size:=(Ap.1 g1).1
 have hframe:CRel F1 G1 (ys++FT n (E9 0 av)) H1 (us++rt.toList) w1:=by
  rw [V1 _ (Nat.le_of_eq hfl),hfl,Nat.sub_self,List.replicate_zero,List.append_nil]
  have htl : ∀ b',Fo b' av rt.toList=0:=λb'=>by
   by_cases h0:0<Fo b' av rt.toList
   ·obtain ⟨i,a',u',q1,q2,p,q3,q4⟩:=QO _ _ h0
    have hbo:=(g8 i a' u' q1 (by rw [<- Ad];exact q2)).1
    have:Fa a' u'=[]:=by rw [<- hbo];exact FL _ _
    have hmem:b'∈Fa a' u':=CL.2 ⟨p,q3,q4⟩
    rw [this] at hmem;cases hmem
   ·omega
  refine ⟨hc.l.append ⟨by simpa using g7,λi a' u' q1 q2=>(g8 i a' u' q1 (by rw [<- Ad];exact q2)).2,λi a' u' q1 q2=>?_⟩,hc.h,λb'=>?_⟩
  ·have hbo:=(g8 i a' u' q1 (by rw [<- Ad];exact q2)).1
   exact ET (by rw [<- hbo];exact FL _ _) F1 G1 w1
  ·rw [FG _ _ _ _ _ hul,htl]
   exact hc.cnt b'
 have hrt:rt.size=n:=by rw [<- g7,hfl]
 obtain ⟨hc2,hsz,hout⟩:=Sx (vals:=av) ps.toList ys us (E9 0 av) rt hframe hul hrt hps (λt ht=>by
  rw [Jq,if_pos (Nat.zero_le _),Ax (by rw [Nat.sub_zero,hfl];exact ht)];rfl) hpl
 have hfold:((ps.zip us.toArray).foldl (λtmps (t,a)=>tmps.setIfInBounds t a) rt)=((ps.toList.zip us).foldl (λ(t:Array Value) (x:Tmp×Value)=>t.setIfInBounds x.1 x.2) rt):=by
  rw [<- Array.foldl_toList,Array.toList_zip]
 simp only [hfold]
 have hs1:SRel F1 G1 n (Jy av ps.toList ys (E9 0 av)) H1 { tmps:=(ps.toList.zip us).foldl (λ(t:Array Value) (x:Tmp×Value)=>t.setIfInBounds x.1 x.2) rt,defers:=[] } w1 :=
  ⟨hsz,.nil F1 w1,hout,hc2⟩
 have har1:cT G1 w1 (some b) (some o):=⟨hb,⟨_,hk⟩,hbl⟩
 refine Hp hm assign (some b) (some o) F1 G1 w1 (.inl hgc) har1 hd.1 _ _ G1 _ H1 _ w1 hs1 (.refl F1 G1 w1) hawp λex a2 w2 hl=>?_
 obtain ⟨e2,H2,G2,⟨rfl,av2,hH2,hbody⟩,hs2,he2⟩:=hl
 have hob2:G2.obs[o]? =some b:=he2.keeps.obs _ _ hb
 obtain ⟨hbl2,hkk2⟩:=he2.keeps.sp b hbl (by rw [hk];rfl)
 have hk2:G2.kind b = .loop ⟨tag,ps,assign,body⟩:=hkk2.trans hk
 obtain ⟨r2,j1,j2,j4,j5,j6,j7,j8,j9,j10⟩:=hs2.c.setLoop hH2 hob2 hk2 (s':=.busy) (p':=none) rfl
 obtain ⟨jr,jp⟩:=Md j2
 have hbegin:=run_beginRound (P:=P) j1 jr
 rw [show ({ r2 with state:=.busy }:Loop)={ r2 with state:=.busy,pending:=none } by rw [<- jp]] at hbegin
 refine ⟨_,hbegin, ?_⟩
 have hdef3:DOk F1 (w2.putObj b (.loop { r2 with state:=.busy,pending:=none })) a2.defers:=hs2.defers.keep λb' hb'=>by
  unfold aI at hb' ⊢
  rw [World.putObj_heap_other (λe=>by subst e;rw [j1] at hb';cases hb')];exact hb'
 generalize w2.putObj b (.loop { r2 with state:=.busy,pending:=none })=w3 at j9 j10 hdef3 ⊢
 have he3:=he2.trans j10
 ·have hs3:SRel F1 G2 n e2 (H2.set o (some (Fl (-1) av2))) a2 w3:=⟨hs2.size,hdef3,hs2.out,j9⟩
  refine Hp hm body (some b) (some o) F1 G1 w1 (.inl hgc) har1 hd.2 _ _ G2 e2 _ a2 w3 hs3 he3 hbody λex a4 w4 hl=>?_
  obtain ⟨e4,H4,G4,⟨av3,hH4,hR⟩,hs4,he4⟩:=hl
  have hob4:G4.obs[o]? =some b:=he4.keeps.obs _ _ hb
  obtain ⟨hbl4,hkk4⟩:=he4.keeps.sp b hbl (by rw [hk];rfl)
  have hk4:G4.kind b = .loop ⟨tag,ps,assign,body⟩:=hkk4.trans hk
  have fin : ∀ (jump:Option Code) (s':LoopState) (st':Int) (Q':Prop),s'=(if jump.isNone then .ready else .done)->LX s' jump=some st'->R (.bool jump.isNone) (H4.set o (some (Fl st' av3))) ->
    ∃ v w',(Instr.endRound b jump).run P w4 = .ok v w' /\ ∃ u,Ending.returned v = .returned u/\ES F1 G1 w1 R u w':=by
   intro jump s' st' _ hs' hst hR'
   obtain ⟨r4,i1,i2,i4,i5,i6,i7,i8,i9,i10⟩:=hs4.c.setLoop hH4 hob4 hk4 (s':=s') (p':=jump) hst
   refine ⟨_,_,run_endRound (P:=P) jump i1,_,rfl,.bool jump.isNone,_,G4,hR', ?_, ?_⟩
   ·rw [<- hs']
    exact i9.plain (.bool _) (E6 rfl _)
   ·rw [<- hs']
    exact he4.trans i10
  cases ex with
  | normal=>exact fin none .ready 0 True rfl rfl hR
  | ret=>exact fin (some .ret) .done (-2) True rfl rfl hR
  | exit k=>exact fin (some (.exit k)) .done _ True rfl rfl hR
  | _=>exact hR.elim
end Go.AI
