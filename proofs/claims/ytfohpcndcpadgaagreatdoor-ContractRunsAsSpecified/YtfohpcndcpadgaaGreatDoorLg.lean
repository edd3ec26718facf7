/- Stores and plain loads by their addresses. -/
import Derived.Test.YtfohpcndcpadgaaGreatDoorAiV
import Derived.RangeFuncNested
set_option linter.unusedSimpArgs false
set_option linter.unusedVariables false
set_option linter.defProp false
open Go.AI renaming Hint->Ei,SRel->Ej,CRel->Ek,VRel->El
open Array renaming any_eq_true'->Dp,getD_eq_getD_getElem?->Cu,getElem?_eq_getElem->Al,getElem?_eq_none->Cs,getElem?_eq_some_iff->Au,getElem?_toList->Af,length_toList->Bv,replicate->CN,setIfInBounds_comm->EO,toList_setIfInBounds->DB
open Bool renaming and_eq_true->AQ,false_eq_true->B0,not_eq_true'->Bf,or_eq_true->CI
open List renaming all_eq_true->Ao,filterMap_cons->B7,getElem?_append_left->Aa,getElem?_append_right->AO,getElem?_cons_zero->A7,getElem?_drop->A4,getElem?_eq_getElem->AL,getElem?_eq_none->A0,getElem?_eq_some_iff->AD,getElem?_map->Ac,getElem?_set_ne->A2,getElem?_set_self->Aw,getElem?_take_of_lt->By,isEmpty_iff->EP,length_append->AE,length_cons->AC,map_append->Aq,map_congr_left->B4,map_cons->AW,map_map->Bs,mem_cons->AY,mem_filterMap->CL,mem_flatMap->B1,mem_map->AN,mem_of_getElem?->AB,mem_range->Bt,range->An,range_succ->B9,set_append_right->Bg,set_set->BD,sum_append->B_,zip_cons_cons->B6
open Nat renaming add_assoc->AT,add_comm->CB,le_of_not_lt->B',le_refl->AS,lt_irrefl->Bu,lt_of_lt_of_le->BV,lt_or_ge->BW,sub_self->AP,sub_zero->BZ,zero_le->BS
namespace Go.AI
section
variable{P:Program}{n:Nat}{h:Ei}{ops:Array Oper}
def TS{o:Oper}{e:GO}(g:o.guard=none):nc ops e o=some true:=by simp[nc,g]
def L4.store{o:Oper}{t:TypeId}{a:Tmp}{x:Operand}{e:GO}{H T:Fl}{v:AV}(j:o.op = .store t (.tmp a) x)(hg:o.guard=none)(U:L4 P n h ops o e H v T):
  ∃(C g:Nat) (I J:List AV),GJ e a = .ptr C g/\H[C]? =some (some I)/\J.length=P.cellsOf t/\g+J.length<=I.length/\v = .undef/\T=H.set C (some (splice I g J)) /\
   ∀(O:Fl) (p:List AV),O[C]? =some (some p)->g+J.length<=p.length->L4 P n h ops o e O .undef (O.set C (some (splice p g J))):=by
 have hc:He h o=3:=by simp[He,j]
 unfold L4 at U;rw[TS hg]at U;obtain⟨hd,hf⟩:=U;have i:=hf.again (λv' V=>v'=v/\V=T) ⟨rfl,rfl⟩;have R:∃v2,(Pb P (IA o) (GU h o) o.op.operands.toList e).1=[GJ e a,v2]:=by
  have ht:GU h o=true:=by simp[GU,j]
  rw[ht,j];exact⟨_,rfl⟩
 obtain⟨v2,R⟩:=R;rw[R]at i;unfold GA at i;rw[j]at i;cases hl:GJ e a with
 | ptr C g =>
  rw[hl]at i;dsimp only at i;cases r:H[C]? with
  |none=>rw[r]at i;exact i.elim
  | some q =>
   cases q with
   |none=>rw[r]at i;exact i.elim
   |some I =>
    rw[r]at i;obtain⟨g1,g2,g3,g4,rfl,rfl⟩:=i;refine⟨C,g,I,v2.cells,rfl,r,g2,Fj,rfl,rfl,λO p k1 k2=>?_⟩;unfold L4;rw[TS hg];refine⟨hd, ?_⟩;refine Fact.any hc λR' hr'=>?_;rw[R,hl];simp only[GA,j,k1];exact⟨g1,g2,g3,Fj,hr'⟩
 |_=>rw[hl]at i;exact i.elim
def L4.pload{o:Oper}{t:TypeId}{a:Tmp}{e:GO}{H V:Fl}{v:AV}{I i:Nat}(j:o.op = .load t (.tmp a))(O:S5 h o=true)(hg:o.guard=none)(hl:GJ e a = .ptr I i)(ho:L4 P n h ops o e H v V):
  ∃(R:List AV) (x:AV),H[I]? =some (some R)/\Mb P t R i=some x/\v=x.borrow/\V=H /\
   ∀(J:Fl) (r:List AV),J[I]? =some (some r)->Mb P t r i=some x->L4 P n h ops o e J v J:=by
 have hc:=JF O;have T:o.dst.any h.tk.contains=false:=by simpa [S5,j]using O
 unfold L4 at ho;rw[TS hg]at ho;obtain⟨hd,hf⟩:=ho;have g:=hf.again (λU p=>U=v/\p=V) ⟨rfl,rfl⟩;have hv:(Pb P (IA o) (GU h o) o.op.operands.toList e).1=[.ptr I i]:=by
  have ht:GU h o=false:=by simp[GU,j]
  rw[ht,j];show[(GJ e a).borrow]=_;rw[hl];rfl
 rw[hv]at g;unfold GA at g;rw[j]at g;dsimp only at g;cases C:H[I]? with
 |none=>rw[C]at g;exact g.elim
 | some q =>
  cases q with
  |none=>rw[C]at g;exact g.elim
  | some R =>
   rw[C]at g;dsimp only at g;cases hx:Mb P t R i with
   |none=>rw[hx]at g;exact g.elim
   | some x =>
    rw[hx,T]at g;obtain⟨rfl,rfl⟩:=g;refine⟨R,x,rfl,hx,rfl,rfl,λJ r k1 k2=>?_⟩;have ha:GA P h o [.ptr I i] J λU p=>U=x.borrow/\p=J:=by
     simp only[GA,j,k1,k2,T];first|exact⟨rfl,rfl⟩|exact⟨trivial,trivial⟩
    obtain⟨U,p,⟨rfl,rfl⟩,hf2⟩:=Un Fj ha;unfold L4;rw[TS hg];refine⟨hd, ?_⟩;rw[hv];exact hf2
def K4(P:Program)(h:Ei)(o:Oper):Option (Tmp×Nat×Bool) :=
 match o.op,o.guard with
 |.store t (.tmp a) _,none=>some (a,P.cellsOf t,true)
 |.load t (.tmp a),none=>if S5 h o=true then some (a,ap P t,false)else none
 |_,_=>none
def SR{o:Oper}{a:Tmp}{k:Nat}{s:Bool}(g:K4 P h o=some (a,k,s)):o.guard=none /\
  ((s=true /\ ∃t x,o.op = .store t (.tmp a) x/\k=P.cellsOf t)\/(s=false /\ ∃t,o.op = .load t (.tmp a)/\S5 h o=true/\k=ap P t)):=by
 unfold K4 at g;split at g
 ·rename_i i j;cases g;exact⟨j,.inl ⟨rfl,_,_,i,rfl⟩⟩
 ·rename_i i j;split at g
  ·rename_i p;cases g;exact⟨j,.inr ⟨rfl,_,i,p,rfl⟩⟩
  ·cases g
 ·cases g
def K2(P:Program)(h:Ei)(x y:Oper)(e:GO):Prop :=
 match K4 P h x,K4 P h y with
 |some (a,k,s),some (b,l,g)=>(s=true\/g=true)/\match GJ e a,GJ e b with
  |.ptr i f1,.ptr j f2=>i≠j\/f1+k<=f2\/f2+l<=f1
  |_,_=>False
 |_,_=>False
def L4.swapAt{x y:Oper}{e e':GO}{H H1 H2:Fl}{v u:AV}(hx:L4 P n h ops x e H v H1)(hy:L4 P n h ops y e' H1 u H2)(p:K2 P h x y e)(hyl : ∀ b k s,K4 P h y=some (b,k,s)->GJ e' b=GJ e b):
  ∃H1',L4 P n h ops y e' H u H1'/\L4 P n h ops x e H1' v H2:=by
 unfold K2 at p;cases R:K4 P h x with
 |none=>rw[R]at p;exact p.elim
 | some px =>
  obtain⟨a,k,s⟩:=px;cases T:K4 P h y with
  |none=>rw[R,T]at p;exact p.elim
  | some py =>
   obtain⟨b,l,s'⟩:=py;rw[R,T]at p;obtain⟨hss,p⟩:=p;have U:=hyl b l s' T;cases hla:GJ e a<;>rw[hla]at p<;>first|exact p.elim|skip
   rename_i o1 f1;cases hlb':GJ e b<;>rw[hlb']at p<;>first|exact p.elim|skip
   rename_i o2 f2;rw[hlb']at U;obtain⟨gx,hx'⟩:=SR R;obtain⟨gy,hy'⟩:=SR T;rcases hx' with⟨rfl,t,z,ox,rfl⟩|⟨rfl,t,ox,ldx,rfl⟩
   ·obtain⟨ob,off,V,xs,e1,e2,e3,e4,rfl,rfl,i⟩:=hx.store ox gx;rw[hla]at e1;cases e1;have C:=(AD.1 e2).1;rcases hy' with⟨rfl,t',z',oy,rfl⟩|⟨rfl,t',oy,ldy,rfl⟩
    · -- two stores
     obtain⟨ob',off',I,ys,O,r,k3,k4,rfl,rfl,g⟩:=hy.store oy gy;rw[U]at O;cases O;by_cases j:o1=o2
     ·subst j;rw[Aw C]at r;cases r;have o:f1+xs.length<=f2\/f2+ys.length<=f1:=by rw[e3,k3];exact p.resolve_left (λJ=>J rfl)
      have hle:f2+ys.length<=V.length:=by rw[LD e4]at k4;exact k4
      refine⟨_,g H V e2 hle, ?_⟩;have:=i (H.set o1 (some (splice V f2 ys))) (splice V f2 ys) (Aw C) (by rw[LD hle];exact e4);rw[BD]at this ⊢;rw[iC o e4 hle];exact this
     ·rw[A2 j]at r;refine⟨_,g H I r k4, ?_⟩;have:=i (H.set o2 (some (splice I f2 ys))) V (by rw[A2 (Ne.symm j)];exact e2) e4;rw[List.set_comm _ _ j];exact this
    · -- a store,a load behind it
     obtain⟨I,w,O,r,rfl,rfl,g⟩:=hy.pload oy ldy gy U;by_cases j:o1=o2
     ·subst j;rw[Aw C]at O;cases O;have o:f2+ap P t'<=f1\/f1+xs.length<=f2:=by rw[e3];exact(p.resolve_left (λJ=>J rfl)).symm
      rw[XH o e4]at r;exact⟨H,g H V e2 r,hx⟩
     ·rw[A2 j]at O;exact⟨H,g H I O r,hx⟩
   ·obtain⟨V,w,e1,e2,rfl,rfl,i⟩:=hx.pload ox ldx gx hla;rcases hy' with⟨rfl,t',z',oy,rfl⟩|⟨rfl,t',oy,ldy,rfl⟩
    · -- a load,a store behind it
     obtain⟨ob',off',I,ys,O,r,k3,k4,rfl,rfl,g⟩:=hy.store oy gy;rw[U]at O;cases O;have C:=(AD.1 r).1;refine⟨_,hy, ?_⟩;by_cases j:o1=o2
     ·subst j;rw[e1]at r;cases r;have o:f1+ap P t<=f2\/f2+ys.length<=f1:=by rw[k3];exact p.resolve_left (λJ=>J rfl)
      exact i _ (splice V f2 ys) (Aw C) (by rw[XH o k4];exact e2)
     ·exact i _ V (by rw[A2 (Ne.symm j)];exact e1) e2
    ·rcases hss with h|h<;>cases h
end
end Go.AI
namespace Go.AI
section
variable{P:Program}{n:Nat}{h:Ei}{ops:Array Oper}
def Xi(h:Ei)(ops:Array Oper)(x y:Oper):Bool :=
 x.apart ops y&&(JN h x).all (λt => !(y.looksAt ops).contains t)&&(JN h y).all (λt => !(x.looksAt ops).contains t)
def kH{x y:Oper}(i:Xi h ops x y=true):(∀d,x.dst=some d->d∉y.looksAt ops)/\(∀d,x.dst=some d->y.dst≠some d)/\(∀d,y.dst=some d->d∉x.looksAt ops) /\
  (∀t∈JN h x,t∉y.looksAt ops)/\(∀t∈JN h y,t∉x.looksAt ops):=by
 simp only[Xi,AQ]at i;obtain⟨⟨j,o⟩,p⟩:=i;obtain⟨r,C,I⟩:=Oper.apart_spec j;exact⟨r,C,I,λt g=>by simpa using Ao.1 o t g,λt g=>by simpa using Ao.1 p t g⟩
def bk{o:Oper}{q:Tmp×Nat×Bool}(i:K4 P h o=some q):He h o≠4:=by
 obtain⟨a,k,s⟩:=q;obtain⟨_,j⟩:=SR i;rcases j with⟨_,t,x,g,_⟩|⟨_,t,g,p,_⟩
 ·simp[He,g]
 ·have:=JF p;omega
def ri{x y:Oper}{K:GO->Fl->Prop}{e:GO}{H:Fl}(hi:Xi h ops x y=true)(g:K2 P h x y e)(hK:SX K)(ha:JK P n h ops x (JK P n h ops y K) e H):JK P n h ops y (JK P n h ops x K) e H:=by
 obtain⟨i1,i2,i3,i4,i5⟩:=kH hi;have U:He h x≠4:=by
  unfold K2 at g;cases p:K4 P h x with
  |none=>rw[p]at g;exact g.elim
  |some q=>exact bk p
 have V:He h y≠4:=by
  unfold K2 at g;cases O:K4 P h y with
  |none=>rw[O]at g;cases p:K4 P h x<;>rw[p]at g<;>exact g.elim
  |some q=>exact bk O
 obtain⟨v,H1,hx,hya⟩:=MW U ha;obtain⟨u,H2,hy,hk⟩:=MW V hya;have I:∀t∈y.looksAt ops,GJ (Vb P h ops x e v) t=GJ e t:=λt R=>Ig (λg=>i1 t g R) (λJ=>i4 t J R);have hy':=hy.env I;obtain⟨H1',hy2,hx2⟩:=hx.swapAt hy' g λ_ _ _ _=>rfl;have T:∀t∈x.looksAt ops,GJ e t=GJ (Vb P h ops y e u) t:=λt R=>(Ig (λg=>i3 t g R) (λJ=>i5 t J R)).symm;have hx3:=hx2.env T;refine WH hy2 (WH hx3 (hK _ _ _ (λt=>?_) hk));by_cases j:y.dst=some t
 ·have i:x.dst≠some t:=λg=>i2 t g j;have r:t∉JN h x:=λJ=>i3 t j (Jn J);rw[Ig (o:=x) (e:=Vb P h ops y e u) i r];exact LB I (.inl j)
 ·by_cases C:t∈JN h y
  ·have i:x.dst≠some t:=λg=>i1 t g (Jn C);have r:t∉JN h x:=λJ=>i4 t J (Jn C);rw[Ig (o:=x) (e:=Vb P h ops y e u) i r];exact LB I (.inr (Ig i r))
  ·rw[Ig (o:=y) j C];refine LB T ?_;by_cases i:x.dst=some t
   ·exact .inl i
   ·exact .inr (Ig j C).symm
def YL{v:AV}{a b:Nat}(h:v.borrow = .ptr a b):v = .ptr a b:=by
 cases v<;>first|exact h|cases h
def AIT{i:Option TypeId}{take:Bool}{x:Operand}{e:GO}{t:Tmp}{a b:Nat}(g:GJ (OC P i take x e).2 t = .ptr a b):GJ e t = .ptr a b:=by
 cases take with
 |false=>exact g
 | true =>
  simp only[OC]at g;split at g
  ·simp only[GJ]at g;split at g
   ·rename_i j;subst j;exact YL g
   ·exact g
  ·exact g
def ti{i:Option TypeId}{take:Bool}{t:Tmp}{a b:Nat}: ∀{xs:List Operand} {e:GO},GJ (Pb P i take xs e).2 t = .ptr a b->GJ e t = .ptr a b
 |[],e,g=>g
 |x::xs,e,g=>AIT (ti (xs:=xs) g)
def bt{o:Oper}{e:GO}{v:AV}{t:Tmp}(i:o.dst≠some t){a b:Nat}(g:GJ (Vb P h ops o e v) t = .ptr a b):GJ e t = .ptr a b:=by
 unfold Vb at g;split at g<;>rw[St,iN i]at g
 ·exact ti g
 ·exact g
end
end Go.AI
namespace Go.AI
def RD(P:Program)(n:Nat)(h:Ei)(ops:Array Oper)(K:GO->Fl->Prop):Nat->Array Bool->GO->Fl->Prop
 | 0,g=>λe H=>Region.ready .any ops g=[]/\K e H
 | j+1,g=>λe H=>(Region.ready .any ops g=[]->K e H) /\
   ∀i∈Region.ready .any ops g,∃o,ops[i]? =some o/\JK P n h ops o (RD P n h ops K j (g.setIfInBounds i true)) e H
def Qs{g:Array Bool}{k:Nat}(h:g.getD k false=true):g.getD k true=true:=by
 rw[Cu]at h ⊢;cases i:g[k]? with
 |none=>rfl
 |some b=>rw[i]at h;exact h
def IR(ops:Array Oper):Nat->Nat->Nat->Bool
 | 0,_,_=>false
 |f+1,j,i=>match ops[j]? with
  |none=>false
  |some g=>g.after.any λe=>Region.binds .any e&&(e.on==i||IR ops f e.on i)
def Cl(ops:Array Oper)(g:Array Bool):Prop:=∀(m:Nat) (i:Oper),ops[m]? =some i->g.getD m true=true -> ∀e∈i.after,Region.binds .any e=true->g.getD e.on true=true
def Jo{ops:Array Oper}{g:Array Bool}(o:Cl ops g){i:Nat}: ∀(f j:Nat),IR ops f j i=true->(∀p,ops[j]? =some p -> ∀e∈p.after,Region.binds .any e=true->g.getD e.on true=true)->g.getD i true=true
 | 0,j,h,_=>by cases h
 | f+1,j,h,O=>by
  unfold IR at h;split at h
  ·cases h
  ·rename_i p P;obtain⟨e,R,r⟩:=Dp.1 h;simp only[AQ,CI,beq_iff_eq]at r;have J:=O p P e R r.1;rcases r.2 with t|t
   ·rw[<- t];exact J
   ·exact Jo o f e.on t λT U V C I=>o e.on T U J V C I
def Cl.add{ops:Array Oper}{g:Array Bool}(t:Cl ops g){j:Nat}(P:j∈Region.ready .any ops g):Cl ops (g.setIfInBounds j true):=by
 have mono:∀k,g.getD k true=true->(g.setIfInBounds j true).getD k true=true:=λk R=>by
  by_cases i:j=k
  ·subst i;rw[Cu,Array.getElem?_setIfInBounds_self];split<;>rfl
  ·rw[getD_set_ne true i];exact R
 intro m T C I e J O;by_cases o:j=m
 ·subst o;obtain⟨_,U,p,r⟩:=mem_ready.1 P;rw[C]at p;cases p;refine mono _ ?_;exact Qs (r e J O)
 ·rw[getD_set_ne true o]at I;exact mono _ (t m T C I e J O)
def uS(h:Ei)(ops:Array Oper)(g:Array Bool)(i:Nat):Bool :=
 match ops[i]? with
 |none=>false
 | some p=>(An ops.size).all λj=>j==i||g.getD j true||match ops[j]? with
   |some o=>o.after.any (λe=>Region.binds .any e&&e.on==i)||Mw h ops p o||IR ops 9 j i
   |none=>true
def QN(h:Ei)(ops:Array Oper):Nat->Nat->Array Bool->Bool
 | 0,_,g=>(Region.ready .any ops g).isEmpty
 |i+1,k,g=>(Region.ready .any ops g).contains k&&uS h ops g k&&QN h ops i (k+1) (g.setIfInBounds k true)
def qf(h:Ei)(ops:Array Oper):Bool:=QN h ops ops.size 0 (CN ops.size false)
def mH(h:Ei)(ops:Array Oper):List Nat->Array Bool->Bool
 |[],g=>(Region.ready .any ops g).isEmpty
 |k::r,g=>(Region.ready .any ops g).contains k&&uS h ops g k&&mH h ops r (g.setIfInBounds k true)
def dW(h:Ei)(ops:Array Oper)(l:List Nat):Bool:=l.length==ops.size&&mH h ops l (CN ops.size false)
section
variable{P:Program}{n:Nat}{h:Ei}{ops:Array Oper}{K:GO->Fl->Prop}
def Q5(C:SX K): ∀(j:Nat) (g:Array Bool),SX (RD P n h ops K j g)
 | 0,g=>λe r H t p=>⟨p.1,C e r H t p.2⟩
 | j+1,g=>λe r H t p=>⟨λI=>C e r H t (p.1 I),λi J =>
   let⟨o,O,R⟩:=p.2 i J
   ⟨o,O,AF_ (Q5 C j _) e r H t R⟩⟩
def YW(hK:SX K){i:Nat}{oi:Oper}(hi:ops[i]? =some oi): ∀ (p:Nat) (g:Array Bool) (e:GO) (H:Fl),
  (∀(j:Nat) (T:Oper),ops[j]? =some T->j≠i->g.getD j true=false->(∀e∈T.after,Region.binds .any e=true->e.on≠i)->IR ops 9 j i=false->Mw h ops oi T=true)->Cl ops g ->
  i∈Region.ready .any ops g->JK P n h ops oi (RD P n h ops K p (g.setIfInBounds i true)) e H->RD P n h ops K (p+1) g e H:=by
 intro p;induction p with
 | zero =>
  intro g e H r hcl hr ha;refine⟨λR=>(by rw[R]at hr;cases hr),λj hj=>?_⟩;by_cases t:j=i
  ·subst t;exact⟨oi,hi,ha⟩
  ·obtain⟨O,T,J,I⟩:=mem_ready.1 hj;have U:∀e∈T.after,Region.binds .any e=true->e.on≠i:=λe he hb heq=>by
    have C:=I e he hb;have R:=(mem_ready.1 hr).1;rw[heq]at C;rcases BW i g.size with h'|h'
    ·simp[h']at R C;rw[R]at C;cases C
    ·simp[Cs h']at C
   have V:IR ops 9 j i=false:=by
    cases hR:IR ops 9 j i with
    |false=>rfl
    | true =>
     have C:=Jo hcl 9 j hR λoj' hj' e he hb=>by
      rw[J]at hj';cases hj';exact Qs (I e he hb)
     have R:=(mem_ready.1 hr).1;rw[R]at C;cases C
   have hind:=r j T J t O U V;have hx4:He h oi≠4:=by
    have i6:=(Xh hind).2.2.2.2.2;intro h4;rcases i6 with i6|i6
    ·rw[h4]at i6;simp[X8]at i6
    ·have:=JF i6.1;omega
   obtain⟨v,H',_,h2⟩:=MW hx4 ha;have:=ready_mono hj t;rw[h2.1]at this;cases this
 | succ p ih =>
  intro g e H r hcl hr ha;refine⟨λR=>(by rw[R]at hr;cases hr),λj hj=>?_⟩;by_cases t:j=i
  ·subst t;exact⟨oi,hi,ha⟩
  ·obtain⟨O,T,J,I⟩:=mem_ready.1 hj;have U:∀e∈T.after,Region.binds .any e=true->e.on≠i:=λe he hb heq=>by
    have C:=I e he hb;have R:=(mem_ready.1 hr).1;rw[heq]at C;rcases BW i g.size with h'|h'
    ·simp[h']at R C;rw[R]at C;cases C
    ·simp[Cs h']at C
   have V:IR ops 9 j i=false:=by
    cases hR:IR ops 9 j i with
    |false=>rfl
    | true =>
     have C:=Jo hcl 9 j hR λoj' hj' e he hb=>by
      rw[J]at hj';cases hj';exact Qs (I e he hb)
     have R:=(mem_ready.1 hr).1;rw[R]at C;cases C
   have hind:=r j T J t O U V;have C:JK P n h ops oi (JK P n h ops T (RD P n h ops K p ((g.setIfInBounds i true).setIfInBounds j true))) e H:=by
    refine Lz (λe' H' h2=>?_) ha;obtain⟨o,ho,h3⟩:=h2.2 j (ready_mono hj t);rw[J]at ho;cases ho;exact h3
   have h2:=mA hind (Q5 hK p _) C;have hfree':∀(k:Nat) (ok:Oper),ops[k]? =some ok->k≠i->(g.setIfInBounds j true).getD k true=false->(∀e∈ok.after,Region.binds .any e=true->e.on≠i)->IR ops 9 k i=false->Mw h ops oi ok=true:=λk ok hk hki hun hno V=>by
    refine r k ok hk hki ?_ hno V;by_cases hjk:j=k
    ·subst hjk;exact O
    ·rw[getD_set_ne true hjk]at hun;exact hun
   refine⟨T,J,Lz (λe' H' h3=>ih (g.setIfInBounds j true) e' H' hfree' (hcl.add hj) (ready_mono hr (Ne.symm t)) ?_) h2⟩;rw[EO _ _ t];exact h3
def YS{i:Nat}{O:Oper}{g:Array Bool}(T:ops[i]? =some O)(P:uS h ops g i=true)(j:Nat)(p:Oper)
  (R:ops[j]? =some p)(r:j≠i)(t:g.getD j true=false)(C:∀e∈p.after,Region.binds .any e=true->e.on≠i)(I:IR ops 9 j i=false):Mw h ops O p=true:=by
 simp only[uS,T,Ao,Bt]at P;have o:=P j (Au.1 R).1;simp only[R,CI,beq_iff_eq,r,false_or,t,B0,I,or_false]at o;rcases o with o|o
 ·obtain⟨e,U,J⟩:=Dp.1 o;simp only[AQ,beq_iff_eq]at J;exact absurd J.2 (C e U J.1)
 ·exact o
def mP(I:SX K): ∀(l:List Oper) (k:Nat) (g:Array Bool) (e:GO) (H:Fl),(∀j,l[j]? =ops[k+j]?)->QN h ops l.length k g=true->Cl ops g->MB P n h ops l K e H ->
  RD P n h ops K l.length g e H
 |[],_,_,_,_,_,r,_,t=>⟨by simpa [QN]using r,t⟩
 |o::l,k,g,e,H,J,r,i,t=>by
  have O:ops[k]? =some o:=by simpa using(J 0).symm
  simp only[AC,QN,AQ]at r;obtain⟨⟨R,T⟩,C⟩:=r;have p:k∈Region.ready .any ops g:=by simpa using R
  refine YW I O l.length g e H (YS O T) i p ?_;exact Lz (λU V h1=>mP I l (k+1) _ U V (λj=>by have:=J (j+1);simpa [AT,CB 1 j]using this) C (i.add p) h1) t
def mO(J:SX K): ∀(l:List Nat) (g:Array Bool) (e:GO) (H:Fl),mH h ops l g=true->Cl ops g->MB P n h ops (l.filterMap λi=>ops[i]?) K e H ->
  RD P n h ops K l.length g e H
 |[],_,_,_,r,_,t=>⟨by simpa [mH]using r,t⟩
 |k::l,g,e,H,r,p,t=>by
  simp only[mH,AQ]at r;obtain⟨⟨O,R⟩,C⟩:=r;have j:k∈Region.ready .any ops g:=by simpa using O
  obtain⟨_,o,I,_⟩:=mem_ready.1 j;rw[B7,I]at t;refine YW J I l.length g e H (YS I R) p j ?_;exact Lz (λT U V=>mO J l _ T U C (p.add j) V) t
def O5{ro:Option Nat}{nn:Nat}{F:Nat->Prop}(Q:Exit->Act->World->Prop): ∀(j:Nat) (g:Array Bool) (G:Gh) (env:GO) (H:Fl) (a:Act) (w:World),Ej F G n env H a w->RD P n h ops K j g env H ->
  (∀r t,OP F G w n K r t->Q .normal r t)->wpAnyIn (gV ro) nn P .any ops Q j g a w
 | 0,g,G,env,H,a,w,O,C,R=>⟨C.1,R a w ⟨env,H,G,C.2,O,.refl F G w⟩⟩
 | j+1,g,G,env,H,a,w,O,C,R=>by
  refine⟨λhr=>R a w ⟨env,H,G,C.1 hr,O,.refl F G w⟩,λi hi=>?_⟩;obtain⟨o,ho,h1⟩:=C.2 i hi;have p:=mB (ro:=ro) (nn:=nn) O h1 Q;have next:∀r t,OP F G w n (RD P n h ops K j (g.setIfInBounds i true)) r t->wpAnyIn (gV ro) nn P .any ops Q j (g.setIfInBounds i true) r t:=by
   rintro r t ⟨I,H',G',hK,T,he⟩;refine O5 Q j _ G' I H' r t T hK λU V=>?_;rintro ⟨J,H2,G2,hK2,hs2,he2⟩;exact R U V ⟨J,H2,G2,hK2,hs2,he.trans he2⟩
  unfold wpOpIn;rw[ho];simp only;split
  ·rename_i hw;rw[iP hw]at p;exact Oper.wpIn_mono next p
  ·rename_i hw;rw[iN hw]at p;exact⟨λ_ _=>trivial,next _ _ p⟩
def SRel.draw{F:Nat->Prop}{G:Gh}{env:GO}{H:Fl}{a:Act}{w:World}(g:Ej F G n env H a w):Ej F G n env H a w.drew:=⟨g.size,g.defers,g.out,g.c.draw⟩
def eH{I:Option Nat}{J:Nat}{F:Nat->Prop}{G:Gh}{env:GO}{H:Fl}{a:Act}{w:World}{id:Nat}(Q:Exit->Act->World->Prop)(o:P.follows .mixedOrders=true)(O:SX K)(R:qf h ops=true)
  (T:Ej F G n env H a w)(U:MB P n h ops ops.toList K env H)(V:∀i j,OP F G w n K i j->Q .normal i j):(Code.region id ops true).wpIn (gV I) J P Q a w:=by
 refine wpIn_region_any o ?_;have C:=mP (P:=P) (n:=n) (h:=h) (ops:=ops) O ops.toList 0 (CN ops.size false) env H F3 (by simpa [qf]using R) (λm om o hl=>by
  have p:=(Au.1 o).1;simp[Cu,p]at hl) U
 rw[Bv]at C;refine O5 (F:=F) Q ops.size _ G env H a w.drew T.draw C λi j=>?_;rintro ⟨g,H',G',r,t,he⟩;exact V i j ⟨g,H',G',r,t,Ik.trans he⟩
def Zh{O:Option Nat}{R:Nat}{F:Nat->Prop}{G:Gh}{env:GO}{H:Fl}{a:Act}{w:World}{id:Nat}(l:List Nat)(Q:Exit->Act->World->Prop)(p:P.follows .mixedOrders=true)(T:SX K)(r:dW h ops l=true)
  (U:Ej F G n env H a w)(V:MB P n h ops (l.filterMap λi=>ops[i]?) K env H)(hQ:∀j o,OP F G w n K j o->Q .normal j o):(Code.region id ops true).wpIn (gV O) R P Q a w:=by
 refine wpIn_region_any p ?_;simp only[dW,AQ,beq_iff_eq]at r;have J:=mO (P:=P) (n:=n) (h:=h) (ops:=ops) T l (CN ops.size false) env H r.2 (λm om p hl=>by
  have t:=(Au.1 p).1;simp[Cu,t]at hl) V
 rw[r.1]at J;refine O5 (F:=F) Q ops.size _ G env H a w.drew U.draw J λj o=>?_;rintro ⟨g,H',G',C,I,he⟩;exact hQ j o ⟨g,H',G',C,I,Ik.trans he⟩
def IQ(g:List Tmp)(e:GO):GO:=g.map λt=>(t,GJ e t)
def pT(g:List Tmp)(e:GO)(t:Tmp):GJ (IQ g e) t=GJ e t\/GJ (IQ g e) t = .undef:=by
 induction g with
 |nil=>exact .inr rfl
 |cons x l i =>
  simp only[IQ,AW,GJ];split
  ·rename_i j;subst j;exact .inl rfl
  ·exact i
def lW(g:List Tmp){e i:GO}(j:∀t,GJ e t=GJ i t):IQ g e=IQ g i:=by
 simp[IQ,j]
def U8(b:Nat): ∀(j g:List AV) (o:List Value),j.length=g.length->(∀i:Nat,g[i]? =j[i]?\/g[i]? =some .undef)->Hm b g o<=Hm b j o
 |[],[],o,_,_=>AS _
 |[],_::_,_,h,_=>by simp at h
 |_::_,[],_,h,_=>by simp at h
 |v::j,r::g,[],_,_=>by simp[Hm]
 |v::j,r::g,u::o,t,h=>by
  rw[Fx,Fx];have C:=U8 b j g o (by simpa using t) (λi=>by simpa using h (i+1));have p:=h 0;simp only[A7,Option.some.injEq]at p;rcases p with rfl|rfl
  ·omega
  ·rw[IF];simp only[List.count_nil];omega
def SRel.forget{F:Nat->Prop}{G:Gh}{env g:GO}{H:Fl}{a:Act}{w:World}(p:Ej F G n env H a w)(I:∀t,GJ g t=GJ env t\/GJ g t = .undef):Ej F G n g H a w:=by
 have o:∀i:Nat,(HQ n g)[i]? =(HQ n env)[i]?\/(HQ n g)[i]? =some .undef:=by
  intro i;by_cases J:i<n
  ·rw[I0 _ J,I0 _ J];rcases I i with j|j
   ·exact .inl (by rw[j])
   ·exact .inr (by rw[j])
  ·exact .inl (by rw[A0 (by rw[H9];omega),A0 (by rw[H9];omega)])
 refine⟨p.size,p.defers,λt O=>?_,⟨by rw[H9];simp[p.size],λi x u j C=>?_,λi x u j C=>?_⟩,p.c.h,λb=>?_⟩
 ·rcases I t with j|j
  ·rw[j];exact p.out t O
  ·exact j
 ·rcases o i with r|r
  ·rw[r]at j;exact p.c.l.rel i x u j C
  ·rw[r]at j;cases j;exact .undef u
 ·rcases o i with r|r
  ·rw[r]at j;exact p.c.l.tok i x u j C
  ·rw[r]at j;cases j;exact GC (IF u) F G w
 ·have j:=U8 b (HQ n env) (HQ n g) a.tmps.toList (by simp[H9]) o;have C:=p.c.cnt b;omega
end
end Go.AI
namespace Go.AI
section
variable{P:Program}{n:Nat}{h:Ei}{ops:Array Oper}{K:GO->Fl->Prop}
def mR(p:∀(i:Nat) (o:Oper),ops[i]? =some o->He h o≠4): ∀(j:Nat) (g:Array Bool) (e:GO) (H:Fl),RD P n h ops K j g e H ->
  ∃J T,K J T /\ ∀(t:Tmp) (a b:Nat),(∀(k:Nat) (O:Oper),ops[k]? =some O->g.getD k true=false->O.dst≠some t)->GJ J t = .ptr a b->GJ e t = .ptr a b
 | 0,g,e,H,R=>⟨e,H,R.2,λ_ _ _ _ h=>h⟩
 | j+1,g,e,H,R=>by
  cases hr:Region.ready .any ops g with
  |nil=>exact⟨e,H,R.1 hr,λ_ _ _ _ h=>h⟩
  |cons i r =>
   have U:i∈Region.ready .any ops g:=by rw[hr];simp
   obtain⟨o,ho,h1⟩:=R.2 i U;obtain⟨v,H1,_,h2⟩:=MW (p i o ho) h1;obtain⟨J,T,V,hl⟩:=mR p j _ _ _ h2;refine⟨J,T,V,λt a b hw hp=>bt (hw i o ho (mem_ready.1 U).1) (hl t a b (λk O V C=>?_) hp)⟩;refine hw k O V ?_;by_cases I:i=k
   ·subst I;exact(mem_ready.1 U).1
   ·rw[getD_set_ne true I]at C;exact C
def AJL(h:Ei)(o:Oper):Option (Tmp×Bool) :=
 match o.op,o.guard with
 |.store _ (.tmp a) _,none=>some (a,true)
 |.load _ (.tmp a),none=>if S5 h o=true then some (a,false)else none
 |_,_=>none
def bj{o:Oper}{a:Tmp}{s:Bool}(g:AJL h o=some (a,s)): ∃k,K4 P h o=some (a,k,s):=by
 unfold AJL at g;unfold K4;split at g
 ·rename_i i j;cases g;first|(rw[i,j];exact⟨_,rfl⟩)|exact⟨_,rfl⟩
 ·rename_i i j;split at g
  ·rename_i p;cases g;first|(rw[i,j];exact⟨_,by simp only[p,if_true];rfl⟩)|exact⟨_,by simp only[p,if_true];rfl⟩
  ·cases g
 ·cases g
def AEt(ops:Array Oper)(i:Nat)(a:Tmp):Bool:=(An ops.size).all λk=>match ops[k]? with
 |some g => !(g.dst==some a)||IR ops 9 i k
 |none=>true
def dU(h:Ei)(ops:Array Oper)(i:Nat)(g:Oper)(j:Nat)(o:Oper):Bool :=
 decide (i<j)&&(Xi h ops g o&&match AJL h g,AJL h o with
  |some (a,s),some (b,p)=>(s||p)&&AEt ops i a&&AEt ops j b
  |_,_=>false)
def no4(h:Ei)(ops:Array Oper):Bool:=ops.toList.all λo => !(He h o==4)
def TD(h:Ei)(ops:Array Oper):List (Oper×Oper):=(An ops.size).flatMap λi=>(An ops.size).filterMap λj=>match ops[i]?,ops[j]? with
 |some g,some o=>if(!(i==j) && !(Mw h ops g o)&&dU h ops i g j o && !(IR ops 9 j i))=true then some (g,o)else none
 |_,_=>none
def KQ(P:Program)(h:Ei)(ops:Array Oper)(e:GO):Prop:=∀p∈TD h ops,K2 P h p.1 p.2 e
def AE7{i j:Nat}{g o:Oper}(r:ops[i]? =some g)(t:ops[j]? =some o)(p:i≠j)(C:Mw h ops g o=false)(I:dU h ops i g j o=true)(J:IR ops 9 j i=false):(g,o)∈TD h ops:=by
 refine B1.2 ⟨i,Bt.2 (Au.1 r).1,CL.2 ⟨j,Bt.2 (Au.1 t).1, ?_⟩⟩;rw[r,t];simp[p,C,I,J]
def AEs{i k:Nat}{a:Tmp}{g:Oper}(o:AEt ops i a=true)(j:ops[k]? =some g)(p:g.dst=some a):IR ops 9 i k=true:=by
 have:=Ao.1 o k (Bt.2 (Au.1 j).1);simp only[j,p]at this;simpa using this
def ABH(hn4:no4 h ops=true)(hKD:∀e H,K e H->KQ P h ops e){i j:Nat}{I J:Oper}(O:ops[i]? =some I)(R:ops[j]? =some J)(hne:i≠j){g:Array Bool}(hcl:Cl ops g)
  (hi:i∈Region.ready .any ops g)(hj:j∈Region.ready .any ops g)(h1:Mw h ops I J=false)(t:dU h ops i I j J=true)(h3:IR ops 9 j i=false){C:Nat}{e:GO}{H:Fl}
  (ha:JK P n h ops I (JK P n h ops J (RD P n h ops K C ((g.setIfInBounds i true).setIfInBounds j true))) e H):K2 P h I J e:=by
 have T:∀(i:Nat) (o:Oper),ops[i]? =some o->He h o≠4:=λi o ho h4=>by
  have:=Ao.1 hn4 o (by rw[<- Af]at ho;exact AB ho);simp[h4]at this
 obtain⟨v,H1,_,ha1⟩:=MW (T i I O) ha;obtain⟨u,H2,_,ha2⟩:=MW (T j J R) ha1;obtain⟨e',H',V,hl⟩:=mR T C _ _ _ ha2;have p:=hKD e' H' V _ (AE7 O R hne h1 t h3);have U:∀{m:Nat} {a:Tmp},m∈Region.ready .any ops g->AEt ops m a=true -> ∀(k:Nat) (ok:Oper),ops[k]? =some ok->g.getD k true=false->ok.dst≠some a:=λ{m a} hm hf k ok V r hd=>by
  obtain⟨_,om,hom,hall⟩:=mem_ready.1 hm;have:=Jo hcl 9 m (AEs hf V hd) λoj' hj' e he hb=>by
   rw[hom]at hj';cases hj';exact Qs (hall e he hb)
  rw[this]at r;cases r
 have now:∀{m:Nat} {a:Tmp} {x y:Nat},m∈Region.ready .any ops g->AEt ops m a=true->GJ e' a = .ptr x y->GJ e a = .ptr x y:=λ{m a x y} hm hf hp=>by
  have q:=U hm hf;refine bt (q i I O (mem_ready.1 hi).1) (bt (q j J R (mem_ready.1 hj).1) (hl a x y (λk ok V r=>q k ok V ?_) hp));by_cases hjk:j=k
  ·subst hjk;exact(mem_ready.1 hj).1
  ·rw[getD_set_ne true hjk]at r;by_cases hik:i=k
   ·subst hik;exact(mem_ready.1 hi).1
   ·rw[getD_set_ne true hik]at r;exact r
 simp only[dU,AQ]at t;replace t:=t.2;obtain⟨_,t⟩:=t;split at t
 ·rename_i a s b s' ha' hb';simp only[AQ]at t;obtain⟨⟨_,fa⟩,fb⟩:=t;obtain⟨k,hka⟩:=bj (P:=P) ha';obtain⟨l,hlb⟩:=bj (P:=P) hb';unfold K2 at p ⊢;simp only[hka,hlb]at p ⊢;refine⟨p.1, ?_⟩;have p:=p.2;split at p
  ·rename_i o1 f1 o2 f2 e1 e2;rw[now hi fa e1,now hj fb e2];exact p
  ·exact p.elim
 ·cases t
def mQ(hn4:no4 h ops=true)(hKD : ∀ e H,K e H->KQ P h ops e)(hK:SX K){i:Nat}{R:Oper}(hi:ops[i]? =some R): ∀ (p:Nat) (g:Array Bool) (e:GO) (H:Fl),
  (∀(j:Nat) (O:Oper),ops[j]? =some O->j≠i->g.getD j true=false->(∀e∈O.after,Region.binds .any e=true->e.on≠i)->IR ops 9 j i=false->Mw h ops R O=true\/dU h ops i R j O=true)->Cl ops g ->
  i∈Region.ready .any ops g->JK P n h ops R (RD P n h ops K p (g.setIfInBounds i true)) e H->RD P n h ops K (p+1) g e H:=by
 intro p;induction p with
 | zero =>
  intro g e H C hcl hr ha;refine⟨λU=>(by rw[U]at hr;cases hr),λj hj=>?_⟩;by_cases r:j=i
  ·subst r;exact⟨R,hi,ha⟩
  ·obtain⟨T,O,I,J⟩:=mem_ready.1 hj;have hnot:∀e∈O.after,Region.binds .any e=true->e.on≠i:=λe he hb heq=>by
    have t:=J e he hb;have U:=(mem_ready.1 hr).1;rw[heq]at t;rcases BW i g.size with h'|h'
    ·simp[h']at U t;rw[U]at t;cases t
    ·simp[Cs h']at t
   have V:IR ops 9 j i=false:=by
    cases hR:IR ops 9 j i with
    |false=>rfl
    | true =>
     have t:=Jo hcl 9 j hR λoj' hj' e he hb=>by
      rw[I]at hj';cases hj';exact Qs (J e he hb)
     have U:=(mem_ready.1 hr).1;rw[U]at t;cases t
   have hind:=C j O I r T hnot V;have hx4:He h R≠4:=λh4=>by
    have:=Ao.1 hn4 R (by rw[<- Af]at hi;exact AB hi);simp[h4]at this
   obtain⟨v,H',_,h2⟩:=MW hx4 ha;have:=ready_mono hj r;rw[h2.1]at this;cases this
 | succ p ih =>
  intro g e H C hcl hr ha;refine⟨λU=>(by rw[U]at hr;cases hr),λj hj=>?_⟩;by_cases r:j=i
  ·subst r;exact⟨R,hi,ha⟩
  ·obtain⟨T,O,I,J⟩:=mem_ready.1 hj;have hnot:∀e∈O.after,Region.binds .any e=true->e.on≠i:=λe he hb heq=>by
    have t:=J e he hb;have U:=(mem_ready.1 hr).1;rw[heq]at t;rcases BW i g.size with h'|h'
    ·simp[h']at U t;rw[U]at t;cases t
    ·simp[Cs h']at t
   have V:IR ops 9 j i=false:=by
    cases hR:IR ops 9 j i with
    |false=>rfl
    | true =>
     have t:=Jo hcl 9 j hR λoj' hj' e he hb=>by
      rw[I]at hj';cases hj';exact Qs (J e he hb)
     have U:=(mem_ready.1 hr).1;rw[U]at t;cases t
   have hind:=C j O I r T hnot V;have t:JK P n h ops R (JK P n h ops O (RD P n h ops K p ((g.setIfInBounds i true).setIfInBounds j true))) e H:=by
    refine Lz (λe' H' h2=>?_) ha;obtain⟨o,ho,h3⟩:=h2.2 j (ready_mono hj r);rw[I]at ho;cases ho;exact h3
   have h2:JK P n h ops O (JK P n h ops R (RD P n h ops K p ((g.setIfInBounds i true).setIfInBounds j true))) e H:=by
    cases hb:Mw h ops R O with
    |true=>exact mA hb (Q5 hK p _) t
    | false =>
     have hdy:=hind.resolve_left (by rw[hb];simp);have hap:=ABH hn4 hKD hi I (Ne.symm r) hcl hr hj hb hdy V t;have hs:Xi h ops R O=true:=by
      simp only[dU,AQ]at hdy;replace hdy:=hdy.2;exact hdy.1
     exact ri hs hap (Q5 hK p _) t
   have hfree':∀(k:Nat) (ok:Oper),ops[k]? =some ok->k≠i->(g.setIfInBounds j true).getD k true=false->(∀e∈ok.after,Region.binds .any e=true->e.on≠i)->IR ops 9 k i=false->Mw h ops R ok=true\/dU h ops i R k ok=true:=λk ok hk hki hun hno V=>by
    refine C k ok hk hki ?_ hno V;by_cases hjk:j=k
    ·subst hjk;exact T
    ·rw[getD_set_ne true hjk]at hun;exact hun
   refine⟨O,I,Lz (λe' H' h3=>ih (g.setIfInBounds j true) e' H' hfree' (hcl.add hj) (ready_mono hr (Ne.symm r)) ?_) h2⟩;rw[EO _ _ r];exact h3
def rr(h:Ei)(ops:Array Oper)(g:Array Bool)(i:Nat):Bool :=
 match ops[i]? with
 |none=>false
 | some p=>(An ops.size).all λj=>j==i||g.getD j true||match ops[j]? with
   |some o=>o.after.any (λe=>Region.binds .any e&&e.on==i)||Mw h ops p o||IR ops 9 j i||dU h ops i p j o
   |none=>true
def OG(h:Ei)(ops:Array Oper):Nat->Nat->Array Bool->Bool
 | 0,_,g=>(Region.ready .any ops g).isEmpty
 |i+1,k,g=>(Region.ready .any ops g).contains k&&rr h ops g k&&OG h ops i (k+1) (g.setIfInBounds k true)
def dX(h:Ei)(ops:Array Oper):Bool:=no4 h ops&&OG h ops ops.size 0 (CN ops.size false)
def mI{i:Nat}{r:Oper}{g:Array Bool}(T:ops[i]? =some r)(P:rr h ops g i=true)(j:Nat)(p:Oper)
  (R:ops[j]? =some p)(t:j≠i)(C:g.getD j true=false)(I:∀e∈p.after,Region.binds .any e=true->e.on≠i)(J:IR ops 9 j i=false):Mw h ops r p=true\/dU h ops i r j p=true:=by
 simp only[rr,T,Ao,Bt]at P;have o:=P j (Au.1 R).1;simp only[R,CI,beq_iff_eq,t,false_or,C,B0,J,or_false]at o;rcases o with(o|o)|o
 ·obtain⟨e,U,O⟩:=Dp.1 o;simp only[AQ,beq_iff_eq]at O;exact absurd O.2 (I e U O.1)
 ·exact .inl o
 ·exact .inr o
def bn(i:no4 h ops=true)(p:∀e H,K e H->KQ P h ops e)(O:SX K): ∀(l:List Oper) (k:Nat) (g:Array Bool) (e:GO) (H:Fl),(∀j,l[j]? =ops[k+j]?)->OG h ops l.length k g=true->Cl ops g->MB P n h ops l K e H ->
  RD P n h ops K l.length g e H
 |[],_,_,_,_,_,C,_,I=>⟨by simpa [OG]using C,I⟩
 |o::l,k,g,e,H,R,C,r,I=>by
  have T:ops[k]? =some o:=by simpa using(R 0).symm
  simp only[AC,OG,AQ]at C;obtain⟨⟨U,V⟩,J⟩:=C;have t:k∈Region.ready .any ops g:=by simpa using U
  refine mQ i p O T l.length g e H (mI T V) r t ?_;exact Lz (λe' H' h1=>bn i p O l (k+1) _ e' H' (λj=>by have:=R (j+1);simpa [AT,CB 1 j]using this) J (r.add t) h1) I
def Zi{O:Option Nat}{R:Nat}{F:Nat->Prop}{G:Gh}{env:GO}{H:Fl}{a:Act}{w:World}{id:Nat}(Q:Exit->Act->World->Prop)(o:P.follows .mixedOrders=true)(p:∀e H,K e H->KQ P h ops e)(T:SX K)(r:dX h ops=true)
  (U:Ej F G n env H a w)(V:MB P n h ops ops.toList K env H)(hQ:∀i j,OP F G w n K i j->Q .normal i j):(Code.region id ops true).wpIn (gV O) R P Q a w:=by
 refine wpIn_region_any o ?_;simp only[dX,AQ]at r;have J:=bn (P:=P) (n:=n) (h:=h) (ops:=ops) r.1 p T ops.toList 0 (CN ops.size false) env H F3 (by simpa using r.2) (λm om o hl=>by
  have t:=(Au.1 o).1;simp[Cu,t]at hl) V
 rw[Bv]at J;refine O5 (F:=F) Q ops.size _ G env H a w.drew U.draw J λi j=>?_;rintro ⟨g,H',G',C,I,he⟩;exact hQ i j ⟨g,H',G',C,I,Ik.trans he⟩
def lL{e i:GO}(j:∀t,GJ e t=GJ i t)(o:KQ P h ops e):KQ P h ops i:=λp r=>by
 have g:=o p r;unfold K2 at g ⊢;simp only[j]at g;exact g
end
end Go.AI
namespace Go.AI
section
variable{P:Program}{F:Nat->Prop}{G:Gh}{w:World}{H:Fl}{n:Nat}{env:GO}{a:Act}{vals:List AV}{us:List Value}
def VRel.frozen (h:Ek F G vals H us w) {T b g j I:Nat} {r:List AV} {u:Value} (ho:H[T]? =some (some r)) (hb:G.obs[T]? =some b) (hv:El G w (.msl T g j I) u) (hle:g+j*I<=r.length)
  (R:Bool) (hs:R=true\/I=1):El (G.setKind b .imm) w (.sl none (IX R I j ((r.drop g).map Go.AI.borrow1))) u:=by
 have U:=hv.msl_cells hb;have V:=(h.freeze ho hb U).2;have hobj:=h.h.obj T r b ho hb;obtain⟨C,E,hrow,hlC,hC⟩:=(hobj.of_cells U.choose_spec.choose_spec).2;generalize hx:AV.msl T g j I=x at hv;cases hv<;>cases hx;rename_i b0 cap hcap hob P hcc;rw[hb]at hob;cases hob;have hcs:∀c∈(r.drop g).map Go.AI.borrow1,c.scalar=true:=λc hm=>by
  obtain⟨c0,o,rfl⟩:=AN.1 hm;obtain⟨i,p⟩:=List.getElem?_of_mem o;rw[A4]at p;have J:g+i<C.size:=BV (AD.1 p).1 hlC;rw[Gz];exact(hC _ _ _ p (Al J)).1
 obtain⟨k1,k2⟩:=QF R I hs j ((r.drop g).map Go.AI.borrow1) IG hcs;have e:=MU R I j ((r.drop g).map Go.AI.borrow1);have key:∀(i:Nat) (c:AV),(Hx (IX R I j ((r.drop g).map Go.AI.borrow1)))[i]? =some c->c.scalar=true /\ ∃v,C[g+i]? =some v/\El (G.setKind b .imm) w c v:=λi c p=>by
  rw[k1]at p;have t:((r.drop g).map Go.AI.borrow1)[i]? =some c:=by
   rw[List.getElem?_take]at p;split at p
   ·exact p
   ·cases p
  rw[Ac,A4]at t;cases o:r[g+i]? with
  |none=>rw[o]at t;cases t
  |some c0 =>
   rw[o]at t;cases t;have J:g+i<C.size:=BV (AD.1 o).1 hlC;have:=hC _ _ _ o (Al J);exact⟨(Gz c0).trans this.1,_,Al J,(this.2.1.keep V.keeps).borrow1⟩
 have O:=VRel.sl (G:=G.setKind b .imm) (w:=w) none (IX R I j ((r.drop g).map Go.AI.borrow1)) I b g cap (λi=>(C[g+i]?).getD Go.undef) k2 (by intro n hn;cases hn) (by rw[e];exact P) (by assumption)
  (λi c p=>by
   obtain⟨g1,v,g2,g3⟩:=key i c p;refine⟨g1, ?_, ?_⟩
   ·unfold Gh.safe;rw[G.kind_set];trivial
   ·rw[g2];simp only[Option.getD_some];simp[World.cell?,hrow,g2])
  (λi c p=>by
   obtain⟨g1,v,g2,g3⟩:=key i c p;rw[g2];exact g3)
 rw[e]at O;exact O
end
end Go.AI
namespace Go.AI
mutual
def AV.bnd(k:Nat):AV->Bool
 |.ptr o _=>decide (o<k)
 |.msl o _ _ _=>decide (o<k)
 |.mslc o _ _ _ _=>decide (o<k)
 |.mapr o=>decide (o<k)
 |.it o=>decide (o<k)
 |.yld o _=>decide (o<k)
 |.ifc _ a=>a.bnd k
 |.cptr g _=>F_ k g
 |.sl _ i=>F_ k i
 |.fn _ a b=>F_ k a&&F_ k b
 |.agg g=>F_ k g
 |.tup j=>F_ k j
 |_=>true
def F_(k:Nat):List AV->Bool
 |[]=>true
 |v::g=>v.bnd k&&F_ k g
end
def Gt{k:Nat}{g:List AV}:F_ k g=true ↔ ∀v∈g,v.bnd k=true:=by
 induction g with
 |nil=>simp[F_]
 |cons x j i=>simp[F_,i]
def Hv{α:Type}{k:Nat}{f:α->AV}{l:List α}(h:∀x,(f x).bnd k=true):F_ k (l.map f)=true:=by
 rw[Gt];intro v g;obtain⟨x,_,rfl⟩:=AN.1 g;exact h x
def AA1{k:Nat}{v:AV}(h:v.bnd k=true): ∀c∈v.cells,c.bnd k=true:=by
 cases v<;>first|(intro c g;simp only[AV.cells,List.mem_singleton]at g;subst g;exact h)|skip
 simp only[AV.bnd]at h;exact Gt.1 h
def AI3{k:Nat}{i:List AV}(h:F_ k i=true): ∀c∈Hx i,c.bnd k=true:=by
 intro c g;obtain⟨e,j,g⟩:=B1.1 g;exact AA1 (Gt.1 h e j) c g
def Gh.cut(G:Gh)(k:Nat):Gh:=⟨G.obs.take k,G.kind⟩
def VRel.cut{G:Gh}{w:World}(k:Nat){a:AV}{v:Value}(h:El G w a v)(j:a.bnd k=true):El (G.cut k) w a v:=by
 have g:∀o b,o<k->G.obs[o]? =some b->(G.cut k).obs[o]? =some b:=λo b ho R=>by
  show(G.obs.take k)[o]? =some b;rw[By ho];exact R
 induction h with
 |undef v=>exact .undef v
 |int k n=>exact .int k n
 |bool b=>exact .bool b
 |str s=>exact .str s
 |nilp=>exact .nilp
 |ptr o r b h p=>exact .ptr o r b (g o b (by simpa [AV.bnd]using j) h) p
 |cptr V r b q u h hu O =>
  simp only[AV.bnd]at j;exact .cptr V r b q u h λi c hi=>O i c hi (Gt.1 j c (AB hi))
 |slnil I=>exact .slnil I
 |slany I a=>exact .slany I a
 |sl I es sz b q J u hsz hown P hm h hu O =>
  simp only[AV.bnd]at j;exact .sl I es sz b q J u hsz hown P hm h λi c hi=>O i c hi (AI3 j c (AB hi))
 |msl o r T sz b J h P hm p=>exact .msl o r T sz b J (g o b (by simpa [AV.bnd]using j) h) P hm p
 |mslc o r T sz J b h P hm p=>exact .mslc o r T sz J b (g o b (by simpa [AV.bnd]using j) h) P hm p
 |fn f first C fi ca h1 h2 h3 h4 ih1 ih2 =>
  simp only[AV.bnd,AQ]at j;exact .fn f first C fi ca h1 h2 (λi c v p U=>ih1 i c v p U (Gt.1 j.1 c (AB p))) (λi c v p U=>ih2 i c v p U (Gt.1 j.2 c (AB p)))
 |nilf=>exact .nilf
 |mapr o b h R hk=>exact .mapr o b (g o b (by simpa [AV.bnd]using j) h) R hk
 |nilm=>exact .nilm
 |it o b h R hk=>exact .it o b (g o b (by simpa [AV.bnd]using j) h) R hk
 |yld o b L h R hk=>exact .yld o b L (g o b (by simpa [AV.bnd]using j) h) R hk
 |ifc t a v hs h O=>exact .ifc t a v hs (O (by simpa [AV.bnd]using j))
 |nili=>exact .nili
 |agg V vs P hs h O =>
  simp only[AV.bnd]at j;exact .agg V vs P hs λi c v p U=>O i c v p U (Gt.1 j c (AB p))
 |tup V vs P hs h O =>
  simp only[AV.bnd]at j;exact .tup V vs P hs λi c v p U=>O i c v p U (Gt.1 j c (AB p))
def TJ(H:Fl):Prop:=∀(o:Nat) (g:List AV),H[o]? =some (some g)->F_ H.length g=true
section
variable{P:Program}{F:Nat->Prop}{G:Gh}{w:World}
def Gg.cut{k:Nat}{p:AV×Value}(h:Gg F G w p):Gg F (G.cut k) w p:=h
def ORel.cut{r:List AV}{b:Nat}(h:ORel F G w r b)(k:Nat)(hc:∀c∈r,c.bnd k=true):ORel F (G.cut k) w r b:=by
 refine⟨h.own, ?_⟩;have O:=h.is;show match G.kind b with
  |.obj=>uV F (G.cut k) w r b
  |.map=>AKq (G.cut k) w r b
  |.iter=>fq (G.cut k) w r b
  |.loop L=>AGX (G.cut k) w L r b
  |_=>False
 split at O
 ·rename_i I
  try rw[I]
  obtain⟨C,E,T,U,J⟩:=O;exact⟨C,E,T,U,λi c v j hv=>⟨(J i c v j hv).1,(J i c v j hv).2.1.cut _ (hc c (AB j)),(J i c v j hv).2.2⟩⟩
 ·rename_i I
  try rw[I]
  obtain⟨es,ms,cl,T,U,J,g4,g5⟩:=O;subst U;have P:=hc _ (by simp[Kn]:AV.tup (es.flatMap λp=>[p.1,p.2])∈Kn es);simp only[AV.bnd]at P;refine⟨es,ms,cl,T,rfl,J,λi p m hp hm=>?_,g5⟩;obtain⟨a1,a2,a3,a4⟩:=g4 i p m hp hm;have GS:=AB hp;exact⟨a1,a2,a3.cut _ (Gt.1 P _ (B1.2 ⟨p,GS,F3⟩)),a4.cut _ (Gt.1 P _ (B1.2 ⟨p,GS,F3⟩))⟩
 ·rename_i I
  try rw[I]
  rcases O with⟨s,pos,V,R⟩|⟨V,R⟩|⟨o,mb,si,se,V,R,h3⟩
  ·exact .inl ⟨s,pos,V,R⟩
  ·exact .inr (.inl ⟨V,R⟩)
  ·exact .inr (.inr ⟨o,mb,si,se,V,R,h3.cut _ (hc _ (by rw[R];simp[VK]))⟩)
 ·rename_i L I
  try rw[I]
  obtain⟨s,pe,t,D,st,g,T,U,J,g4,g5⟩:=O;subst J;have P:=hc _ (by simp[Hl]:AV.tup g∈Hl st g);simp only[AV.bnd]at P;exact⟨s,pe,t,D,st,g,T,U,rfl,g4,λi a u ha hu=>⟨(g5 i a u ha hu).1,(g5 i a u ha hu).2.cut _ (Gt.1 P _ (AB ha))⟩⟩
 ·exact O.elim
def b7{n m:Nat}{f:Nat->Nat}(h:n<=m):((An n).map f).sum<=((An m).map f).sum := by
  induction m with
  | zero => have : n = 0 := by omega
            subst this;exact AS _
  | succ m g =>
    rw[B9,Aq,B_];by_cases e:n=m+1
    · subst e;rw[B9,Aq,B_];exact AS _
    · have := g Fj ; omega
def CRel.cutL{P:List AV}{V:List Value}{g j:Fl}(h:Ek F G P (g++j) V w)(hv:F_ g.length P=true)(hc:TJ g):Ek F (G.cut g.length) P g V w:=by
 have J:=h.h.len;rw[AE]at J;have C:∀o,o<g.length->(G.cut g.length).obs[o]? =G.obs[o]?:=λo r=>By r;have t:∀(o:Nat) (I:List AV),g[o]? =some (some I)->(g++j)[o]? =some (some I):=λo I r=>by
  rw[Aa (AD.1 r).1];exact r
 refine⟨⟨h.l.len,λi a u O R=>(h.l.rel i a u O R).cut _ (Gt.1 hv a (AB O)),λi a u O R p hp=>h.l.tok i a u O R p hp⟩,⟨?_,λo I b r hb=>?_,λo o' I T b g1 g2 g3 g4=>?_,h.h.fore,h.h.glob.same rfl⟩,λb=>?_⟩
 ·show(G.obs.take g.length).length=_;simp;omega
 ·have U:=(AD.1 r).1;rw[C o U]at hb;exact(h.h.obj o I b (t o I r) hb).cut _ (Gt.1 (hc o I r))
 ·have l1:=(AD.1 g1).1;have l2:=(AD.1 g2).1;rw[C _ l1]at g3;rw[C _ l2]at g4;exact h.h.inj o o' I T b (t _ _ g1) (t _ _ g2) g3 g4
 ·have h3:=h.cnt b;have e:∀o,o<g.length->HU (G.cut g.length) g w o=HU G (g++j) w o:=λo r=>by
   unfold HU;rw[C o r,Aa r]
  have h4:I3 (G.cut g.length) g w b<=I3 G (g++j) w b:=by
   unfold I3;rw[KB (λo r=>by rw[e o r]),AE];exact b7 Fj
  omega
def CRel.cut{v:AV}{u:Value}{g i:Fl}(h:Ek F G [v] (g++i) [u] w)(j:v.bnd g.length=true)(o:TJ g):Ek F (G.cut g.length) [v] g [u] w :=
 h.cutL (by simp[F_,j]) o
def WS(H:Fl):Bool:=H.all λo=>match o with
 |some g=>F_ H.length g
 |none=>true
def dh{H:Fl}(h:WS H=true):TJ H:=λo i g=>by
 have:=Ao.1 h _ (AB g);exact this
def Vk(n:Option Nat)(e:GO)(H:Fl):Fl :=
 match n with
 |some n=>if n<=H.length/\F_ n (e.map (·.2))=true/\WS (H.take n)=true then H.take n else H
 |none=>H
def ADp{e:GO}{t:Tmp}:GJ e t = .undef\/GJ e t∈e.map (·.2):=by
 induction e with
 |nil=>exact .inl rfl
 | cons p e g =>
  obtain⟨k,v⟩:=p;simp only[GJ];split
  ·exact .inr F3
  ·rcases g with h|h
   ·exact .inl h
   ·exact .inr (by simp only[AW,AY];exact .inr h)
def AIL{p:Gh}{C:World}{n:Nat}{env:GO}{H:Fl}{a:Act}(k:Option Nat)(i:Ej F G n env H a w)(g:Ext F p C G w)(r:k=none\/p.obs=[]):
  ∃I,Ej F I n env (Vk k env H) a w/\Ext F p C I w:=by
 cases k with
 |none=>exact⟨G,i,g⟩
 | some k =>
  have r:p.obs=[]:=r.resolve_left F3;simp only[Vk];split
  ·rename_i O;obtain⟨V,P,R⟩:=O;have T:(H.take k).length=k:=IG;have j:=i.c;rw[<- List.take_append_drop k H]at j;have:=j.cutL (by
    rw[T,Gt];intro v U;obtain⟨t,_,rfl⟩:=AN.1 U;rcases ADp (e:=env) (t:=t)with h|h
    ·rw[h];rfl
    ·exact Gt.1 P _ h) (dh R)
   refine⟨_,⟨i.size,i.defers,i.out,this⟩,g.size,⟨λo b J=>by rw[r]at J;simp at J,g.keeps.shape,g.keeps.sp,g.keeps.safe⟩,g.kind,g.cells,g.io⟩
  ·exact⟨G,i,g⟩
end
end Go.AI
namespace Go.AI
def Gw(k:Nat):List AV->GO
 |[]=>[]
 |v::g=>(k,v)::Gw (k+1) g
section
variable{P:Program}{F:Nat->Prop}{G:Gh}{w:World}{H:Fl}{n:Nat}
def Lf : ∀ (g:List AV) (k t:Nat),GJ (Gw k g) t=if k<=t then (g[t - k]?).getD .undef else .undef
 |[],k,t=>by simp[Gw,GJ]
 | v::g,k,t=>by
  simp only[Gw,GJ];by_cases h:k=t
  ·subst h;simp
  ·rw[iN h,Lf g (k+1) t];by_cases i:k<=t
   ·rw[iP Fj,iP i,show t - k=(t - (k+1))+1 by omega];simp
   ·rw[iN Fj,iN i]
def Xu(g:List AV)(h:g.length<=n):HQ n (Gw 0 g)=g++List.replicate (n - g.length) .undef:=by
 apply List.ext_getElem?;intro i;by_cases o:i<n
 ·rw[I0 _ o,Lf,iP (BS _),BZ];by_cases j:i<g.length
  ·rw[Aa j,AL j];rfl
  ·rw[AO Fj,A0 Fj,List.getElem?_replicate,iP Fj];rfl
 ·rw[A0 (by rw[H9];omega),A0 IG]
def q9{f:FuncId}{first g args:List AV}{O:Value}{uargs:Array Value}(p:Ek F G (.fn (.func f) first g::args) H (O::uargs.toList) w)(j:IB P f=true):
  ∃(d:Deferred) (R:Array Value),(Deferred.ofValue O uargs).run P w = .ok d w/\(invoke d.target d.args).run P w = .ok (.enter f R) w /\
   Ek F G (first.map AV.borrow++args++g.map AV.borrow) H R.toList w:=by
 have T:=p.l.rel 0 _ _ rfl rfl;obtain⟨_,_,o⟩:=p.l.uncons;cases T with
 | fn _ _ _ r t U V h3 h4 =>
  obtain⟨C,t1⟩:=IJ (F:=F) (G:=G) (w:=w) (first:=first) (fi:=r.toList) (by simpa using U) (λi c v a b=>h3 i c v a (by simpa using b));obtain⟨l2,t2⟩:=IJ (F:=F) (G:=G) (w:=w) (first:=g) (fi:=t.toList) (by simpa using V) (λi c v a b=>h4 i c v a (by simpa using b));have I:Ek F G (first.map AV.borrow++args++g.map AV.borrow) H (r.toList++uargs.toList++t.toList) w:=by
   refine⟨(C.append o).append l2,p.h,λb=>?_⟩;rw[G7 _ _ _ _ _ (C.append o).len,G7 _ _ _ _ _ C.len,t1,t2];have:=p.cnt b;rw[Fx]at this;omega
  refine⟨{ target:=.fn (.func f) t,args:=r++uargs },r++uargs++t,rfl, ?_,by simpa using I⟩;unfold IB at j;split at j
  ·rename_i fn J;simp only[AQ,Bf,beq_eq_false_iff_ne,ne_eq]at j;obtain⟨g1,g2⟩:=j;have g3:fn.body.isNone=false:=by cases hb:fn.body<;>simp_all
   simp only[Sem.run_bind,Sem.run_pure,Result.andThen_ok,invoke,callFunc,run_program,J,Sem.run_ite,beq_eq_false_iff_ne.2 g1,g3,B0,if_false]
  ·cases j
def Ln(g:List AV):List Tmp->List AV->GO->GO
 |p::i,y::j,e=>Ln g i j ((p,y)::e)
 |_,_,e=>e
def IY(n:Nat)(e:GO):List AV:=(HQ n e).map AV.borrow
def U_{vals:List AV}: ∀(j:List Tmp) (i:List AV) (g:List Value) (e:GO) (tm:Array Value),Ek F G (i++HQ n e) H (g++tm.toList) w->i.length=g.length->tm.size=n->(∀p∈j,p<n) ->
  (∀t,n<=t->GJ e t = .undef)->j.length=i.length ->
  Ek F G (HQ n (Ln vals j i e)) H ((j.zip g).foldl (λ(t:Array Value) (x:Tmp×Value)=>t.setIfInBounds x.1 x.2) tm).toList w /\
   ((j.zip g).foldl (λ(t:Array Value) (x:Tmp×Value)=>t.setIfInBounds x.1 x.2) tm).size=n /\ ∀t,n<=t->GJ (Ln vals j i e) t = .undef
 |[],[],[],e,tm,h,_,C,_,I,_=>⟨by simpa [Ln]using h,C,I⟩
 | p::j,y::i,u::g,e,tm,h,U,C,R,I,J=>by
  have r:=R p F3;have O:i.length=g.length:=by simpa using U
  have o:=h.setSlot (v:=y) (L:=i++HQ n e) (u:=u) (tm:=g++tm.toList) (d:=g.length+p) (by
   have V:tm.toList.length=n:=by rw[Bv];exact C
   rw[AE,V];exact Nat.add_lt_add_left r _)
  have e1:(i++HQ n e).set (g.length+p) y=i++HQ n ((p,y)::e):=by
   rw[Ua e y r,Bg _ _ Fj];congr 2;omega
  have e2:(g++tm.toList).set (g.length+p) u=g++(tm.setIfInBounds p u).toList:=by
   rw[Bg _ _ Fj,DB];congr 2;omega
  rw[e1,e2]at o;exact U_ j i g ((p,y)::e) (tm.setIfInBounds p u) o O (by simpa using C) (λq hq=>R q (by simp[hq])) (λt T=>by
   have P:¬p=t:=λe=>by subst e;exact absurd r (Nat.not_lt.2 T)
   simp only[GJ];rw[iN P];exact I t T) (by simpa using J)
 |[],_::_,_,_,_,_,_,_,_,_,h=>by simp at h
 |_::_,[],_,_,_,_,_,_,_,_,h=>by simp at h
 |_::_,_::_,[],_,_,_,h,_,_,_,_=>by simp at h
 |[],[],_::_,_,_,_,h,_,_,_,_=>by simp at h
def Oh{s:LoopState}{p:Option Code}(h:NP s p=some 0):s = .ready/\p=none:=by
 unfold NP at h;split at h<;>first|exact⟨rfl,rfl⟩|(simp at h;try omega)
def pS{s:LoopState}{p:Option Code}(h:NP s p=some (-2)):s = .done/\p=some .ret:=by
 unfold NP at h;split at h<;>first|exact⟨rfl,rfl⟩|(simp at h;try omega)
def jd{s:LoopState}{p:Option Code}{k:Nat}(h:NP s p=some ((k:Int)+1)):s = .done/\p=some (.exit k):=by
 unfold NP at h;split at h<;>first|(simp at h;omega)|skip
 ·rename_i j;have:j=k:=by simp at h;omega
  subst this;exact⟨rfl,rfl⟩
 ·simp at h
end
end Go.AI
namespace Go.AI
def Kw(o:Bool)(v:AV)(H:Fl):Option (AV×Fl) :=
 match v with
 |.msl p g i j=>match H[p]? with
  |some (some r)=>if g+i*j<=r.length/\(o=true\/j=1)then some (.sl none (IX o j i ((r.drop g).map borrow1)),H.set p none)else none
  |_=>none
 |_=>none
def ZV(z:Tmp×Option Nat×Bool)(e:GO)(H:Fl):GO×Fl :=
 match z.2.1 with
 |none=>match Kw z.2.2 (GJ e z.1) H with
  |some (v,i)=>((z.1,v)::e,i)
  |none=>(e,H)
 | some k=>match GJ e z.1 with
  | .ptr o g=>match H[o]? with
   | some (some j)=>match j[g+k]? with
    | some c=>match Kw z.2.2 c H with
     |some (v,i)=>match i[o]? with
      |some (some _)=>(e,i.set o (some (j.set (g+k) v)))
      |_=>(e,H)
     |none=>(e,H)
    |none=>(e,H)
   |_=>(e,H)
  |_=>(e,H)
def LO:List (Tmp×Option Nat×Bool)->GO->Fl->GO×Fl
 |[],e,H=>(e,H)
 |z::g,e,H=>LO g (ZV z e H).1 (ZV z e H).2
def Hint.lv(h:Ei)(id:Nat):List Tmp:=(h.live.lookup id).getD []
def Hint.ct(h:Ei)(id:Nat):Option Nat:=h.gc.lookup id
def Hint.da(h:Ei)(id:Nat):Bool:=h.dy.contains id
def Hint.mv(h:Ei)(id:Nat):List Nat:=h.dy.filterMap λx=>if x / 1000=id+1 then some (x % 1000)else none
def pD(l:List Nat)(n:Nat):List Nat:=l++(An n).filter λi => !l.contains i
def Hint.ord(h:Ei)(id:Nat)(ops:Array Oper):List Oper:=match h.mv id with
 |[]=>ops.toList
 |l=>(pD l ops.size).filterMap λi=>ops[i]?
def Hint.dn(h:Ei)(id:Nat):Bool:=h.da id || !(h.mv id).isEmpty
def sP{h:Ei}{id:Nat}(g:h.dn id=false)(ops:Array Oper):h.da id=false/\h.ord id ops=ops.toList:=by
 simp only[Hint.dn,Bool.or_eq_false_iff,Bool.not_eq_false',EP]at g;refine⟨g.1, ?_⟩;unfold Hint.ord;rw[g.2]
def Hint.at(h:Ei)(id:Nat):List (Tmp×Option Nat×Bool):=(h.fz.lookup id).getD []
section
variable{F:Nat->Prop}{G:Gh}{w:World}{H:Fl}{n:Nat}{env:GO}{a:Act}
def SG{J:Bool}{v t:AV}{C:Fl}(i:Kw J v H=some (t,C)){j:List AV}{O:List Value}(h:Ek F G j H O w){u:Value}(P:El G w v u):
  ∃p b T,C=H.set p none/\t = .sl none T/\(∃I,H[p]? =some (some I))/\Ek F (G.setKind b .imm) j C O w/\Ext F G w (G.setKind b .imm) w/\El (G.setKind b .imm) w t u/\(∃o f l s,v = .msl o f l s):=by
 unfold Kw at i;split at i
 ·rename_i p U V sz;split at i
  ·rename_i I g;split at i
   ·rename_i R;cases i;have r:∃b,G.obs[p]? =some b:=by
     have:=h.h.len;exact⟨_,AL (by rw[this];exact(AD.1 g).1)⟩
    obtain⟨b,r⟩:=r;obtain⟨h1,h2⟩:=h.freeze g r (P.msl_cells r);exact⟨p,b,_,rfl,rfl,⟨I,g⟩,h1,h2,VRel.frozen h g r P R.1 J R.2,_,_,_,_,rfl⟩
   ·cases i
  ·cases i
 ·cases i
def AIO(z:Tmp×Option Nat×Bool)(I:Ej F G n env H a w): ∃ G',Ej F G' n (ZV z env H).1 (ZV z env H).2 a w/\Ext F G w G' w:=by
 have same:∃G',Ej F G' n env H a w/\Ext F G w G' w:=⟨G,I,.refl F G w⟩;obtain⟨t,k,ag⟩:=z;have V:∀v,GJ env t=v->v ≠ .undef->t<n /\ ∃u,a.tmps[t]? =some u/\El G w v u:=λv hv hne=>by
  have g:t<n:=by
   by_cases g:t<n
   ·exact g
   ·rw[I.out t (B' g)]at hv;exact absurd hv.symm hne
  obtain⟨x,hx⟩:∃x,a.tmps[t]? =some x:=⟨_,Al (by rw[I.size];exact g)⟩;have hr:=I.c.l.rel t (GJ env t) x (I0 env g) (by rw[Af];exact hx);rw[hv]at hr;exact⟨g,x,hx,hr⟩
 unfold ZV;cases k with
 | none =>
  dsimp only;split
  ·rename_i v' H' hf;obtain⟨g,u,hu,hvr⟩:=V (GJ env t) rfl (by intro e;rw[e]at hf;simp[Kw]at hf);obtain⟨ob,b,es,rfl,rfl,_,h1,h2,h3,_⟩:=SG hf I.c hvr;refine⟨_, ?_,h2⟩;have hput:=Wk (v:=.sl none es) (u:=u) I.size I.defers I.out ⟨.cons h3 (GC (Gs rfl u) _ _ _) h1.l,h1.h,λx=>by rw[Fx,Gs rfl u];simpa using h1.cnt x⟩ (some t) g;have ea:a.put (some t) u=a:=by
    obtain⟨tm,df⟩:=a;simp only[Act.put,Act.mk.injEq,and_true];apply Array.ext';rw[DB];exact iF (by rw[Af];exact hu)
   rw[ea]at hput;exact hput
  ·exact same
 | some k =>
  dsimp only;split
  ·rename_i o J hlk
   split
   ·rename_i cs O;split
    ·rename_i c hc;split
     ·rename_i v' H' hf;split
      ·rename_i cs' P;obtain⟨g,u,hu,hvr⟩:=V _ hlk (by intro e;cases e);have hlen:=I.c.h.len;have hb:∃b,G.obs[o]? =some b:=⟨_,AL (by rw[hlen];exact(AD.1 O).1)⟩;obtain⟨b,hb⟩:=hb;have p:∃(C:Array Value) (E:TypeId),w.heap[b]? =some (.cells C E (0,0)):=by
        cases hvr with
        |ptr _ _ b2 h2 r=>rw[hb]at h2;cases h2;exact r
       obtain⟨C0,E0,p⟩:=p;obtain⟨g1,C,E,g2,g3,g4⟩:=(I.c.h.obj o cs b O hb).of_cells p;have hlt:J+k<C.size:=BV (AD.1 hc).1 g3;obtain⟨s1,s2,s3⟩:=g4 _ _ _ hc (Al hlt);obtain⟨ob,b',es,rfl,rfl,_,h1,h2,h3,⟨o5,f5,l5,z5,hmsl⟩⟩:=SG hf I.c s2;have hne:ob≠o:=by
        rintro rfl;rw[Aw (by exact(AD.1 O).1)]at P;cases P
       have R:(H.set ob none)[o]? =some (some cs):=by rw[A2 hne];exact O
       have hb2:(G.setKind b' .imm).obs[o]? =some b:=hb;have T:=h1.h.obj o cs b R hb2;obtain⟨r1,C2,E2,r2,r3,r4⟩:=T.of_cells g2;have hCC:C2=C:=by rw[g2]at r2;cases r2;rfl
       subst hCC;have U:=h1.setObj R hb2 r2 (C':=C2) rfl (cs':=cs.set (J+k) (.sl none es)) (by simpa using r3) (λi c2 y r hy=>?_) (vs:=HQ n env) (us':=a.tmps.toList) h1.l (λx=>?_)
       ·rw[setRow_self w b C2 E2 _ r2]at U;exact⟨_,⟨I.size,I.defers,I.out,U.1⟩,h2.trans U.2⟩
       ·rw[List.getElem?_set]at r;split at r
        ·rename_i he;subst he;rw[iP (AD.1 hc).1]at r;cases r;have:y=C2[J+k]:=by rw[Al hlt]at hy;cases hy;rfl
         subst this;exact⟨rfl,h3,Gb rfl⟩
        ·exact r4 i c2 y r hy
       ·have hle:(((cs.set (J+k) (.sl none es)).zip C2.toList).filterMap tok).count x<=((cs.zip C2.toList).filterMap tok).count x:=by
         subst hmsl;clear T p;clear h3 h1 h2 s2 s3 r4 g4 g3 r3 R hf O P;generalize hL:C2.toList=L;clear hL;generalize J+k=j at hc ⊢;induction cs generalizing j L with
         |nil=>simp
         | cons d cs ih =>
          cases L with
          |nil=>simp
          | cons y L =>
           cases j with
           |zero =>
            simp only[A7,Option.some.injEq]at hc;subst hc;simp only[List.set_cons_zero,B6,B7];simp[tok]
           |succ j =>
            simp only[List.getElem?_cons_succ]at hc;have:=ih L j hc;simp only[List.set_cons_succ,B6,B7];split
            ·exact this
            ·simp only[List.count_cons];omega
        omega
      ·exact same
     ·exact same
    ·exact same
   ·exact same
  ·exact same
def te:∀(g:List (Tmp×Option Nat×Bool)) {G:Gh} {env:GO} {H:Fl},Ej F G n env H a w -> ∃j,Ej F j n (LO g env H).1 (LO g env H).2 a w/\Ext F G w j w
 |[],G,_,_,i=>⟨G,i,.refl F G w⟩
 |z::g,G,env,H,i=>by
  obtain⟨I,o,p⟩:=AIO z i;obtain⟨r,t,C⟩:=te g o;exact⟨r,t,p.trans C⟩
end
def d8(g:Option Nat)(H:Fl):Prop :=
 match g with
 |none=>True
 |some o => ∃i,H[o]? =some (some i)
def Jw(P:Program)(n:Nat)(h:Ei):Option Nat->Code->(Exit->GO->Fl->Prop)->GO->Fl->Prop
 |_,.skip,Q=>Q .normal
 |_,.region id ops _,Q=>λe H=>MB P n h ops (h.ord id ops) (λe H=>(h.da id=true->KQ P h ops e)/\Q .normal (LO (h.at id) (IQ (h.lv id) e) H).1 (Vk (h.ct id) (LO (h.at id) (IQ (h.lv id) e) H).1 (LO (h.at id) (IQ (h.lv id) e) H).2)) e H
 | o,.seq a b,Q=>Jw P n h o a λp e H=>match p with
   |.normal=>Jw P n h o b Q e H
   |p=>Q p e H
 | o,.cond c a b,Q=>λe H=>match Hh P none e c with
   |.bool t=>if t=true then Jw P n h o a Q e H else Jw P n h o b Q e H
   |_=>False
 | o,.block id c,Q=>Jw P n h o c λp e H=>match p with
   |.exit j=>if j=id then Q .normal e H else Q (.exit j) e H
   |p=>Q p e H
 | o,.loop c,Q=>λe H => ∃ (I:GO->Fl->Prop) (μ:GO->Fl->Nat),I e H /\ ∀ e H,I e H->Jw P n h o c (λp O R=>match p with
   |.normal=>I O R/\μ O R<μ e H
   |p=>Q p O R) e H
 | o,.rangeFunc g U r C,Q=>λe H=>d8 o H /\ ∃ (T:Nat) (f:FuncId) (first i:List AV),Hh P none e g = .fn (.func f) first i /\
   Fw P f (first.map AV.borrow++[.yld H.length ⟨T,U,r,C⟩]++i.map AV.borrow) (H++[some (Hl 0 (IY n e))]) λ_ J => ∃st V,
    J[H.length]? =some (some (Hl st V)) /\
     ((st=0/\Q .normal e (J.set H.length none))\/(st = -2/\Q .ret e (J.set H.length none)) \/ ∃k:Nat,st=(k:Int)+1/\Q (.exit k) e (J.set H.length none))
 |_,.exit id,Q=>Q (.exit id)
 |_,.ret,Q=>Q .ret
 |_,_,_=>λ_ _=>False
def HB(h:Ei):Code->Bool
 |.region id ops draw=>((h.mv id).isEmpty&&(!draw||qf h ops||(h.da id&&dX h ops)))||(draw&&dW h ops (pD (h.mv id) ops.size) && !(h.mv id).isEmpty)
 |.seq a b=>HB h a&&HB h b
 |.cond _ a b=>HB h a&&HB h b
 |.block _ c=>HB h c
 |.loop c=>HB h c
 |.rangeFunc _ _ a b=>HB h a&&HB h b
 |_=>true
def TC{p:Nat->Prop}(h:∃m,p m): ∃m,p m /\ ∀k,p k->m<=k:=by
 obtain⟨m,o⟩:=h;induction m using Nat.strongRecOn with
 | _ m r =>
  by_cases j:∃k,k<m/\p k
  ·obtain⟨k,t,g⟩:=j;exact r k t g
  ·exact⟨m,o,λk g=>B' λi=>j ⟨k,i,g⟩⟩
def Y8{F:Fence}{n:Nat}{P:Program}{c:Code}{Q:Exit->Act->World->Prop}{a:Act}{w:World}(J:Nat->Act->World->Prop)(R:∃m,J m a w)
  (g:∀m a w,J m a w->c.wpIn F n P (Exit.then (λj o => ∃i,i<m/\J i j o) Q) a w):(Code.loop c).wpIn F n P Q a w:=by
 have p:∀a w,∃m,(∃m,J m a w)->J m a w /\ ∀k,J k a w->m<=k:=λa w=>by
  by_cases C:∃m,J m a w
  ·obtain⟨m,r,I⟩:=TC C;exact⟨m,λ_=>⟨r,I⟩⟩
  ·exact⟨0,λh=>absurd h C⟩
 refine wpIn_loop (λa w => ∃m,J m a w) (λa w=>Classical.choose (p a w)) R λa w T=>?_;obtain⟨r,I⟩:=Classical.choose_spec (p a w) T;refine wpIn_mono (g _ a w r) (λe j o O=>?_);cases e with
 |normal =>
  obtain⟨i,U,t⟩:=O;refine⟨⟨i,t⟩, ?_⟩;obtain⟨_,V⟩:=Classical.choose_spec (p j o) ⟨i,t⟩;exact Nat.lt_of_le_of_lt (V i t) U
 |_=>exact O
def Left(F:Nat->Prop)(G:Gh)(w:World)(n:Nat)(Q:Exit->GO->Fl->Prop)(g:Exit)(i:Act)(j:World):Prop:=OP F G w n (Q g) i j
def TN(a:AV):borrow0 (borrow0 a)=borrow0 a:=by
 cases a<;>first|rfl|skip
 case agg g=>simp only[borrow0,Bs];congr 1;exact B4 λc _=>Oy c
def VP(a:AV):a.borrow.borrow=a.borrow:=by
 cases a<;>first|rfl|skip
 case agg g=>exact TN (.agg g)
 case tup i=>simp only[AV.borrow,Bs];congr 1;exact B4 λc _=>TN c
def gQ(g:Gh)(i:World)(j p:Option Nat):Prop :=
 match j,p with
 |none,none=>True
 |some l,some o=>g.obs[o]? =some l/\(∃L,g.kind l = .loop L)/\l<i.heap.size
 |_,_=>False
def gQ.loop{F:Nat->Prop}{j G:Gh}{p w:World}{C g:Option Nat}{H:Fl}{R:List AV}{T:List Value}(h:gQ j p C g)(I:Ext F j p G w)(U:Ek F G R H T w)(V:d8 g H):
  ∀l,C=some l -> ∃r:Loop,w.heap[l]? =some (.loop r):=by
 intro l hl;subst hl;cases g with
 |none=>exact h.elim
 |some o =>
  obtain⟨h1,⟨L,J⟩,h3⟩:=h;obtain⟨cs,i⟩:=V;have hk:=I.keeps.sp l h3 (by rw[J];rfl);have O:=(U.h.obj o cs l i (I.keeps.obs o l h1)).is;rw[hk.2,J]at O;obtain⟨s,pe,t,D,st,P,g1,_⟩:=O;exact⟨_,g1⟩
def Js{P:Program}{n:Nat}{h:Ei}(hm:P.follows .mixedOrders=true): ∀ (c:Code) (ro ar:Option Nat) (F:Nat->Prop) (G0:Gh) (w0:World) (h0:h.gc=[]\/G0.obs=[]) (T:gQ G0 w0 ro ar) (hd:HB h c=true)
  (Q:Exit->GO->Fl->Prop) (QQ:Exit->Act->World->Prop) (G:Gh) (env:GO) (H:Fl) (a:Act) (w:World),
  Ej F G n env H a w->Ext F G0 w0 G w->Jw P n h ar c Q env H->(∀ex a' w',Left F G0 w0 n Q ex a' w'->QQ ex a' w')->c.wpIn (gV ro) 0 P QQ a w
 |.skip,ro,ar,F,G0,w0,h0,T,_,Q,QQ,G,env,H,a,w,O,hx,R,hQ=>wpIn_skip (hQ _ _ _ ⟨env,H,G,R,O,hx⟩)
 |.exit id,ro,ar,F,G0,w0,h0,T,_,Q,QQ,G,env,H,a,w,O,hx,R,hQ=>wpIn_exit (hQ _ _ _ ⟨env,H,G,R,O,hx⟩)
 |.ret,ro,ar,F,G0,w0,h0,T,_,Q,QQ,G,env,H,a,w,O,hx,R,hQ=>wpIn_ret (hQ _ _ _ ⟨env,H,G,R,O,hx⟩)
 | .region id ops draw,ro,ar,F,G0,w0,h0,T,hd,Q,QQ,G,env,H,a,w,O,hx,R,hQ=>by
  have hK:SX λe H=>(h.da id=true->KQ P h ops e)/\Q .normal (LO (h.at id) (IQ (h.lv id) e) H).1 (Vk (h.ct id) (LO (h.at id) (IQ (h.lv id) e) H).1 (LO (h.at id) (IQ (h.lv id) e) H).2):=λe e' H V hq=>by
   refine⟨λhy=>lL V (hq.1 hy), ?_⟩;show Q .normal (LO (h.at id) (IQ (h.lv id) e') H).1 (Vk (h.ct id) (LO (h.at id) (IQ (h.lv id) e') H).1 (LO (h.at id) (IQ (h.lv id) e') H).2);rw[<- lW (h.lv id) V];exact hq.2
  have hnext:∀a' w',OP F G w n (λe H=>(h.da id=true->KQ P h ops e)/\Q .normal (LO (h.at id) (IQ (h.lv id) e) H).1 (Vk (h.ct id) (LO (h.at id) (IQ (h.lv id) e) H).1 (LO (h.at id) (IQ (h.lv id) e) H).2)) a' w'->QQ .normal a' w':=by
   rintro a' w' ⟨o,H',G',hK',hs',V⟩;obtain⟨G2,h2,e2⟩:=te (h.at id) (hs'.forget (pT (h.lv id) o));obtain⟨G3,h3,e3⟩:=AIL (h.ct id) h2 ((hx.trans V).trans e2) (h0.imp (λhg=>by unfold Hint.ct;rw[hg];rfl) (λhg=>hg));exact hQ _ _ _ ⟨_,_,G3,hK'.2,h3,e3⟩
  have ho0:(h.mv id).isEmpty=true->h.ord id ops=ops.toList:=λV=>by
   unfold Hint.ord;rw[EP.1 V]
  have ho1:(h.mv id).isEmpty=false->h.ord id ops=(pD (h.mv id) ops.size).filterMap λi=>ops[i]?:=λV=>by
   unfold Hint.ord;cases hmv:h.mv id with
   |nil=>rw[hmv]at V;cases V
   |cons a l=>rfl
  simp only[Jw]at R;cases draw with
  |false =>
   simp only[HB,Bool.not_false,Bool.true_or,Bool.and_true,Bool.false_and,Bool.or_false]at hd;rw[ho0 hd]at R;exact l6 _ _ O R hnext
  | true =>
   simp only[HB,Bool.not_true,Bool.false_or,Bool.true_and,CI,AQ,Bf]at hd;rcases hd with⟨V,hd|⟨hy,hd⟩⟩|⟨hd,V⟩
   ·rw[ho0 V]at R;exact eH _ hm hK hd O R hnext
   ·rw[ho0 V]at R;exact Zi _ hm (λe H hk=>hk.1 hy) hK hd O R hnext
   ·rw[ho1 V]at R;exact Zh _ _ hm hK hd O R hnext
 | .seq x y,ro,ar,F,G0,w0,h0,T,hd,Q,QQ,G,env,H,a,w,O,hx,R,hQ=>by
  simp only[HB,AQ]at hd;refine wpIn_seq (Js hm x ro ar F G0 w0 h0 T hd.1 _ _ G env H a w O hx R λex a' w' hl=>?_);obtain⟨o,H',G',hK,hs',V⟩:=hl;cases ex with
  |normal =>
   exact Js hm y ro ar F G0 w0 h0 T hd.2 Q QQ G' o H' a' w' hs' V hK hQ
  |_=>exact hQ _ _ _ ⟨o,H',G',hK,hs',V⟩
 | .cond c x y,ro,ar,F,G0,w0,h0,T,hd,Q,QQ,G,env,H,a,w,O,hx,R,hQ=>by
  simp only[HB,AQ]at hd;simp only[Jw]at R;split at R
  ·rename_i t ht;have hev:a.eval c = .bool t:=by
    obtain⟨h1,_⟩:=Xr (P:=P) (n:=n) (pre:=[]) (upre:=[]) none false c O.c rfl O.size O.out;have hr:=h1.l.rel 0 _ _ rfl rfl;simp only[OC,ht,AV.borrow,borrow0]at hr;generalize a.eval c=u at hr;cases hr;rfl
   refine wpIn_cond hev ?_;cases t with
   |true=>exact Js hm x ro ar F G0 w0 h0 T hd.1 Q QQ G env H a w O hx (by simpa using R) hQ
   |false=>exact Js hm y ro ar F G0 w0 h0 T hd.2 Q QQ G env H a w O hx (by simpa using R) hQ
  ·exact R.elim
 | .block id c,ro,ar,F,G0,w0,h0,T,hd,Q,QQ,G,env,H,a,w,O,hx,R,hQ=>by
  refine wpIn_block (Js hm c ro ar F G0 w0 h0 T hd _ _ G env H a w O hx R λex a' w' hl=>?_);obtain⟨o,H',G',hK,hs',V⟩:=hl;cases ex with
  | exit j =>
   simp only[Exit.inBlock]at hK ⊢;split
   ·rename_i hj;rw[iP hj]at hK;exact hQ _ _ _ ⟨o,H',G',hK,hs',V⟩
   ·rename_i hj;rw[iN hj]at hK;exact hQ _ _ _ ⟨o,H',G',hK,hs',V⟩
  |_=>exact hQ _ _ _ ⟨o,H',G',hK,hs',V⟩
 |.loop c,ro,ar,F,G0,w0,h0,T,hd,Q,QQ,G,env,H,a,w,O,hx,R,hQ=>by
  obtain⟨I,μ,hI,hround⟩:=R;refine Y8 (λm a' w' => ∃o H' G',I o H'/\μ o H'=m/\Ej F G' n o H' a' w'/\Ext F G0 w0 G' w') ⟨_,env,H,G,hI,rfl,O,hx⟩ λm a' w' hJ=>?_;obtain⟨o,H',G',hI',hμ,hs',V⟩:=hJ;refine Js hm c ro ar F G0 w0 h0 T hd _ _ G' o H' a' w' hs' V (hround o H' hI') λex a2 w2 hl=>?_;obtain⟨env2,H2,G2,hK,hs2,he2⟩:=hl;cases ex with
  |normal=>exact⟨_,hμ▸hK.2,env2,H2,G2,hK.1,rfl,hs2,he2⟩
  |_=>exact hQ _ _ _ ⟨env2,H2,G2,hK,hs2,he2⟩
 | .rangeFunc g ps assign body,ro,ar,F,G0,w0,h0,T,hd,Q,QQ,G,env,H,a,w,O,hx,R,hQ=>by
  simp only[HB,AQ]at hd;obtain⟨haround,tag,f,first,J,hg,hcal,hcall⟩:=R;have hlen:=O.c.h.len;have hev:a.eval g=a.eval g:=rfl;obtain⟨h1,_⟩:=Xr (P:=P) (n:=n) (pre:=[]) (upre:=[]) none false g O.c rfl O.size O.out;simp only[OC,hg,List.nil_append]at h1;have hb1:(AV.fn (.func f) first J).borrow = .fn (.func f) first J:=rfl
  rw[hb1]at h1;have main:∀(fn:FuncId) (D:Nat) (Gm:Gh) (U:World) (mark:List Deferred),Ej F Gm n env H { a with defers:=mark++a.defers } U->Ext F G w Gm U ->
    Ek F Gm (.fn (.func f) first J::HQ n env) H (a.eval g::a.tmps.toList) U ->
    ∃(d:Deferred) (w₁':World) (us:Array Value) (w₂:World),
     (resolve a.eval (rangeCall g U.heap.size) 0).run P (U.alloc (.loop { state:=.ready,pending:=none,fn,tmps:=a.tmps,params:=ps,assign,body,defers:=D })) = .ok d w₁' /\
     (invoke d.target d.args).run P w₁' = .ok (.enter f us) w₂ /\
     CallsIn (gV ro) 0 P f us w₂ (rangePost (gV ro) 0 P U.heap.size QQ { a with defers:=mark++a.defers }):=by
   intro fn D Gm U mark hsm hem hcm;have V:=OA (G:=Gm) hcm.h.fore (.loop { state:=.ready,pending:=none,fn,tmps:=a.tmps,params:=ps,assign,body,defers:=D }) (.loop ⟨tag,ps,assign,body⟩);have hold:∀b,b<U.heap.size->(Gm.newK U.heap.size (.loop ⟨tag,ps,assign,body⟩)).kind b=Gm.kind b/\(U.alloc (.loop { state:=.ready,pending:=none,fn,tmps:=a.tmps,params:=ps,assign,body,defers:=D })).heap[b]? =U.heap[b]?:=λb hb =>
    ⟨Gm.newK_kind_ne _ (Nat.ne_of_lt hb),H8 _ hb⟩
   have hkn:(Gm.newK U.heap.size (.loop ⟨tag,ps,assign,body⟩)).kind U.heap.size = .loop ⟨tag,ps,assign,body⟩:=Gm.kind_set _ _;have hmlen:=hcm.h.len;have hobn:(Gm.newK U.heap.size (.loop ⟨tag,ps,assign,body⟩)).obs[H.length]? =some U.heap.size:=by
    show(Gm.obs++[U.heap.size])[H.length]? =_;rw[AO Fj,hmlen,AP];rfl
   have hyv:HY (.yld H.length ⟨tag,ps,assign,body⟩) (.func (.yield U.heap.size) #[] #[])=[]:=Gs rfl _;have hvr:El (Gm.newK U.heap.size (.loop ⟨tag,ps,assign,body⟩)) (U.alloc (.loop { state:=.ready,pending:=none,fn,tmps:=a.tmps,params:=ps,assign,body,defers:=D })) (.yld H.length ⟨tag,ps,assign,body⟩) (.func (.yield U.heap.size) #[] #[]) :=
    .yld _ _ _ hobn (by rw[size_alloc];omega) hkn
   have hlE:LRel F (Gm.newK U.heap.size (.loop ⟨tag,ps,assign,body⟩)) (HQ n env) a.tmps.toList (U.alloc (.loop { state:=.ready,pending:=none,fn,tmps:=a.tmps,params:=ps,assign,body,defers:=D })) :=
    ⟨hsm.c.l.len,λi a' u q1 q2=>(hsm.c.l.rel i a' u q1 q2).keep V.keeps,λi a' u q1 q2 p hp=>(hsm.c.l.tok i a' u q1 q2 p hp).keep λb hb=>by
     obtain⟨t1,_,C,E,t3⟩:=(hsm.c.l.tok i a' u q1 q2 p hp).of_tok hb;exact⟨t1,hold b (Au.1 t3).1⟩⟩
   have hnew:=hcm.newG (.loop ⟨tag,ps,assign,body⟩) (.loop { state:=.ready,pending:=none,fn,tmps:=a.tmps,params:=ps,assign,body,defers:=D }) (Hl 0 (IY n env))
    (vs:=.fn (.func f) first J :: .yld H.length ⟨tag,ps,assign,body⟩::HQ n env) (us':=a.eval g :: .func (.yield U.heap.size) #[] #[]::a.tmps.toList)
    ⟨λhF=>absurd (hcm.h.fore _ hF) (Bu _),by
     rw[hkn];refine⟨.ready,none,a.tmps,(fn,D),0,IY n env,heap_alloc_new _ _,rfl,rfl,by simp[IY,H9];exact O.size.symm,λi a' u q1 q2=>?_⟩;simp only[IY,Ac]at q1;cases hc:(HQ n env)[i]? with
     |none=>rw[hc]at q1;cases q1
     |some c =>
      rw[hc]at q1;cases q1;exact⟨VP c,((hsm.c.l.rel i c u hc (by rw[Af];exact q2)).borrow).keep V.keeps⟩⟩
    (.cons ((hcm.l.rel 0 _ _ rfl rfl).keep V.keeps) (GC (Sg _ _ _ _) F _ _) (.cons hvr (GC hyv F _ _) hlE))
    (λb=>by rw[Fx,Fx,Fx,hyv,Sg];simp[YJ])
   have hsp:=hnew.split (A:=[.fn (.func f) first J,.yld H.length ⟨tag,ps,assign,body⟩]) (ua:=[a.eval g,.func (.yield U.heap.size) #[] #[]]) rfl;have hcD:=hsp.addD;obtain⟨d,us,hd1,hd2,hcr⟩:=q9 (uargs:=#[.func (.yield U.heap.size) #[] #[]]) hcD hcal;refine⟨d,_,us,_, ?_,hd2, ?_⟩
   ·simpa [resolve,Act.eval,rangeCall]using hd1
   ·have hC:=hcall _ _ _ _ hcr;rw[Array.toArray_toList]at hC;refine CallsIn.mono (show CallsIn (gV ro) 0 P f us _ _ from(callsIn_wide (n:=0)).2 hC) λe w' hen=>?_;obtain⟨u,rfl,v,H',G',⟨st,av,hst,hor⟩,hcr',hext⟩:=hen;have hcb:∀b,Hm b (HQ n env) a.tmps.toList<=1:=λb=>by
     have:Hm b (HQ n env) a.tmps.toList+I3 Gm H U b<=1:=hsm.c.cnt b;omega
    have hj:=U2 (F:=F) hlE hcb (λb hb => .inl (.inl hb)) (λb hb => .inl (.inr hb)) hext hcr';have hE:Ek F G' (HQ n env) H' a.tmps.toList w':=hj.rest;have hob':=hext.keeps.obs _ _ hobn;obtain⟨hl',hkk'⟩:=hext.keeps.sp U.heap.size (by rw[size_alloc];omega) (by rw[hkn];rfl);have hk':G'.kind U.heap.size = .loop ⟨tag,ps,assign,body⟩:=hkk'.trans hkn;obtain⟨r,r1,r2,_⟩:=hE.setLoop hst hob' hk' (s':=.exhausted) (p':=none) rfl;obtain⟨r',r1',r2',_,_,_,_,_,hset,hexs⟩:=hE.setLoop hst hob' hk' (s':=.exhausted) (p':=r.pending) rfl;rw[r1]at r1';cases r1';have hnb:r.state ≠ .busy:=λhb=>by
     rw[hb]at r2;have:st = -1:=by cases r2;rfl
     rcases hor with⟨h,_⟩|⟨h,_⟩|⟨k,h,_⟩<;>omega
    have hfin:∀ex,Q ex env (H'.set H.length none)->QQ ex { a with defers:=mark++a.defers } (w'.putObj U.heap.size (.loop { r with state:=.exhausted })):=λex hq=>by
     refine hQ _ _ _ ⟨env,_,G',hq,⟨O.size, ?_,O.out, ?_⟩,hx.trans (hem.trans (V.trans ((hext.mono λb hb => .inl (.inl hb)).trans hexs)))⟩
     ·refine hsm.defers.keep λb hb=>?_;have hb1:dI (U.alloc (.loop { state:=.ready,pending:=none,fn,tmps:=a.tmps,params:=ps,assign,body,defers:=D })) b:=by
       unfold dI at hb ⊢;rw[H8 _ (Au.1 hb).1];exact hb
      have hb2:dI w' b:=(hext.cells b (.inr hb1)).trans hb1;unfold dI at hb2 ⊢;rw[World.putObj_heap_other (λe=>by subst e;rw[r1]at hb2;cases hb2)];exact hb2
     ·have:=hset.drop H.length;rw[BD]at this;exact this
    refine⟨_,_,run_endLoop (P:=P) r1 hnb, ?_⟩;generalize w'.putObj U.heap.size (.loop { r with state:=.exhausted })=w5 at hfin ⊢;rcases hor with⟨h,hq⟩|⟨h,hq⟩|⟨k,h,hq⟩
    ·subst h;rw[(Oh r2).2];exact hfin _ hq
    ·subst h;rw[(pS r2).2];exact wpIn_ret (hfin _ hq)
    ·subst h;rw[(jd r2).2];exact wpIn_exit (hfin _ hq)
  refine wpIn_rangeFunc λfn _=>?_;cases ro with
  | none =>
   have hca:=O.c.alloc (.deferred (some [])) .imm;have hea:=Qu (F:=F) (G:=G) (w:=w) (.deferred (some [])) .imm O.c.h.fore G.obs (λ_ _ h=>h);have hdf:DOk F (w.alloc (.deferred (some []))) ([{ target:=.collected w.heap.size,args:=#[] }]++a.defers):=by
    obtain⟨bs,b1,b2,b3⟩:=O.defers;have hlt:∀b∈bs,b<w.heap.size:=λb hb=>(Au.1 (b3 b hb).2).1;refine⟨w.heap.size::bs,by rw[b1];rfl,List.nodup_cons.2 ⟨λhm=>absurd (hlt _ hm) (Bu _),b2⟩,λb hb=>?_⟩;rcases AY.1 hb with rfl|hb
    ·exact⟨λhF=>absurd (O.c.h.fore _ hF) (Bu _),heap_alloc_new _ _⟩
    ·refine⟨(b3 b hb).1, ?_⟩;have:=(b3 b hb).2;unfold dI at this ⊢;rw[H8 _ (hlt b hb)];exact this
   obtain⟨d,w1',us,w2,m1,m2,m3⟩:=main fn w.heap.size (G.setKind w.heap.size .imm) (w.alloc (.deferred (some []))) [{ target:=.collected w.heap.size,args:=#[] }] ⟨O.size,hdf,O.out,hca⟩ hea (h1.alloc (.deferred (some [])) .imm);rw[size_alloc]at m1 m3;exact⟨_,_,_,d,w1',f,us,w2,run_enterLoop_outer (P:=P) fn a.tmps ps assign body,m1,λ_ _=>trivial,m2,λhx=>Bool.noConfusion hx,m3⟩
  |some l0 =>
   obtain⟨r0,hr0⟩:=T.loop hx O.c haround l0 rfl;obtain⟨d,w1',us,w2,m1,m2,m3⟩:=main fn r0.defers G w [] O (.refl F G w) h1;exact⟨_,_,_,d,w1',f,us,w2,run_enterLoop_inner (P:=P) hr0 fn a.tmps ps assign body,m1,λ_ _=>trivial,m2,λhx=>Bool.noConfusion hx,m3⟩
 |.scope _,_,_,_,_,_,_,_,_,_,_,_,_,_,_,_,_,_,R,_=>R.elim
 |.label _,_,_,_,_,_,_,_,_,_,_,_,_,_,_,_,_,_,R,_=>R.elim
 |.goto _,_,_,_,_,_,_,_,_,_,_,_,_,_,_,_,_,_,R,_=>R.elim
 |.refuse _,_,_,_,_,_,_,_,_,_,_,_,_,_,_,_,_,_,R,_=>R.elim
def MJ{P:Program}{n:Nat}{h:Ei}{o tag:Nat}{T:Array Tmp}{g C:Code}(hm:P.follows .mixedOrders=true)(hgc:h.gc=[])(hd:HB h g=true/\HB h C=true)(hps : ∀ p∈T.toList,p<n):
  ∀ (ys:List AV) (H1:Fl) (R:AV->Fl->Prop) (O:List AV),H1[o]? =some (some (Hl 0 O))->O.length=n->T.toList.length=ys.length ->
   Jw P n h (some o) g (λex e2 H2=>ex = .normal /\ ∃av2,H2[o]? =some (some (Hl 0 av2)) /\
    Jw P n h (some o) C (λex e3 H3 => ∃J,H3[o]? =some (some (Hl (-1) J))/\match ex with
     |.normal=>R (.bool true) (H3.set o (some (Hl 0 J)))
     |.ret=>R (.bool false) (H3.set o (some (Hl (-2) J)))
     |.exit k=>R (.bool false) (H3.set o (some (Hl ((k:Int)+1) J)))
     |_=>False) e2 (H2.set o (some (Hl (-1) av2)))) (Ln O T.toList ys (Gw 0 O)) H1 ->
   OH P o ⟨tag,T,g,C⟩ ys H1 R:=by
 intro ys H1 R O hH1 hfl hpl hawp F1 G1 U us b hc hb hk;obtain⟨r,g1,g2,g4,g5,g6,g7,g8,_⟩:=hc.setLoop hH1 hb hk (s':=.ready) (p':=none) rfl;obtain⟨gr,gp⟩:=Oh g2;obtain⟨rs,rp,rf,rt,rps,ra,rb,rd⟩:=r;simp only at g4 g5 g6 g7 g8 gr gp;have g4:=g4.symm;have g5:=g5.symm;have g6:=g6.symm;have gr:=gr.symm;have gp:=gp.symm;subst g4 g5 g6 gr gp;have hul:=hc.l.len;refine⟨_,g1,by rw[<- hul,<- hpl];simp,roundIn_of_wpIn trivial ?_⟩;have hbl:b<U.heap.size:=(Au.1 g1).1;have hframe:Ek F1 G1 (ys++HQ n (Gw 0 O)) H1 (us++rt.toList) U:=by
  rw[Xu _ (Nat.le_of_eq hfl),hfl,AP,List.replicate_zero,List.append_nil];have htl:∀b',Hm b' O rt.toList=0:=λb'=>by
   by_cases h0:0<Hm b' O rt.toList
   ·obtain⟨i,a',u',q1,q2,p,q3,q4⟩:=Sh _ _ h0;have hbo:=(g8 i a' u' q1 (by rw[<- Af];exact q2)).1;have:HY a' u'=[]:=by rw[<- hbo];exact HE _ _
    have hmem:b'∈HY a' u':=CL.2 ⟨p,q3,q4⟩;rw[this]at hmem;cases hmem
   ·omega
  refine⟨hc.l.append ⟨by simpa using g7,λi a' u' q1 q2=>(g8 i a' u' q1 (by rw[<- Af];exact q2)).2,λi a' u' q1 q2=>?_⟩,hc.h,λb'=>?_⟩
  ·have hbo:=(g8 i a' u' q1 (by rw[<- Af];exact q2)).1;exact GC (by rw[<- hbo];exact HE _ _) F1 G1 U
  ·rw[G7 _ _ _ _ _ hul,htl];exact hc.cnt b'
 have hrt:rt.size=n:=by rw[<- g7,hfl]
 obtain⟨hc2,hsz,hout⟩:=U_ (vals:=O) T.toList ys us (Gw 0 O) rt hframe hul hrt hps (λt ht=>by
  rw[Lf,iP (BS _),A0 (by rw[BZ,hfl];exact ht)];rfl) hpl
 have hfold:((T.zip us.toArray).foldl (λtmps (t,a)=>tmps.setIfInBounds t a) rt)=((T.toList.zip us).foldl (λ(t:Array Value) (x:Tmp×Value)=>t.setIfInBounds x.1 x.2) rt):=by
  rw[<- Array.foldl_toList,Array.toList_zip]
 simp only[hfold];have hs1:Ej F1 G1 n (Ln O T.toList ys (Gw 0 O)) H1 { tmps:=(T.toList.zip us).foldl (λ(t:Array Value) (x:Tmp×Value)=>t.setIfInBounds x.1 x.2) rt,defers:=[] } U :=
  ⟨hsz,.nil F1 U,hout,hc2⟩
 have har1:gQ G1 U (some b) (some o):=⟨hb,⟨_,hk⟩,hbl⟩;refine Js hm g (some b) (some o) F1 G1 U (.inl hgc) har1 hd.1 _ _ G1 _ H1 _ U hs1 (.refl F1 G1 U) hawp λex a2 w2 hl=>?_;obtain⟨e2,H2,G2,⟨rfl,av2,hH2,hbody⟩,hs2,he2⟩:=hl;have hob2:G2.obs[o]? =some b:=he2.keeps.obs _ _ hb;obtain⟨hbl2,hkk2⟩:=he2.keeps.sp b hbl (by rw[hk];rfl);have hk2:G2.kind b = .loop ⟨tag,T,g,C⟩:=hkk2.trans hk;obtain⟨r2,j1,j2,j4,j5,j6,j7,j8,j9,j10⟩:=hs2.c.setLoop hH2 hob2 hk2 (s':=.busy) (p':=none) rfl;obtain⟨jr,jp⟩:=Oh j2;have I:=run_beginRound (P:=P) j1 jr;rw[show({ r2 with state:=.busy }:Loop)={ r2 with state:=.busy,pending:=none } by rw[<- jp]]at I;refine⟨_,I, ?_⟩;have V:DOk F1 (w2.putObj b (.loop { r2 with state:=.busy,pending:=none })) a2.defers:=hs2.defers.keep λb' hb'=>by
  unfold dI at hb' ⊢;rw[World.putObj_heap_other (λe=>by subst e;rw[j1]at hb';cases hb')];exact hb'
 generalize w2.putObj b (.loop { r2 with state:=.busy,pending:=none })=w3 at j9 j10 V ⊢;have he3:=he2.trans j10
 ·have hs3:Ej F1 G2 n e2 (H2.set o (some (Hl (-1) av2))) a2 w3:=⟨hs2.size,V,hs2.out,j9⟩;refine Js hm C (some b) (some o) F1 G1 U (.inl hgc) har1 hd.2 _ _ G2 e2 _ a2 w3 hs3 he3 hbody λex a4 w4 hl=>?_;obtain⟨e4,H4,G4,⟨J,hH4,hR⟩,hs4,he4⟩:=hl;have hob4:G4.obs[o]? =some b:=he4.keeps.obs _ _ hb;obtain⟨hbl4,hkk4⟩:=he4.keeps.sp b hbl (by rw[hk];rfl);have hk4:G4.kind b = .loop ⟨tag,T,g,C⟩:=hkk4.trans hk;have fin:∀(j:Option Code) (s':LoopState) (st':Int) (Q':Prop),s'=(if j.isNone then .ready else .done)->NP s' j=some st'->R (.bool j.isNone) (H4.set o (some (Hl st' J))) ->
    ∃v w',(Instr.endRound b j).run P w4 = .ok v w' /\ ∃u,Ending.returned v = .returned u/\GB F1 G1 U R u w':=by
   intro j s' st' _ hs' hst hR';obtain⟨r4,i1,i2,i4,i5,i6,i7,i8,i9,i10⟩:=hs4.c.setLoop hH4 hob4 hk4 (s':=s') (p':=j) hst;refine⟨_,_,run_endRound (P:=P) j i1,_,rfl,.bool j.isNone,_,G4,hR', ?_, ?_⟩
   ·rw[<- hs'];exact i9.plain (.bool _) (Gs rfl _)
   ·rw[<- hs'];exact he4.trans i10
  cases ex with
  |normal=>exact fin none .ready 0 True rfl rfl hR
  |ret=>exact fin (some .ret) .done (-2) True rfl rfl hR
  |exit k=>exact fin (some (.exit k)) .done _ True rfl rfl hR
  |_=>exact hR.elim
end Go.AI
