/- Operations that may be done in either order;a region whose order is left open. -/
import Derived.Test.YtfohpcndcpadgaaGreatDoorLd
set_option linter.unusedSimpArgs false
set_option linter.unusedVariables false
set_option linter.defProp false
open List renaming all_eq_true->Ao,getElem?_eq_some_iff->AD,getElem?_set_ne->A2,getElem?_set_self->Aw,set_comm->B8
namespace Go.AI
def Po(g:List Operand):List Tmp:=g.filterMap fun | .tmp t=>some t|_=>none
def JN(h:Hint)(o:Oper):List Tmp:=if GU h o then Po o.op.operands.toList else[]
def X8(a b:Nat):Bool:=(a<=3&&b<=3&&(a==0||b==0||(a<=2&&b<=2)))||(a==0&&b==5)||(a==5&&b==0)
def Mw(h:Hint)(ops:Array Oper)(x y:Oper):Bool :=
 x.apart ops y&&(JN h x).all (λt => !(y.looksAt ops).contains t)&&(JN h y).all (λt => !(x.looksAt ops).contains t)&&(X8 (He h x) (He h y)||(S5 h x&&He h y==5))
def SX(K:GO->Fl->Prop):Prop:=∀e g H,(∀t,GJ e t=GJ g t)->K e H->K g H
section
variable{P:Program}{n:Nat}{h:Hint}{ops:Array Oper}
def AAQ{ty:Option TypeId}{x:Operand}{e g:GO}(i:∀t,x = .tmp t->GJ e t=GJ g t):Hh P ty e x=Hh P ty g x:=by
 cases x<;>first|exact i _ rfl|rfl
def AE4{g:Option TypeId}{take:Bool}{x:Operand}{e:GO}{t:Tmp}(i:take=true->x ≠ .tmp t):GJ (OC P g take x e).2 t=GJ e t:=by
 cases take with
 |false=>rfl
 | true =>
  simp only[OC];split
  ·rename_i j _;simp only[GJ];rw[iN (λe=>i rfl (by rw[e]))]
  ·rfl
def AAR{ty:Option TypeId}{take:Bool}{x:Operand}{e e':GO}(j : ∀ t,x = .tmp t->GJ e t=GJ e' t):
  (OC P ty take x e).1=(OC P ty take x e').1 /\ ∀t,GJ e t=GJ e' t->GJ (OC P ty take x e).2 t=GJ (OC P ty take x e').2 t:=by
 have i:=AAQ (P:=P) (ty:=ty) j;cases take with
 |false=>exact⟨by simp only[OC,i],λt g=>g⟩
 | true =>
  refine⟨by simp only[OC,i],λt g=>?_⟩;simp only[OC,i];cases x with
  | tmp o =>
   cases(Hh P ty e' (.tmp o)).owned
   ·exact g
   ·simp only[GJ];split
    ·rw[j o rfl]
    ·exact g
  |_=>cases(Hh P ty e' _).owned<;>exact g
def Qv{ty:Option TypeId}{take:Bool}: ∀(i:List Operand) (e e':GO),(∀t∈Po i,GJ e t=GJ e' t) ->
  (Pb P ty take i e).1=(Pb P ty take i e').1 /\ ∀t,GJ e t=GJ e' t->GJ (Pb P ty take i e).2 t=GJ (Pb P ty take i e').2 t
 |[],e,e',_=>⟨rfl,λt g=>g⟩
 | x::i,e,e',o=>by
  have j:=AAR (P:=P) (ty:=ty) (take:=take) (x:=x) (e:=e) (e':=e') (λt g=>o t (by subst g;simp[Po]));have p:=Qv (ty:=ty) (take:=take) i (OC P ty take x e).2 (OC P ty take x e').2 (λt g=>j.2 t (o t (by
   cases x<;>simp[Po]at g ⊢ <;> first|exact .inr g|exact g)))
  simp only[Pb];exact⟨by rw[j.1,p.1],λt g=>p.2 t (j.2 t g)⟩
def lI{p:Option TypeId}{take:Bool}: ∀(g:List Operand) (e:GO) (t:Tmp),(take=true->t∉Po g)->GJ (Pb P p take g e).2 t=GJ e t
 |[],e,t,_=>rfl
 |x::g,e,t,o=>by
  simp only[Pb];rw[lI g _ t (λi j=>o i (by cases x<;>simp[Po]at j ⊢ <;> first|exact .inr j|exact j)),AE4 (λi r=>o i (by subst r;simp[Po]))]
def Vb(P:Program)(h:Hint)(ops:Array Oper)(o:Oper)(e:GO)(v:AV):GO :=
 match nc ops e o with
 |some true=>put o.dst v (Pb P (IA o) (GU h o) o.op.operands.toList e).2
 |_=>put o.dst v e
def L4(P:Program)(n:Nat)(h:Hint)(ops:Array Oper)(o:Oper)(e:GO)(H:Fl)(v:AV)(g:Fl):Prop :=
 match nc ops e o with
 |some true=>HO n o.dst/\Fact P h o (Pb P (IA o) (GU h o) o.op.operands.toList e).1 H v g
 |some false=>HO n o.dst/\v = .tup []/\g=H
 |none=>False
def MW{o:Oper}{K:GO->Fl->Prop}{e:GO}{H:Fl}(p:He h o≠4)(g:JK P n h ops o K e H): ∃v j,L4 P n h ops o e H v j/\K (Vb P h ops o e v) j:=by
 unfold JK at g;split at g
 ·rename_i i;obtain⟨v,j,r,t⟩:=Un p g.2;refine⟨v,j, ?_, ?_⟩
  ·unfold L4;rw[i];exact⟨g.1,t⟩
  ·simp only[Vb,i];exact r
 ·rename_i i;refine⟨.tup [],H, ?_, ?_⟩
  ·unfold L4;rw[i];exact⟨g.1,rfl,rfl⟩
  ·simp only[Vb,i];exact g.2
 ·exact g.elim
def WH{o:Oper}{K:GO->Fl->Prop}{e:GO}{H p:Fl}{v:AV}(g:L4 P n h ops o e H v p)(j:K (Vb P h ops o e v) p):JK P n h ops o K e H:=by
 unfold L4 at g;unfold JK;split at g
 ·rename_i i;simp only[Vb,i]at j;rw[i];exact⟨g.1,g.2.again _ j⟩
 ·rename_i i;simp only[Vb,i]at j;obtain⟨r,rfl,rfl⟩:=g;rw[i];exact⟨r,j⟩
 ·exact g.elim
def Uo{o:Oper}{e g:GO}(r:∀t∈o.looksAt ops,GJ e t=GJ g t):nc ops e o=nc ops g o:=by
 unfold nc;cases C:o.guard with
 |none=>rfl
 | some p =>
  obtain⟨j,i⟩:=p;simp only;cases I:(ops[j]?).bind (·.dst)with
  |none=>rfl
  |some d =>
   simp only;rw[r d (by simp[Oper.looksAt,C,I])]
def Od{o:Oper}{t:Tmp}(g:t∈Po o.op.operands.toList):t∈o.looksAt ops:=by
 unfold Oper.looksAt;exact List.mem_append_left _ g
def L4.env{o:Oper}{e g:GO}{H i:Fl}{v:AV}(j:L4 P n h ops o e H v i)(p:∀t∈o.looksAt ops,GJ e t=GJ g t):L4 P n h ops o g H v i:=by
 unfold L4 at j ⊢;rw[<- Uo p,<- (Qv (P:=P) (ty:=IA o) (take:=GU h o) o.op.operands.toList e g λt r=>p t (Od r)).1];exact j
def L4.heap0{o:Oper}{e:GO}{H j:Fl}{v:AV}(g:L4 P n h ops o e H v j)(p:He h o=0):j=H /\ ∀i,L4 P n h ops o e i v i:=by
 unfold L4 at g ⊢;split at g
 ·obtain⟨r,t⟩:=g.2.c0 p;refine⟨r,λi=>⟨g.1,Fact.pure p λC I J=>t C I J⟩⟩
 ·exact⟨g.2.2,λi=>⟨g.1,g.2.1,rfl⟩⟩
 ·exact g.elim
def L4.heap1{o:Oper}{e:GO}{H I:Fl}{v:AV}(g:L4 P n h ops o e H v I)(O:He h o=1):I=H /\ ∀j,Hc j=Hc H->L4 P n h ops o e j v j:=by
 unfold L4 at g ⊢;split at g
 ·obtain⟨R,J⟩:=g.2.c1 O;exact⟨R,λj t=>⟨g.1,λp r=>J j p t r,λe=>Fj,λ_=>⟨rfl,λC p i r=>J C p (i.trans t) r⟩,λe=>Fj,λT C p i r=>g.2.ld T C p (by rw[<- t];exact i) r,λe=>Fj⟩⟩
 ·exact⟨g.2.2,λj _=>⟨g.1,g.2.1,rfl⟩⟩
 ·exact g.elim
def L4.ld{o:Oper}{e:GO}{H J:Fl}{v:AV}(g:L4 P n h ops o e H v J)(r:S5 h o=true){t:Fl}(C:∃ext,Hc t=Hc H++ext):L4 P n h ops o e t v t:=by
 have V:=JF r;unfold L4 at g ⊢;split at g
 ·exact⟨g.1,λj p=>g.2.ld r t j C p,λe=>Fj,λ_=>⟨rfl,λI j i p=>g.2.ld r I j (by rw[i];exact C) p⟩,λe=>Fj,λ_ I j i p=>g.2.ld r I j (by
   obtain⟨O,R⟩:=C;obtain⟨T,U⟩:=i;exact⟨O++T,by rw[U,R,List.append_assoc]⟩) p,λe=>Fj⟩
 ·exact⟨g.1,g.2.1,rfl⟩
 ·exact g.elim
def L4.c5{o:Oper}{e:GO}{H i:Fl}{v:AV}(g:L4 P n h ops o e H v i)(j:He h o=5): ∃ext,i=H++ext:=by
 unfold L4 at g;split at g
 ·exact g.2.c5 j
 ·exact⟨[],by simp[g.2.2]⟩
 ·exact g.elim
def L4.heap2{o:Oper}{e:GO}{H i:Fl}{v:AV}(g:L4 P n h ops o e H v i)(j:He h o=2):Hc i=Hc H:=by
 unfold L4 at g;split at g
 ·exact(g.2.c2 j).1
 ·rw[g.2.2]
 ·exact g.elim
def L4.heap2'{o:Oper}{e:GO}{H J:Fl}{v:AV}(t:L4 P n h ops o e H v J)(hc:He h o=2):(J=H /\ ∀p,L4 P n h ops o e p v p) \/
  ∃(r g:Nat) (C:List AV),H[r]? =some (some C)/\C[g]? =some v/\GY v=true/\J=H.set r (some (C.set g (borrow1 v))) /\
   ∀(p:Fl) (j:List AV),p[r]? =some (some j)->j[g]? =some v->L4 P n h ops o e p v (p.set r (some (j.set g (borrow1 v)))):=by
 have O:∀{r g:Nat} {p:Fl} {j:List AV},p[r]? =some (some j)->j[g]? =some v->Hc (p.set r (some (j.set g (borrow1 v))))=Hc p:=λ{r g p j} R I=>bA R (by
  apply List.ext_getElem?;intro i;simp only[List.getElem?_map,List.getElem?_set];split
  ·rename_i hi;subst hi;rw[iP (AD.1 I).1,I];simp[Oy]
  ·rfl)
 unfold L4 at t ⊢;split at t
 ·rcases(t.2.c2 hc).2 with⟨R,I⟩|⟨r,g,C,g1,g2,g3,g4,g5⟩
  ·exact .inl ⟨R,λp=>⟨t.1,λT U=>I p T U,λe=>Fj,λe=>Fj,λ_=>⟨rfl,.inl ⟨rfl,I⟩⟩,λV=>by have:=JF V;omega,λe=>Fj⟩⟩
  ·exact .inr ⟨r,g,C,g1,g2,g3,g4,λp j k1 k2=>⟨t.1,λT U=>g5 p j T k1 k2 U,λe=>Fj,λe=>Fj,λ_=>⟨O k1 k2,.inr ⟨r,g,j,k1,k2,g3,rfl,g5⟩⟩,λV=>by have:=JF V;omega,λe=>Fj⟩⟩
 ·exact .inl ⟨t.2.2,λp=>⟨t.1,t.2.1,rfl⟩⟩
 ·exact t.elim
def ZF(a:AV):GY (borrow1 a)=false:=by cases a<;>rfl
def L4.swap{x y:Oper}{e e':GO}{H H1 p:Fl}{v u:AV}(r:L4 P n h ops x e H v H1)(o:L4 P n h ops y e' H1 u p)(J:X8 (He h x) (He h y)=true\/(S5 h x=true/\He h y=5)):
  ∃O,L4 P n h ops y e' H u O/\L4 P n h ops x e O v p:=by
 by_cases h0:He h x=0
 ·obtain⟨rfl,i⟩:=r.heap0 h0;exact⟨p,o,i p⟩
 by_cases h1:He h y=0
 ·obtain⟨rfl,j⟩:=o.heap0 h1;exact⟨H,j H,r⟩
 rcases J with J|⟨hl,h5⟩
 case inr =>
  obtain⟨rfl,_⟩:=r.heap1 (JF hl);obtain⟨ext,rfl⟩:=o.c5 h5;exact⟨_,o,r.ld hl ⟨Hc ext,by simp[Hc]⟩⟩
 have hb:He h x<=2/\He h y<=2:=by
  simp[X8,h0,h1]at J;exact⟨J.2.1,J.2.2⟩
 by_cases hx1:He h x=1
 ·obtain⟨rfl,i⟩:=r.heap1 hx1;have hv:Hc p=Hc H1:=by
   by_cases t:He h y=1
   ·rw[(o.heap1 t).1]
   ·exact o.heap2 Fj
  exact⟨p,o,i p hv⟩
 have R:He h x=2:=Fj;by_cases t:He h y=1
 ·obtain⟨rfl,j⟩:=o.heap1 t;exact⟨H,j H (r.heap2 R).symm,r⟩
 have hy2:He h y=2:=Fj;rcases r.heap2' R with⟨rfl,i⟩|⟨ob,off,cs,g1,g2,g3,rfl,g5⟩
 ·exact⟨p,o,i p⟩
 rcases o.heap2' hy2 with⟨rfl,j⟩|⟨C,g,T,k1,U,k3,rfl,k5⟩
 ·exact⟨H,j H,r⟩
 have V:=(AD.1 g1).1;by_cases ho:C=ob
 ·subst ho;rw[Aw V]at k1;cases k1;have I:g≠off:=by
   rintro rfl;rw[Aw (AD.1 g2).1]at U;cases U;rw[ZF]at k3;cases k3
  rw[A2 (Ne.symm I)]at U;refine⟨_,k5 H cs g1 U, ?_⟩;have:=g5 (H.set C (some (cs.set g (borrow1 u)))) (cs.set g (borrow1 u)) (Aw V) (by rw[A2 I];exact g2);rw[List.set_set]at this ⊢;rw[B8 _ _ I]at this;exact this
 ·rw[A2 (Ne.symm ho)]at k1;refine⟨_,k5 H T k1 U, ?_⟩;have:=g5 (H.set C (some (T.set g (borrow1 u)))) cs (by rw[A2 ho];exact g1) g2;rw[B8 _ _ ho]at this;exact this
def St(d:Option Tmp)(v:AV)(e:GO)(t:Tmp):GJ (put d v e) t=if d=some t then v else GJ e t:=by
 cases d with
 |none=>simp[put]
 |some d=>simp[put,GJ]
def Ig{o:Oper}{e:GO}{v:AV}{t:Tmp}(j:o.dst≠some t)(p:t∉JN h o):GJ (Vb P h ops o e v) t=GJ e t:=by
 have g:GJ (Pb P (IA o) (GU h o) o.op.operands.toList e).2 t=GJ e t:=lI _ e t λi=>by
  simpa [JN,i]using p
 unfold Vb;split<;>rw[St,iN j];exact g
def LB{o:Oper}{e i:GO}{v:AV}(r:∀t∈o.looksAt ops,GJ e t=GJ i t){t:Tmp}(j:o.dst=some t\/GJ e t=GJ i t):GJ (Vb P h ops o e v) t=GJ (Vb P h ops o i v) t:=by
 have p:=(Qv (P:=P) (ty:=IA o) (take:=GU h o) o.op.operands.toList e i λt j=>r t (Od j)).2;unfold Vb;rw[<- Uo r];split<;>rw[St,St]<;>split
 ·rfl
 ·rcases j with g|g
  ·exact absurd g ‹_›
  ·exact p t g
 ·rfl
 ·rcases j with g|g
  ·exact absurd g ‹_›
  ·exact g
def Xh{x y:Oper}(i:Mw h ops x y=true):(∀d,x.dst=some d->d∉y.looksAt ops)/\(∀d,x.dst=some d->y.dst≠some d)/\(∀d,y.dst=some d->d∉x.looksAt ops) /\
  (∀t∈JN h x,t∉y.looksAt ops)/\(∀t∈JN h y,t∉x.looksAt ops)/\(X8 (He h x) (He h y)=true\/(S5 h x=true/\He h y=5)):=by
 simp only[Mw,Bool.and_eq_true]at i;obtain⟨⟨⟨j,o⟩,p⟩,r⟩:=i;obtain⟨C,I,J⟩:=Oper.apart_spec j;exact⟨C,I,J,λt g=>by simpa using Ao.1 o t g,λt g=>by simpa using Ao.1 p t g,by simpa using r⟩
def Jn{o:Oper}{t:Tmp}(g:t∈JN h o):t∈o.looksAt ops:=by
 unfold JN at g;split at g
 ·exact Od g
 ·cases g
def mA{x y:Oper}{K:GO->Fl->Prop}{e:GO}{H:Fl}(hi:Mw h ops x y=true)(hK:SX K)(ha:JK P n h ops x (JK P n h ops y K) e H):JK P n h ops y (JK P n h ops x K) e H:=by
 obtain⟨i1,i2,i3,i4,i5,i⟩:=Xh hi;have T:He h x≠4:=by
  intro U;rcases i with i|i
  ·rw[U]at i;simp[X8]at i
  ·have:=JF i.1;omega
 have V:He h y≠4:=by
  intro U;rcases i with i|i
  ·rw[U]at i;simp[X8]at i
  ·omega
 obtain⟨v,H1,hx,hya⟩:=MW T ha;obtain⟨u,H2,hy,hk⟩:=MW V hya;have C:∀t∈y.looksAt ops,GJ (Vb P h ops x e v) t=GJ e t:=λt O=>Ig (λI=>i1 t I O) (λJ=>i4 t J O);have hy':=hy.env C;obtain⟨H1',hy2,hx2⟩:=hx.swap hy' i;have R:∀t∈x.looksAt ops,GJ e t=GJ (Vb P h ops y e u) t:=λt O=>(Ig (λI=>i3 t I O) (λJ=>i5 t J O)).symm;have hx3:=hx2.env R;refine WH hy2 (WH hx3 (hK _ _ _ (λt=>?_) hk));by_cases j:y.dst=some t
 · -- t is y's
  have g:x.dst≠some t:=λI=>i2 t I j;have p:t∉JN h x:=λJ=>i3 t j (Jn J);rw[Ig (o:=x) (e:=Vb P h ops y e u) g p];exact LB C (.inl j)
 ·by_cases r:t∈JN h y
  ·have g:x.dst≠some t:=λI=>i1 t I (Jn r);have p:t∉JN h x:=λJ=>i4 t J (Jn r);rw[Ig (o:=x) (e:=Vb P h ops y e u) g p];exact LB C (.inr (Ig g p))
  ·rw[Ig (o:=y) j r];refine LB R ?_;by_cases g:x.dst=some t
   ·exact .inl g
   ·exact .inr (Ig j r).symm
def bg{o:Oper}{j:List AV}{H:Fl}{R R':AV->Fl->Prop}(C : ∀ v U,R v U->R' v U)(g:GA P h o j H R):GA P h o j H R':=by
 by_cases I:He h o=4
 ·obtain⟨dst,op,ty,pos,V,guard⟩:=o;cases op with
  | call c =>
   obtain⟨J,args,ts⟩:=c;cases J with
   | value fo =>
    simp only[He]at I;split at I
    ·split at I<;>omega
    ·rename_i O;split at I
     ·omega
     ·rename_i hq;simp only[Bool.not_eq_true]at O hq;unfold GA at g ⊢;simp only[O,hq]at g ⊢;split at g
      ·exact g.mono C
      ·exact⟨g.1,g.2.mono C⟩
      ·exact g.elim
   |builtin b=>cases b<;>simp only[He]at I<;>first|omega|(split at I<;>omega)
   |invoke r m=>simp[He]at I
  |load t a=>simp only[He]at I;split at I<;>omega
  | binOp op t x y t' =>
   simp only[He]at I;split at I
   ·rename_i hy;unfold GA at g ⊢;cases j with
    |nil=>exact g
    | cons a T=>cases T with
     |nil=>exact g
     | cons b T=>cases T with
      | nil =>
       simp only[hy]at g ⊢;unfold Of at g ⊢;split at g
       ·split at g
        ·exact⟨C _ _ g.1,C _ _ g.2⟩
        ·exact⟨C _ _ g.1,C _ _ g.2⟩
        ·exact C _ _ g
        ·exact C _ _ g
        ·exact C _ _ g
        ·exact C _ _ g
        ·exact g.elim
       ·exact g.elim
      |cons c T=>exact g
   ·omega
  |buildSlice t l ps=>simp only[He]at I;split at I<;>omega
  | range t x =>
   unfold GA at g ⊢;match j,g with
   | [a],g =>
    simp only[SQ]at g ⊢;split at g
    ·exact C _ _ g
    ·exact C _ _ g
    ·split at g
     ·exact C _ _ g
     ·exact g.elim
    ·exact g.elim
  | next x str =>
   unfold GA at g ⊢;match j,g with
   | [.it o'],g =>
    simp only[YQ]at g ⊢;split at g
    ·split at g
     ·rename_i O;rw[iP O];exact C _ _ g
     ·rename_i O;rw[iN O];exact C _ _ g
    ·exact C _ _ g
    ·split at g
     ·exact⟨g.1,λh=>C _ _ (g.2.1 h),λi p h1 h2=>C _ _ (g.2.2 i p h1 h2)⟩
     ·exact g.elim
    ·exact g.elim
  | entry x =>
   unfold GA at g ⊢;match j,g with
   | [.it o'],g =>
    simp only[Up]at g ⊢;split at g
    ·split at g
     ·obtain⟨h1,p,h2,h3⟩:=g;exact⟨h1,p,h2,C _ _ h3⟩
     ·exact g.elim
    ·exact g.elim
  |slice _ _ _ _ _ =>
   simp only[He]at I;split at I<;>omega
  |_=>simp[He]at I
 ·obtain⟨v,U,hr,hf⟩:=Un I g;exact hf.again _ (C _ _ hr)
def Lz{o:Oper}{K i:GO->Fl->Prop}{e:GO}{H:Fl}(j:∀e H,K e H->i e H)(g:JK P n h ops o K e H):JK P n h ops o i e H:=by
 unfold JK at g ⊢;split at g
 ·rename_i p;exact⟨g.1,bg (λv t r=>j _ _ r) g.2⟩
 ·rename_i p;exact⟨g.1,j _ _ g.2⟩
 ·exact g.elim
def AF_{o:Oper}{K:GO->Fl->Prop}(J:SX K):SX (JK P n h ops o K):=by
 intro e C H r i;have g:nc ops e o=nc ops C o:=Uo λt _=>r t;have j:∀(v:AV) t,GJ (Vb P h ops o e v) t=GJ (Vb P h ops o C v) t:=λv t=>LB (λt _=>r t) (.inr (r t));unfold JK at i ⊢;split at i
 ·rename_i p;rw[<- g,p];have I:=(Qv (P:=P) (ty:=IA o) (take:=GU h o) o.op.operands.toList e C λt _=>r t).1;refine⟨i.1, ?_⟩;rw[<- I];refine bg (λv R O=>J _ _ _ (λt=>?_) O) i.2;have:=j v t;simpa only[Vb,p,<- g]using this
 ·rename_i p;rw[<- g,p];refine⟨i.1,J _ _ _ (λt=>?_) i.2⟩;have:=j (.tup []) t;simpa only[Vb,p,<- g]using this
 ·exact i.elim
end
end Go.AI
