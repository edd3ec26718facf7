/- What the functions of the layers field,graph,token,syntax compute,in plain Lean. -/
import Derived.Test.YtfohpcndcpadgaaGreatDoorQd
import Derived.Test.YtfohpcndcpadgaaGreatDoorMf
import Derived.Test.YtfohpcndcpadgaaGreatDoorMe
set_option linter.unusedSimpArgs false
set_option linter.unusedVariables false
set_option linter.defProp false
set_option maxHeartbeats 8000000
open Go.Proofs.Tryz
open Go.AI renaming Sizes->Et,Pred->Eu,Policy->Ev,Regex->Ew,Stage->Ex,Network->Ey,Tenant->Ez,Port->E1,Setup->E3,Head->E4
open Bool renaming and_eq_true->AQ,false_or->BC,not_eq_false'->Cb,not_eq_true'->Bf,not_false->Ay,true_or->BJ
open Int renaming lt_irrefl->AR
open List renaming all_cons->Am,all_nil->A3,any_cons->Av,append_assoc->AF,append_nil->Ai,drop_eq_getElem_cons->BI,drop_zero->BE,getElem?_eq_getElem->AL,getElem?_eq_some_iff->AD,getElem?_take->Ak,length_append->AE,length_cons->AC,length_map->Ap,map_cons->AW,mem_cons->AY,mem_map->AN,mem_of_find?_eq_some->DP,mem_of_getElem?->AB,nil_append->AM
open Nat renaming le_trans->AJ,sub_self->AP,sub_zero->BZ,zero_le->BS
open Go.Proofs.Tryz renaming prog->AA
namespace Go.AI
def i64(n:Int):Int:=IntKind.i64.wrap n
def bz(c:UInt8):Int:=c.toNat
def loB(c:UInt8):Bool:=decide (97<=bz c)&&decide (bz c<=122)
def dgB(c:UInt8):Bool:=decide (48<=bz c)&&decide (bz c<=57)
def wdB(c:UInt8):Bool:=loB c||dgB c||bz c==95
def vu:Nat->List UInt8->Bool
 |_,[]=>true
 |i,c::l=>(loB c||((dgB c||bz c==95)&&i !=0))&&vu (i+1) l
def nmB(s:ByteArray):Bool:=vu 0 s.data.toList&&(decide (1<=(s.size:Int))&&decide ((s.size:Int)<=24))
def NK:List UInt8->Nat
 |[]=>0
 |c::l=>if wdB c then NK l+1 else 0
def U3(s:ByteArray):Bool:=Hu.any (λy=>decide (y=s))
def tnB(s:ByteArray):Bool :=
 (decide (1<=(s.size:Int))&&decide ((s.size:Int)<=24))&&((match s.data.toList with|c::_=>loB c|[]=>false)&&(((NK s.data.toList:Int)==(s.size:Int)) && !U3 s))
def Gd:ByteArray:=⟨#[112,111,114,116]⟩
def WO(s:ByteArray):Bool:=tnB s||decide (s=Gd)
def Q_(a b:Int):Int:=if a<b then b else a
def Sizes.more(a b:Et):Et:=⟨i64 (a.nodes+b.nodes),Q_ a.depth (i64 (b.depth+1))⟩
mutual
def oA:Eu->Et
 |⟨_,_,_,_,args⟩=>Wh args ⟨1,1⟩
def Wh:List Eu->Et->Et
 |[],o=>o
 |x::l,o=>Wh l (o.more (oA x))
end
mutual
def oB:Ev->Et
 |⟨k,p,_,_,args⟩=>Q6 args (if k=1 then Sizes.more ⟨1,1⟩ (oA p)else⟨1,1⟩)
def Q6:List Ev->Et->Et
 |[],o=>o
 |x::l,o=>Q6 l (o.more (oB x))
end
mutual
def szR:Ew->Et
 |⟨_,_,args⟩=>bx args ⟨1,1⟩
def bx:List Ew->Et->Et
 |[],o=>o
 |x::l,o=>bx l (o.more (szR x))
end
def ACO(x:Eu):oA x=Wh x.args ⟨1,1⟩:=by cases x;rw[oA]
def aM(x:Eu)(l:List Eu)(o:Et):Wh (x::l) o=Wh l (o.more (oA x)):=by rw[Wh]
def gj(o:Et):Wh [] o=o:=by rw[Wh]
def b6(x:Ev):oB x=Q6 x.args (if x.kind=1 then Sizes.more ⟨1,1⟩ (oA x.pred)else⟨1,1⟩):=by cases x;rw[oB]
def Nh(x:Ev)(l:List Ev)(o:Et):Q6 (x::l) o=Q6 l (o.more (oB x)):=by rw[Q6]
def Pe(o:Et):Q6 [] o=o:=by rw[Q6]
def AK_(x:Ew):szR x=bx x.args ⟨1,1⟩:=by cases x;rw[szR]
def ux(x:Ew)(l:List Ew)(o:Et):bx (x::l) o=bx l (o.more (szR x)):=by rw[bx]
def ACN(o:Et):bx [] o=o:=by rw[bx]
mutual
def tj:Eu->Eu->Bool
 |⟨k,f,n,m,g⟩,⟨j,o,p,r,i⟩=>(k==j&&(decide (f=o)&&(n==p&&(m==r&&g.length==i.length))))&&Vm g i
def Vm:List Eu->List Eu->Bool
 |[],_=>true
 |x::l,y::r=>tj x y&&Vm l r
 |_::_,[]=>false
end
mutual
def eqO:Ev->Ev->Bool
 |⟨k,p,f,n,g⟩,⟨j,o,r,t,i⟩=>tj p o&&((k==j&&(decide (f=r)&&(n==t&&g.length==i.length)))&&AhO g i)
def AhO:List Ev->List Ev->Bool
 |[],_=>true
 |x::l,y::r=>eqO x y&&AhO l r
 |_::_,[]=>false
end
theorem Je(x y:Eu):tj x y=((x.kind==y.kind&&(decide (x.field=y.field)&&(x.n==y.n&&(x.m==y.m&&x.args.length==y.args.length))))&&Vm x.args y.args):=by cases x;cases y;rw[tj]
theorem Jq(x y:Eu)(l r:List Eu):Vm (x::l) (y::r)=(tj x y&&Vm l r):=by rw[Vm]
theorem My(l:List Eu):Vm [] l=true:=by rw[Vm]
def P2:List ByteArray->List ByteArray->Bool
 |[],_=>true
 |x::l,y::r=>decide (x=y)&&P2 l r
 |_::_,[]=>false
theorem Ka(x y:ByteArray)(l r:List ByteArray):P2 (x::l) (y::r)=(decide (x=y)&&P2 l r):=by rw[P2]
theorem Mv(l:List ByteArray):P2 [] l=true:=by rw[P2]
def gW(x y:Stp):Bool :=
 (x.kind==y.kind&&(decide (x.var=y.var)&&(decide (x.field=y.field)&&(x.n==y.n&&(x.m==y.m&&x.key.length==y.key.length)))))&&P2 x.key y.key
def OQ(n:Int):Bool:=decide (0<=n)&&decide (n<=65535)
def J8(x:Eu):Bool:=decide (x.field=⟨#[]⟩)&&(x.n==0&&x.m==0)
def UG(x:Eu):Bool×Nat :=
 if x.kind=1\/x.kind=2 then(J8 x,0)
 else if x.kind=3 then(WO x.field&&(OQ x.n&&x.m==0),0)
 else if x.kind=4 then(WO x.field&&(OQ x.n&&(decide (0<=x.m)&&decide (x.m<=16))),0)
 else if x.kind=5 then(WO x.field&&(decide (0<=x.n)&&(decide (x.n<=x.m)&&decide (x.m<=65535))),0)
 else if x.kind=6 then(J8 x,1)
 else if x.kind=7\/x.kind=8 then(J8 x,2)
 else if x.kind=9 then(decide (x.field=⟨#[]⟩)&&(decide (0<=x.n)&&(decide (x.n<x.m)&&decide (x.m<=1073741824))),0)
 else(false,0)
mutual
def OR:Eu->Bool
 |⟨k,f,n,m,g⟩=>((UG ⟨k,f,n,m,g⟩).1&&g.length==(UG ⟨k,f,n,m,g⟩).2)&&Xm g
def Xm:List Eu->Bool
 |[]=>true
 |x::l=>OR x&&Xm l
end
theorem Ic(x:Eu):OR x=(((UG x).1&&x.args.length==(UG x).2)&&Xm x.args):=by cases x;rw[OR]
def LQ(x:Eu)(l:List Eu):Xm (x::l)=(OR x&&Xm l):=by rw[Xm]
def Ib:Xm []=true:=by rw[Xm]
abbrev Qw:Eu:=Pred.z
def W_(x:Ev):Bool×Nat :=
 if x.kind=1 then(OR x.pred&&(decide (x.field=⟨#[]⟩)&&x.n==0),0)
 else if x.kind=2 then(WO x.field&&(tj x.pred Qw&&OQ x.n),0)
 else if x.kind=3\/x.kind=4 then(tj x.pred Qw&&(decide (x.field=⟨#[]⟩)&&x.n==0),2)
 else if x.kind=5 then(tj x.pred Qw&&(decide (x.field=⟨#[]⟩)&&x.n==0),1)
 else(false,0)
mutual
def S':Ev->Bool
 |⟨k,p,f,n,g⟩=>((W_ ⟨k,p,f,n,g⟩).1&&g.length==(W_ ⟨k,p,f,n,g⟩).2)&&Xn g
def Xn:List Ev->Bool
 |[]=>true
 |x::l=>S' x&&Xn l
end
theorem I9(x:Ev):S' x=(((W_ x).1&&x.args.length==(W_ x).2)&&Xn x.args):=by cases x;rw[S']
def LR(x:Ev)(l:List Ev):Xn (x::l)=(S' x&&Xn l):=by rw[Xn]
def Jc:Xn []=true:=by rw[Xn]
def okR(x:Ew):Bool×Nat :=
 if x.kind=1\/x.kind=3 then(decide (x.node=⟨#[]⟩),0)
 else if x.kind=2 then(tnB x.node,0)
 else if x.kind=4\/x.kind=5 then(decide (x.node=⟨#[]⟩),2)
 else if x.kind=6 then(decide (x.node=⟨#[]⟩),1)
 else(false,0)
mutual
def fmR:Ew->Bool
 |⟨k,n,g⟩=>((okR ⟨k,n,g⟩).1&&g.length==(okR ⟨k,n,g⟩).2)&&dO g
def dO:List Ew->Bool
 |[]=>true
 |x::l=>fmR x&&dO l
end
theorem SH(x:Ew):fmR x=(((okR x).1&&x.args.length==(okR x).2)&&dO x.args):=by cases x;rw[fmR]
def bI(x:Ew)(l:List Ew):dO (x::l)=(fmR x&&dO l):=by rw[dO]
def AEq:dO []=true:=by rw[dO]
def Rz(z:Et):Int:=if z.nodes>200\/z.depth>20 then 2 else 0
def tf(z:Et)(b:Bool):Int:=if Rz z=0 then(if b then 0 else 1)else Rz z
def ckP(x:Eu):Int:=tf (oA x) (OR x)
def WT(x:Ev):Int:=tf (oB x) (S' x)
def ckR(x:Ew):Int:=tf (szR x) (fmR x)
abbrev AAT:Stp:=Stp.z
def bH(x:Stp):Bool :=
 if gW x AAT then true
 else if !tnB x.var\/x.key.length<1\/4<x.key.length \/ !x.key.all WO then false
 else if x.kind=1 then(WO x.field||decide (x.field=⟨#[]⟩))&&(x.n==0&&x.m==0)
 else if x.kind=2 then decide (x.field=⟨#[]⟩)&&(x.n==0&&x.m==0)
 else if x.kind=3 then decide (x.field=⟨#[]⟩)&&(decide (0<=x.n)&&(decide (x.n<=1073741824)&&x.m==0))
 else if x.kind=4 then WO x.field&&(decide (0<=x.n)&&(decide (x.n<=x.m)&&decide (x.m<=65535)))
 else if x.kind=5 then WO x.field&&(x.n==0&&x.m==0)
 else if x.kind=6 then decide (x.field=⟨#[]⟩)&&(decide (1<=x.n)&&(decide (x.n<=65535)&&(decide (1<=x.m)&&decide (x.m<=1073741824))))
 else false
def gY(x:Stp):Int:=if bH x then 0 else 1
def RC:List Ex->Int
 |[]=>0
 |x::l=>if WT x.policy=0 then(if gY x.step=0 then RC l else gY x.step)else WT x.policy
def Y6(l:List Ex):Int:=if 8<l.length then 2 else RC l
mutual
def Pf:Ev->Int
 |⟨k,_,_,_,args⟩=>if k=5 then i64 (Kj args 0+1)else Kj args 0
def Kj:List Ev->Int->Int
 |[],o=>o
 |x::l,o=>Kj l (Q_ o (Pf x))
end
mutual
def aX:Ev->Int
 |⟨k,_,_,_,args⟩=>if k=2 then i64 (Mm args 0+1)else Mm args 0
def Mm:List Ev->Int->Int
 |[],o=>o
 |x::l,o=>Mm l (i64 (o+aX x))
end
theorem Ni(x:Ev):Pf x=if x.kind=5 then i64 (Kj x.args 0+1)else Kj x.args 0:=by cases x;rw[Pf]
def b_(x:Ev)(l:List Ev)(o:Int):Kj (x::l) o=Kj l (Q_ o (Pf x)):=by rw[Kj]
def gq(o:Int):Kj [] o=o:=by rw[Kj]
theorem Pk(x:Ev):aX x=if x.kind=2 then i64 (Mm x.args 0+1)else Mm x.args 0:=by cases x;rw[aX]
def iY(x:Ev)(l:List Ev)(o:Int):Mm (x::l) o=Mm l (i64 (o+aX x)):=by rw[Mm]
def oP(o:Int):Mm [] o=o:=by rw[Mm]
def Pv(x:Ev):Bool :=
 let n:=Pf x
 let k:=aX x
 n==0||(n==1&&decide (k<=8)||(n==2&&decide (k<=4)||(n==3&&decide (k<=3)||n==4&&decide (k<=2))))
def ZW(x:Eu):Bool:=decide ((oA x).nodes<=400)&&decide ((oA x).depth<=60)
def qZ(x:Ev):Bool:=decide ((oB x).nodes<=400)&&(decide ((oB x).depth<=60)&&decide ((oA x.pred).nodes<=400))
def lG(x:Ew):Bool:=decide ((szR x).nodes<=400)&&decide ((szR x).depth<=60)
def Lv(l:List Ex):Bool:=l.all λx=>qZ x.policy&&decide ((x.step.key.length:Int)<=20)
def P'(l:List Ex):Bool:=Lv (l.take 12)&&decide ((l.length:Int)<=12)
def qa(n:Ey)(a b c:Int):Bool:=decide ((n.nodes.length:Int)<=a)&&(decide ((n.links.length:Int)<=b)&&decide ((n.edges.length:Int)<=c))
def Mx(t:Ez):Bool :=
 (P' t.program&&(decide ((t.ports.length:Int)<=80)&&(decide ((t.wires.length:Int)<=80)&&(decide ((t.routes.length:Int)<=20)&&decide ((t.demands.length:Int)<=80))))) &&
  ((t.program.all λx=>decide (Pf x.policy<=2)&&Pv x.policy)&&(t.routes.all λx=>ZW x.pred&&lG x.path))
def T9(f:Fld):Bool :=
 decide (1<=f.width)&&(decide (f.width<=16)&&(decide (16<=f.at_)&&(decide (f.at_<=143)&&decide (f.at_ % 16+f.width<=16))))
def Lh(a b:Fld):Bool:=decide (a.at_<i64 (b.at_+b.width))&&decide (b.at_<i64 (a.at_+a.width))
def I1(l:List Fld):Nat->List Fld->Int
 |_,[]=>0
 |i,x::r=>if !nmB x.name\/x.name=Gd then 4 else if(l.take i).any (λy=>decide (y.name=x.name))then 4
  else if !T9 x then 1 else if(l.take i).any (λy=>Lh y x)then 1 else I1 l (i+1) r
def PU(l:List Fld):Int:=if 16<l.length then 2 else I1 l 0 l
def JU(n:Ey)(k:Int):Bool:=decide (0<=k)&&decide (k<n.nodes.length)
def KE:Fld:=⟨Gd,0,16⟩
def Ft(l:List Fld)(s:ByteArray):Fld×Bool :=
 if s=Gd then(KE,true)else match l.find? (λf=>decide (f.name=s))with
  |some f=>(f,true)
  |none=>(Fld.z,false)
def Q7:Nat->Int
 | 0=>1
 |n+1=>i64 (Q7 n*2)
def JY(f:Fld):Int:=i64 (Q7 f.width.toNat - 1)
mutual
def T5:Eu->List Eu
 |⟨k,f,n,m,g⟩=>⟨k,f,n,m,g⟩::Nn g
def Nn:List Eu->List Eu
 |[]=>[]
 |x::l=>T5 x++Nn l
end
mutual
def No:Ev->List Ev
 |⟨k,p,f,n,g⟩=>⟨k,p,f,n,g⟩::NB g
def NB:List Ev->List Ev
 |[]=>[]
 |x::l=>No x++NB l
end
def MO(x:Eu):T5 x=x::Nn x.args:=by cases x;rw[T5]
def KN(x:Eu)(l:List Eu):Nn (x::l)=T5 x++Nn l:=by rw[Nn]
def MZ:Nn []=[]:=by rw[Nn]
def Ld(x:Ev):No x=x::NB x.args:=by cases x;rw[No]
def JX(x:Ev)(l:List Ev):NB (x::l)=No x++NB l:=by rw[NB]
def LE:NB []=[]:=by rw[NB]
def Lb(x:Eu):Fo x.c=x.field.size+5+Fo (Gn x.args):=by
 show Fo [_,_,_,_,_]=_;simp only[Fo,AV.bulk];omega
def Jg(x:Ev):Fo x.c=Fo x.pred.c+x.field.size+4+Fo (GX x.args):=by
 show Fo [_,_,_,_,_,_,_,_,_]=_;rw[Lb];simp only[Fo,AV.bulk];omega
def ib:∀x:Eu,(T5 x).length<=Fo x.c:=by
 refine Jk _ λx i=>?_;rw[MO,Lb,IP];have:∀l:List Eu,(∀y∈l,(T5 y).length<=Fo y.c)->(Nn l).length<=Fo (l.map λx => .agg x.c):=by
  intro l;induction l with
  |nil=>intro _;simp[MZ]
  |cons y l g =>
   intro h;have o:=h y F3;have p:=g λz j=>h z (by simp[j]);rw[KN,AE];simp only[AW,Fo,AV.bulk];omega
 have:=this x.args i;simp only[AC];omega
def Sm:∀x:Ev,(No x).length<=Fo x.c:=by
 refine IM _ λx i=>?_;rw[Ld,Jg,HI];have:∀l:List Ev,(∀y∈l,(No y).length<=Fo y.c)->(NB l).length<=Fo (l.map λx => .agg x.c):=by
  intro l;induction l with
  |nil=>intro _;simp[LE]
  |cons y l g =>
   intro h;have o:=h y F3;have p:=g λz j=>h z (by simp[j]);rw[JX,AE];simp only[AW,Fo,AV.bulk];omega
 have:=this x.args i;simp only[AC];omega
def vG:∀x:Ev,∀y∈No x,Fo y.c<=Fo x.c:=by
 refine IM _ λx j=>λy g=>?_;rw[Ld]at g;rcases AY.1 g with rfl|g
 ·exact Nat.le_refl _
 have:∀l:List Ev,(∀z∈l,∀y∈No z,Fo y.c<=Fo z.c) -> ∀y∈NB l,Fo y.c<=Fo (l.map λx => .agg x.c):=by
  intro l;induction l with
  |nil=>intro _ y g;rw[LE]at g;cases g
  |cons z l i =>
   intro h y g;rw[JX]at g;simp only[AW,Fo,AV.bulk];rcases List.mem_append.1 g with g|g
   ·have:=h z F3 y g;omega
   ·have:=i (λz o=>h z (by simp[o])) y g;omega
 have:=this x.args j y g;have p:=Jg x;rw[HI]at p;omega
def RB(l:List Fld)(x:Eu):Int :=
 if x.kind≠3/\x.kind≠4/\x.kind≠5 then 0
 else if(Ft l x.field).2=false then 4
 else if JY (Ft l x.field).1<(if x.kind=5 then x.m else x.n)\/(x.kind=4/\(Ft l x.field).1.width<x.m)then 1 else 0
def MG(l:List Fld):List Eu->Int
 |[]=>0
 |x::r=>if RB l x=0 then MG l r else RB l x
def TA(l:List Fld)(x:Eu):Int:=MG l (T5 x)
def Vn(l:List Fld)(x:Eu):Int:=if ckP x=0 then TA l x else ckP x
def So(l:List Fld)(x:Ev):Int :=
 if x.kind=1 then TA l x.pred
 else if x.kind=2 then(if(Ft l x.field).2=false then 4 else if JY (Ft l x.field).1<x.n then 1 else 0)
 else 0
def MC(l:List Fld):List Ev->Int
 |[]=>0
 |x::r=>if So l x=0 then MC l r else So l x
def LX(l:List Fld)(x:Ev):Int:=if WT x=0 then MC l (No x)else WT x
def KG(l:List ByteArray):Nat->List ByteArray->Bool
 |_,[]=>true
 |i,x::r => !(l.take i).any (λy=>decide (y=x))&&KG l (i+1) r
def Km(s:Stp):List ByteArray:=if s.field=⟨#[]⟩then s.key else s.key++[s.field]
def M_(l:List Fld)(s:Stp):Int :=
 if gY s≠0\/s.kind=0 then gY s
 else if !(Km s).all (λy=>(Ft l y).2)then 4
 else if !KG s.key 0 s.key then 1
 else if s.kind=4/\JY (Ft l s.field).1<s.m then 1 else 0
def MS(k:Int):Int:=if k=1 then 1 else if k=2\/k=3 then 2 else if k=4\/k=5 then 3 else 4
def Jl(l:List Fld)(g:List ByteArray):List Int:=g.map λy=>(Ft l y).1.width
def Mo(s:Stp):Bool:=s.kind==4||s.kind==6
def ZX(a b:List Int):Bool:=decide (a=b)
def Vr(l:List Fld)(s t:Stp):Bool :=
 !((Mo s&&Mo t)&&(s.n !=t.n||s.m !=t.m))&&(ZX (Jl l s.key) (Jl l t.key)&&MS s.kind==MS t.kind)
def Nj(l:List Fld):List Ex->Int
 |[]=>0
 |x::r=>if LX l x.policy=0 then(if M_ l x.step=0 then Nj l r else M_ l x.step)else LX l x.policy
def MH(l:List Fld)(s t:Stp):Bool:=(s.kind !=0&&t.kind !=0)&&(decide (s.var=t.var) && !Vr l s t)
def Lk(l:List Fld)(p:List Ex):Nat->List Ex->Bool
 |_,[]=>true
 |i,x::r => !(p.take i).any (λy=>MH l y.step x.step)&&Lk l p (i+1) r
def RZ(l:List Fld)(p:List Ex):Int :=
 if Y6 p≠0 then Y6 p else if Nj l p≠0 then Nj l p else if Lk l p 0 p then 0 else 11
def J6(n:Int):Bool->List Int->List Int
 |d,[]=>if d then[]else[n]
 |d,x::r=>(if n<=x/\d=false then[n]else[])++((if x≠n then[x]else[])++J6 n (d||decide (n<=x)) r)
def T4(l:List Int)(n:Int):List Int:=J6 n false l
def NL(o:List Int):List Ev->List Int
 |[]=>o
 |y::r=>NL (if y.kind=2/\y.field=Gd then T4 o y.n else o) r
def Oa(x:Ev):List Int:=NL [] (No x)
def JE{α:Type}(p:α->Bool)(q:α->α->Bool)(l:List α):Nat->List α->Bool
 |_,[]=>true
 |i,x::r=>(p x && !(l.take i).any (λy=>q y x))&&JE p q l (i+1) r
def I4{α:Type}(p:α->Bool)(q:α->α->Bool)(l:List α):Bool:=JE p q l 0 l
def wj(l:List ByteArray)(s:ByteArray):Bool:=l.any (λy=>decide (y=s))
def H7(t:Ez)(n:Int):Bool:=decide (0<=n)&&decide (n<(t.ports.length:Int))
def QB(t:Ez)(n:Int):Int:=(t.ports[n.toNat]?.getD Port.z).edge
def Kv(t:Ez)(n:Int):Bool:=H7 t n&&QB t n == -1
def LG(t:Ez)(n:Int):Bool:=H7 t n&&QB t n != -1
def T7(x:E1):Bool:=nmB x.name
def Tp(y x:E1):Bool:=decide (y.name=x.name)
def Q9(m:Int)(x:E1):Bool:=decide (-1<=x.edge)&&decide (x.edge<m)
def RQ(y x:E1):Bool:=x.edge != -1&&y.edge==x.edge
def Sl(t:Ez)(x:Wire):Bool:=Kv t x.src&&Kv t x.dst
def Sk(y x:Wire):Bool:=y.src==x.src
def JQ(s:E3)(t:Ez):Int :=
 if nmB t.name=false then 4 else if I4 T7 Tp t.ports=false then 4
 else if I4 (Q9 s.network.edges.length) RQ t.ports=false then 1 else if I4 (Sl t) Sk t.wires=false then 1 else 0
def Kx(t:Ez):List Ex->Int
 |[]=>0
 |x::r=>if(Oa x.policy).all (H7 t)=false then 1 else if x.step.field=Gd\/(x.step.kind=5/\wj x.step.key Gd=true)then 1 else Kx t r
def NX(s:E3)(t:Ez):Int:=if RZ s.fields t.program≠0 then RZ s.fields t.program else Kx t t.program
mutual
def knB(l:List ByteArray):Ew->Bool
 |⟨k,n,g⟩ => !(k==2 && !wj l n)&&dH l g
def dH(l:List ByteArray):List Ew->Bool
 |[]=>true
 |x::r=>knB l x&&dH l r
end
theorem KP(l:List ByteArray)(x:Ew):knB l x=(!(x.kind==2 && !wj l x.node)&&dH l x.args):=by cases x;rw[knB]
theorem N2(l:List ByteArray)(x:Ew)(r:List Ew):dH l (x::r)=(knB l x&&dH l r):=by rw[dH]
theorem P1(l:List ByteArray):dH l []=true:=by rw[dH]
def Iy(n:Ey):List ByteArray:=n.nodes.map (·.name)
def LT(n:Ey):List ByteArray:=n.edges.map (·.name)
def oJ(s:E3)(x:Route):Int :=
 if Vn s.fields x.pred≠0 then Vn s.fields x.pred else if ckR x.path≠0 then ckR x.path else if knB (Iy s.network) x.path=false then 4 else 0
def KW(s:E3):List Route->Int
 |[]=>0
 |x::r=>if oJ s x=0 then KW s r else oJ s x
def oS(t:Ez)(d:Demand):Bool :=
 LG t d.src&&(LG t d.dst&&(d.src !=d.dst&&(decide (0<=d.floor)&&(decide (d.floor<=d.ceiling)&&decide (d.ceiling<=1048576)))))
def na(y x:Demand):Bool:=y.src==x.src&&y.dst==x.dst
def Jz(s:E3)(t:Ez):Int :=
 if 64<t.ports.length\/64<t.wires.length\/16<t.routes.length\/64<t.demands.length then 2
 else if JQ s t≠0 then JQ s t else if NX s t≠0 then NX s t
 else if KW s t.routes≠0 then KW s t.routes else if I4 (oS t) na t.demands=false then 1 else 0
def ij(x:ByteArray):Bool:=nmB x
def gR(y x:ByteArray):Bool:=decide (y=x)
def VA(n:Ey)(x:Node):Bool:=decide (0<=x.rules)&&(decide (x.rules<=4000)&&(decide (0<=x.entries)&&decide (x.entries<=100000)))
def VB(n:Ey)(x:Link):Bool:=JU n x.src&&(JU n x.dst&&(x.src !=x.dst&&(decide (0<=x.capacity)&&decide (x.capacity<=1048576))))
def Jv(n:Ey):Int :=
 if 200<n.nodes.length\/2000<n.links.length\/400<n.edges.length then 2
 else if I4 ij gR (Iy n)=false\/I4 ij gR (LT n)=false then 4
 else if n.nodes.all (VA n)=false then 1 else if n.links.all (VB n)=false then 1 else if n.edges.all (λx=>JU n x.node)=false then 1 else 0
def MK(n:Int):Bool:=decide (0<=n)&&decide (n<=65535)
def aY(n:Int): ∀(l:List Int) (d:Bool),(J6 n d l).length<=l.length+(if d then 0 else 1)
 |[],d=>by cases d<;>simp[J6]
 |x::r,d=>by
  have g:=aY n r (d||decide (n<=x));have i:(if x≠n then[x]else[]).length<=1:=by split<;>simp
  simp only[J6,AE,AC];cases d<;>by_cases hx:n<=x<;>simp[hx]at g i ⊢ <;> omega
def ACv(o:List Int)(n:Int):(T4 o n).length<=o.length+1:=by
 have:=aY n o false;simpa [T4]using this
def oR(x:Ev):(Oa x).length<=(No x).length:=by
 have p:∀(n:Int) (l:List Int) (d:Bool),(J6 n d l).length<=l.length+1:=by
  have i:∀(n:Int) (l:List Int),(J6 n true l).length<=l.length:=by
   intro n l;induction l with
   |nil=>simp[J6]
   |cons x r g =>
    simp only[J6,BJ,Bool.true_eq_false,and_false,if_false,AM,AE,AC];have:(if x≠n then[x]else[]).length<=1:=by split<;>simp
    omega
  intro n l;induction l with
  |nil=>intro d;cases d<;>simp[J6]
  | cons x r g =>
   intro d;cases d with
   |true=>have:=i n (x::r);simp at this ⊢;omega
   | false =>
    simp only[J6,AE,AC];have j:(if x≠n then[x]else[]).length<=1:=by split<;>simp
    by_cases hx:n<=x
    ·have:=i n r;simp[hx];simp at this j;omega
    ·have:=g false;simp[hx];simp at this j;omega
 have h3:∀(l:List Ev) (o:List Int),(NL o l).length<=o.length+l.length:=by
  intro l;induction l with
  |nil=>intro o;simp[NL]
  |cons y r g =>
   intro o;rw[NL];refine AJ (g _) ?_;have:=p y.n o false;simp only[AC];split
   ·unfold T4;omega
   ·omega
 have:=h3 (No x) [];simpa [Oa]using this
def bU{l:List Fld}(h:PU l=0): ∀ f∈l,f.width<=16:=by
 have:∀(r:List Fld) (i:Nat),I1 l i r=0 -> ∀f∈r,f.width<=16:=by
  intro r;induction r with
  |nil=>intro i _ f g;cases g
  | cons x r j =>
   intro i h f g;rw[I1]at h;split at h
   ·cases h
   split at h
   ·cases h
   split at h
   ·cases h
   split at h
   ·cases h
   rename_i o _;rcases AY.1 g with rfl|g
   ·simp only[T9,Bf,Bool.and_eq_false_iff,not_or,Bool.not_eq_false,decide_eq_true_eq]at o;omega
   ·exact j _ h f g
 unfold PU at h;split at h
 ·cases h
 ·exact this l 0 h
open Go.Proofs
@[go_sem] def uX(x:Eu)(v:Int)(g:Option Nat):G8 (x.cf g) [.int .i64 v]=({ x with kind:=v }:Eu).cf g:=rfl
@[go_sem] def uW(x:Eu)(v:ByteArray)(g:Option Nat):splice (x.cf g) 1 [.str v]=({ x with field:=v }:Eu).cf g:=rfl
@[go_sem] def AGq(x:Eu)(v:Int)(g:Option Nat):splice (x.cf g) 2 [.int .i64 v]=({ x with n:=v }:Eu).cf g:=rfl
@[go_sem] def ABe(x:Eu)(v:List Eu)(g:Option Nat)(p:Option Nat):splice (x.cf g) 4 [.sl p (Gn v)]=({ x with args:=v }:Eu).cf p:=rfl
@[go_sem] def nk(x:Ev)(v:Int)(g i:Option Nat):G8 (x.cf g i) [.int .i64 v]=({ x with kind:=v }:Ev).cf g i:=rfl
@[go_sem] def sI(x:Ev)(v:Eu)(j g:Option Nat)(i:Option Nat):splice (x.cf j g) 1 (v.cf i)=({ x with pred:=v }:Ev).cf i g:=rfl
@[go_sem] def nj(x:Ev)(v:ByteArray)(g i:Option Nat):splice (x.cf g i) 6 [.str v]=({ x with field:=v }:Ev).cf g i:=rfl
@[go_sem] def ABs(x:Ev)(v:Int)(g i:Option Nat):splice (x.cf g i) 7 [.int .i64 v]=({ x with n:=v }:Ev).cf g i:=rfl
@[go_sem] def sJ(x:Ev)(v:List Ev)(g i:Option Nat)(p:Option Nat):splice (x.cf g i) 8 [.sl p (GX v)]=({ x with args:=v }:Ev).cf g p:=rfl
@[ext] structure Pat where
 mask:E4
 bits:E4
 deriving DecidableEq,Inhabited
def Pat.c(x:Pat):List AV:=[.int .i64 x.mask.h0,.int .i64 x.mask.h1,.int .i64 x.mask.h2,.int .i64 x.mask.h3,.int .i64 x.mask.h4,.int .i64 x.mask.h5,.int .i64 x.mask.h6,.int .i64 x.mask.h7,.int .i64 x.mask.h8,.int .i64 x.mask.h9,.int .i64 x.bits.h0,.int .i64 x.bits.h1,.int .i64 x.bits.h2,.int .i64 x.bits.h3,.int .i64 x.bits.h4,.int .i64 x.bits.h5,.int .i64 x.bits.h6,.int .i64 x.bits.h7,.int .i64 x.bits.h8,.int .i64 x.bits.h9]
@[go_sem] def Aas(x:Pat):x.c.length=20:=rfl
@[go_sem] def Aat(x:Pat):x.c.map borrow1=x.c:=rfl
@[go_sem] def Aar(x:Pat):x.c.any GY=false:=by
 rfl
@[go_sem] def AKn(x:Pat):x.c.take 20=x.c:=rfl
@[go_sem] def Pat.cf_pure(x:Pat):Fq x.c=true:=by
 simp[Pat.c,Fq,AV.pure]
@[go_sem] def sL(k:Nat)(x:Pat):F_ k x.c=true:=by
 simp[Pat.c,F_,AV.bnd]
def Pat.c_bnd(k:Nat)(x:Pat):F_ k x.c=true:=sL k x
@[go_sem] def ABf(x:Pat)(v:E4):G8 x.c v.c=({ x with mask:=v }:Pat).c:=rfl
@[go_sem] def ABt(x:Pat)(v:E4):splice x.c 10 v.c=({ x with bits:=v }:Pat).c:=rfl
def Pat.z:Pat:=⟨⟨0,0,0,0,0,0,0,0,0,0⟩,⟨0,0,0,0,0,0,0,0,0,0⟩⟩
@[go_sem] def Pat.zero:F8 AA 243=some (.agg Pat.z.c):=kr
def Pat.ok(_:Pat):Prop:=True
set_option maxRecDepth 50000
def lg(c:UInt8):Fm AA 365 [.int .u8 c.toNat] (.bool (loB c)):=by
 refine pC AMZ rfl ?_;simp only[f365,go_sem];repeat' (first|apply Pz<;>intro g<;>simp only[go_sem,g])
 all_goals (simp only[loB,bz];grind)
def AIr(c:UInt8):Fm AA 396 [.int .u8 c.toNat] (.bool (dgB c)):=by
 refine pC AL5 rfl ?_;simp only[f396,go_sem];repeat' (first|apply Pz<;>intro g<;>simp only[go_sem,g])
 all_goals (simp only[dgB,bz];grind)
def q_(c:UInt8):Fm AA 380 [.int .u8 c.toNat] (.bool (wdB c)):=by
 refine pC AL9 rfl ?_;simp only[f380,go_sem];repeat' (first|((first|apply pK (lg _)|apply pK (AIr _));simp only[go_sem])|apply Pz<;>intro g<;>simp only[go_sem,g])
 all_goals (simp only[wdB,bz];grind)
def Ajr(s:ByteArray)(t:s.size<=1073741824):Fm AA 367 [.str s] (.int .i64 (NK s.data.toList)):=by
 refine pC AMR rfl ?_;simp only[f367,go_sem];refine YN s (λl=>s.size - l.length+NK l) (λk=>[(0,.str s),(3,.int .i64 k)]) Fj rfl ?_ ?_
 ·intro k x C I hx g p r o J;rw[Uj]at g;simp only[AC,NK]at g;simp only[go_sem,p,r,hx];repeat' (first|(apply pK (q_ _);simp only[go_sem,o])|apply Pz<;>intro i<;>simp only[go_sem,i,o])
  ·simp only[Bf]at i;rw[i]at g;have:NK s.data.toList=k:=by simp at g;omega
   rw[this]
  ·simp only[Cb]at i;simp only[NK,i];simp;omega
 ·intro g j;simp only[go_sem,j,dF];rw[Uj]at g;simp[NK]at g;rw[g]
def AE3:EvOk AA (dS.evt [] AJw):=ETree.ok ADl (λ_ h=>by cases h) (ADh _) Xq
def nr:Fq (Hu.map AV.str)=true:=kr
def AIt:Fm AA 379 [] (.sl (some 1) (Hu.map AV.str)):=Fm.run AE3 100 rfl nr kr
def AFM(s:ByteArray):Fm AA 366 [.str s] (.bool (U3 s)):=by
 refine pC AMV rfl ?_;simp only[f366,go_sem];repeat' (first|(apply pK AIt;simp only[go_sem])|apply Pz<;>intro g<;>simp only[go_sem,g])
 refine F0 Hu (λl=>l.any (λy=>decide (y=s))) (λk=>[(0,.str s),(3,.sl (some 1) (Hu.map AV.str)),(4,.int .i64 k)]) dc rfl ?_ ?_
 ·intro k x C I hx i o p t;have r:(Hu.map AV.str)[k]? =some (.str x):=by simp[hx]
  simp only[go_sem,o,p,r,Ap,Fk];repeat' (first|apply Pz<;>intro g<;>simp only[go_sem,g,o,p,r,t,Ap,Fk])
  ·simp only[U3,i,Av,g,BJ]
 ·intro i j;simp only[go_sem,j,dF,Ap];rw[U3,i];rfl
def AFZ(s:ByteArray)(t:s.size<=1073741824):Fm AA 342 [.str s] (.bool (tnB s)):=by
 refine pC ANA rfl ?_;by_cases g:s.size=0
 ·have o:((s.size:Int)==0)=true:=by simp[g]
  simp only[f342,go_sem,o];simp[tnB,g]
 ·have r:(0:Int)<(s.size:Int):=Fj;obtain⟨x,j,hx⟩:∃x j,s.data.toList=x::j:=by
   cases h:s.data.toList with
   |nil=>rw[<- Uj,h]at g;simp at g
   |cons x j=>exact⟨x,j,rfl⟩
  have i:(s.data[0]?).getD 0=x:=by rw[<- Array.getElem?_toList,hx];rfl
  have p:((s.size:Int)==0)=false:=by simp[g]
  simp only[f342,go_sem,p];repeat' (first|((first|apply pK (lg _)|apply pK (AFM _)|apply pK (Ajr _ t));simp only[go_sem,r,i,hx])|apply Pz<;>intro C<;>simp only[go_sem,C,r,i,hx])
  all_goals (simp only[tnB,hx];grind)
def dl(s:ByteArray)(g:s.size<=1073741824):Fm AA 301 [.str s] (.bool (tnB s)):=by
 refine pC AOb rfl ?_;simp only[f301,go_sem];repeat' (first|(apply pK (AFZ _ g);simp only[go_sem])|apply Pz<;>intro i<;>simp only[go_sem,i])
def WV(s:ByteArray)(i:s.size<=1073741824):Fm AA 232 [.str s] (.bool (WO s)):=by
 refine pC ARN rfl ?_;simp only[f232,go_sem];repeat' (first|(apply pK (dl _ i);simp only[go_sem])|apply Pz<;>intro g<;>simp only[go_sem,g])
 all_goals first
  |rfl
  |(simp only[Fk,WO,Gd,g,BC,BJ,Ay];rfl)
  |grind[Fk,WO,Gd,BC,BJ,Ay]
  |(simp only[Fk,WO,Gd,g,BC,BJ,Ay];grind)
  |(simp[Fk,WO,Gd,g,BC,BJ,Ay, *];done)
  |(simp_all[Fk,WO,Gd,g,BC,BJ,Ay];done)
  |skip
def WW(s:ByteArray)(J:s.size<=1073741824):Fm AA 176 [.str s] (.bool (nmB s)):=by
 refine pC AUK rfl ?_;simp only[f176,go_sem];refine YN s (λl=>vu (s.size - l.length) l) (λk=>[(0,.str s),(3,.int .i64 k)]) Fj rfl ?_ ?_
 ·intro k x o O hx g p r I P;have t:s.size - (x::o).length=k:=IG;have C:s.size - o.length=k+1:=Fj;rw[t,Uj,AP]at g;simp only[go_sem,p,r,hx,C];repeat' (first|apply Pz<;>intro i<;>simp only[go_sem,i,p,r,hx,I,t,C])
  all_goals first|(simp only[nmB,g,vu,loB,dgB,bz];grind)|(simp only[vu,loB,dgB,bz];grind)|skip
 ·intro g j;simp only[go_sem,j,dF];rw[Uj,AP]at g;repeat' (first|apply Pz<;>intro i<;>simp only[go_sem,i])
  all_goals (simp only[nmB,g,vu];grind)
def TB{g:List AV}{l:List AV}(h:HL (.agg g::l)):HL g:=h.1
def fits{o:Option Nat}{es:List AV}{l:List AV}(h:HL (.sl o es::l)):es.length<=9223372036854775807:=h.1.1
def YF(a b:Et):Fm AA 231 [.agg a.c,.agg b.c] (.agg (a.more b).c):=by
 refine pB ARR rfl ?_;simp only[f231,go_sem];rfl
def uC:∀x:Eu,Fm AA 172 [.agg x.c] (.agg (oA x).c):=by
 refine Jk _ λx r=>?_;refine Fm.fit AEb.c λt=>?_;have C:=Lj (TB t);refine pB AEb rfl ?_;simp only[f172,go_sem];refine F6 x.args (λo l=>Wh l o) (λ_ _=>True) (λk o=>[(1,.ptr 0 0),(2,.ptr 1 0),(3,.ptr 2 0),(4,.int .i64 k)]) (λk o=>[some x.c,some Sizes.z.c,some o.c]) ⟨1,1⟩ C trivial rfl rfl ?_ ?_
 ·intro k o y J O hx _ j g i p;have hm:=AB hx;simp only[go_sem,g,i,GF hx];repeat' (first|((first|apply pK (r _ hm)|apply pK (YF _ _));simp only[go_sem,g,i,p,GF hx])|apply Pz<;>intro I<;>simp only[go_sem,I,g,i,p,GF hx])
  exact⟨_,aM _ _ _,rfl,rfl⟩
 ·intro o _ j;simp only[go_sem,AR,dF];rw[ACO,j,gj]
def AKI:∀x:Ew,Fm AA 249 [.agg x.c] (.agg (szR x).c):=by
 refine Us _ λx r=>?_;refine Fm.fit AEV.c λt=>?_;have C:=QR (TB t);refine pB AEV rfl ?_;simp only[f249,go_sem];refine F6 x.args (λo l=>bx l o) (λ_ _=>True) (λk o=>[(1,.ptr 0 0),(2,.ptr 1 0),(3,.ptr 2 0),(4,.int .i64 k)]) (λk o=>[some x.c,some Sizes.z.c,some o.c]) ⟨1,1⟩ C trivial rfl rfl ?_ ?_
 ·intro k o y J O hx _ j g i p;have hm:=AB hx;simp only[go_sem,g,i,I7 hx];repeat' (first|((first|apply pK (r _ hm)|apply pK (YF _ _));simp only[go_sem,g,i,p,I7 hx])|apply Pz<;>intro I<;>simp only[go_sem,I,g,i,p,I7 hx])
  exact⟨_,ux _ _ _,rfl,rfl⟩
 ·intro o _ j;simp only[go_sem,AR,dF];rw[AK_,j,ACN]
def AKJ:∀x:Ev,Fm AA 136 [.agg x.c] (.agg (oB x).c):=by
 refine IM _ λx C=>?_;refine Fm.fit AEf.c λJ=>?_;have I:=KH (TB J);refine pB AEf rfl ?_;simp only[f136,go_sem];repeat' (first|((first|apply pK (uC _)|apply pK (YF _ _));simp only[go_sem])|apply Pz<;>intro g<;>simp only[go_sem,g])
 ·have t:oB x=Q6 x.args (Sizes.more ⟨1,1⟩ (oA x.pred)):=by rw[b6,iP (by simpa using g)]
  refine F6 x.args (λo l=>Q6 l o) (λ_ _=>True) (λk o=>[(1,.ptr 0 0),(2,.ptr 1 0),(3,.ptr 2 0),(4,.int .i64 k)]) (λk o=>[some x.c,some Sizes.z.c,some o.c]) (Sizes.more ⟨1,1⟩ (oA x.pred)) I trivial rfl rfl ?_ ?_
  ·intro k o y O P hx _ i j p r;have hm:=AB hx;simp only[go_sem,j,p,Fy hx];repeat' (first|((first|apply pK (C _ hm)|apply pK (YF _ _));simp only[go_sem,j,p,r,Fy hx])|apply Pz<;>intro g<;>simp only[go_sem,g,j,p,r,Fy hx])
   exact⟨_,Nh _ _ _,rfl,rfl⟩
  ·intro o _ i;rw[Pe]at i;simp only[go_sem,AR,dF];rw[t,i]
 ·have t:oB x=Q6 x.args ⟨1,1⟩:=by rw[b6,iN (by simpa using g)]
  refine F6 x.args (λo l=>Q6 l o) (λ_ _=>True) (λk o=>[(1,.ptr 0 0),(2,.ptr 1 0),(3,.ptr 2 0),(4,.int .i64 k)]) (λk o=>[some x.c,some Sizes.z.c,some o.c]) (⟨1,1⟩) I trivial rfl rfl ?_ ?_
  ·intro k o y O P hx _ i j p r;have hm:=AB hx;simp only[go_sem,j,p,Fy hx];repeat' (first|((first|apply pK (C _ hm)|apply pK (YF _ _));simp only[go_sem,j,p,r,Fy hx])|apply Pz<;>intro g<;>simp only[go_sem,g,j,p,r,Fy hx])
   exact⟨_,Nh _ _ _,rfl,rfl⟩
  ·intro o _ i;rw[Pe]at i;simp only[go_sem,AR,dF];rw[t,i]
def lf:∀x:Ev,Fm AA 169 [.agg x.c] (.int .i64 (Pf x)):=by
 refine IM _ λx t=>?_;refine Fm.fit AEc.c λC=>?_;have I:=KH (TB C);refine pC AEc rfl ?_;simp only[f169,go_sem];refine F6 x.args (λo l=>Kj l o) (λ_ _=>True) (λk o=>[(1,.ptr 0 0),(3,.int .i64 o),(4,.int .i64 k)]) (λk o=>[some x.c]) 0 I trivial rfl rfl ?_ ?_
 ·intro k o y J O hx _ g i j r;have hm:=AB hx;simp only[go_sem,i,j,Fy hx];repeat' (first|(apply pK (t _ hm);simp only[go_sem,i,j,r,Fy hx])|apply Pz<;>intro p<;>simp only[go_sem,p,i,j,r,Fy hx])
  exact⟨_,b_ _ _ _,rfl,rfl⟩
 ·intro o _ g;rw[gq]at g;simp only[go_sem,AR,dF];repeat' (first|apply Pz<;>intro p<;>simp only[go_sem,p])
  all_goals first
   |rfl
   |(simp only[Ni,g,i64];rfl)
   |grind[Ni,i64]
   |(simp only[Ni,g,i64];grind)
   |(simp[Ni,g,i64, *];done)
   |(simp_all[Ni,g,i64];done)
   |skip
def AIk:∀x:Ev,Fm AA 248 [.agg x.c] (.int .i64 (aX x)):=by
 refine IM _ λx t=>?_;refine Fm.fit AEW.c λC=>?_;have I:=KH (TB C);refine pC AEW rfl ?_;simp only[f248,go_sem];refine F6 x.args (λo l=>Mm l o) (λ_ _=>True) (λk o=>[(1,.ptr 0 0),(3,.int .i64 o),(4,.int .i64 k)]) (λk o=>[some x.c]) 0 I trivial rfl rfl ?_ ?_
 ·intro k o y J O hx _ g i j r;have hm:=AB hx;simp only[go_sem,i,j,Fy hx];repeat' (first|(apply pK (t _ hm);simp only[go_sem,i,j,r,Fy hx])|apply Pz<;>intro p<;>simp only[go_sem,p,i,j,r,Fy hx])
  exact⟨_,iY _ _ _,rfl,rfl⟩
 ·intro o _ g;rw[oP]at g;simp only[go_sem,AR,dF];repeat' (first|apply Pz<;>intro p<;>simp only[go_sem,p])
  all_goals first
   |rfl
   |(simp only[Pk,g,i64];rfl)
   |grind[Pk,i64]
   |(simp only[Pk,g,i64];grind)
   |(simp[Pk,g,i64, *];done)
   |(simp_all[Pk,g,i64];done)
   |skip
def AFL(x:Ev):Fm AA 170 [.agg x.c] (.bool (Pv x)):=by
 refine pC AUh rfl ?_;simp only[f170,go_sem];repeat' (first|((first|apply pK (lf _)|apply pK (AIk _));simp only[go_sem])|apply Pz<;>intro g<;>simp only[go_sem,g])
 all_goals first
  |rfl
  |(simp only[Pv];rfl)
  |grind[Pv]
  |(simp only[Pv];grind)
  |(simp[Pv, *];done)
  |(simp_all[Pv];done)
  |skip
def AFP(x:Eu):Fm AA 82 [.agg x.c] (.bool (ZW x)):=by
 refine pC Ad4 rfl ?_;simp only[f82,go_sem];repeat' (first|(apply pK (uC _);simp only[go_sem])|apply Pz<;>intro g<;>simp only[go_sem,g])
 all_goals first
  |rfl
  |(simp only[ZW];rfl)
  |grind[ZW]
  |(simp only[ZW];grind)
  |(simp[ZW, *];done)
  |(simp_all[ZW];done)
  |skip
def AaA(x:Ew):Fm AA 171 [.agg x.c] (.bool (lG x)):=by
 refine pC AUd rfl ?_;simp only[f171,go_sem];repeat' (first|(apply pK (AKI _);simp only[go_sem])|apply Pz<;>intro g<;>simp only[go_sem,g])
 all_goals first
  |rfl
  |(simp only[lG];rfl)
  |grind[lG]
  |(simp only[lG];grind)
  |(simp[lG, *];done)
  |(simp_all[lG];done)
  |skip
def AFQ(x:Ev):Fm AA 247 [.agg x.c] (.bool (qZ x)):=by
 refine pC AQW rfl ?_;simp only[f247,go_sem];repeat' (first|((first|apply pK (AKJ _)|apply pK (uC _));simp only[go_sem])|apply Pz<;>intro g<;>simp only[go_sem,g])
 all_goals first
  |rfl
  |(simp only[qZ];rfl)
  |grind[qZ]
  |(simp only[qZ];grind)
  |(simp[qZ, *];done)
  |(simp_all[qZ];done)
  |skip
def AaC(x:List Ex):Fm AA 168 [.sl none (GV x)] (.bool (P' x)):=by
 refine Fm.fit AEd.c λR=>?_;have O:=fits R;rw[Ms]at O;refine pC AEd rfl ?_;simp only[f168,go_sem];refine F0 x (λr=>Lv (r.take (12 - (x.length - r.length)))) (λk=>[(0,.sl none (GV x)),(3,.int .i64 k)]) O rfl ?_ ?_
 ·intro k y P T hx C j o I;have U:=GI T;have i:x.length - (P.length+1)=k:=Fj;have p:x.length - P.length=k+1:=Fj;simp only[AC,i,AP,BZ]at C;simp only[go_sem,j,o,F9 hx,i,p];rcases Nat.lt_or_ge k 12 with h12|h12
  ·have g:12 - k=(12 - (k+1))+1:=Fj;rw[g,List.take_succ_cons]at C;repeat' (first|(apply pK (AFQ _);simp only[go_sem,j,o,I,F9 hx,i,p])|apply Pz<;>intro t<;>simp only[go_sem,t,j,o,I,F9 hx,i,p])
   all_goals first
    |rfl
    |(simp only[P',Lv,g];rfl)
    |grind[P',Lv]
    |(simp only[P',Lv,g];grind)
    |(simp[P',Lv,g, *];done)
    |(simp_all[P',Lv,g];done)
    |skip
  ·have g:12 - k=0:=Fj;rw[g,List.take_zero]at C;have MR:¬(k:Int)<12:=Fj;simp only[go_sem,MR,dF];repeat' (first|(apply pK (AFQ _);simp only[go_sem,j,o,I,F9 hx,i,p])|apply Pz<;>intro t<;>simp only[go_sem,t,j,o,I,F9 hx,i,p])
   all_goals first
    |rfl
    |(simp only[P',Lv];rfl)
    |grind[P',Lv]
    |(simp only[P',Lv];grind)
    |(simp[P',Lv, *];done)
    |(simp_all[P',Lv];done)
    |skip
 ·intro C J;simp only[go_sem,J,dF];repeat' (first|apply Pz<;>intro t<;>simp only[go_sem,t])
  all_goals first
   |rfl
   |(simp only[P',Lv];rfl)
   |grind[P',Lv]
   |(simp only[P',Lv];grind)
   |(simp[P',Lv, *];done)
   |(simp_all[P',Lv];done)
   |skip
def AZ'(t:Ez):Fm AA 81 [.agg t.c] (.bool (Mx t)):=by
 refine Fm.fit AJ6.c λO=>?_;have C:=SS (TB O);have I:=TT (TB O);refine pC AJ6 rfl ?_;simp only[f81,go_sem];repeat' (first|(apply pK (AaC _);simp only[go_sem])|apply Pz<;>intro g<;>simp only[go_sem,g])
 all_goals first
  |rfl
  |(simp only[Mx];rfl)
  |grind[Mx]
  |(simp only[Mx];grind)
  |(simp[Mx, *];done)
  |(simp_all[Mx];done)
  |skip
 refine F0 t.program (λr=>r.all λx=>decide (Pf x.policy<=2)&&Pv x.policy) (λk=>[(1,.ptr 0 0),(4,.int .i64 k)]) C rfl ?_ ?_
 ·intro k y R T hx P i j o;simp only[go_sem,i,j,F9 hx];repeat' (first|((first|apply pK (lf _)|apply pK (AFL _));simp only[go_sem,i,j,o,F9 hx])|apply Pz<;>intro g<;>simp only[go_sem,g,i,j,o,F9 hx])
  all_goals first
   |rfl
   |(simp only[Mx,Am,A3];rfl)
   |grind[Mx]
   |(simp only[Mx,Am,A3];grind)
   |(simp[Mx,Am,A3, *];done)
   |(simp_all[Mx,Am,A3];done)
   |skip
  skip
 ·intro P J;simp only[go_sem,J,dF];refine F0 t.routes (λr=>r.all λx=>ZW x.pred&&lG x.path) (λk=>[(1,.ptr 0 0),(5,.int .i64 k)]) I rfl ?_ ?_
  ·intro k y R T hx P i j o;simp only[go_sem,i,j,LJ hx];repeat' (first|((first|apply pK (AFP _)|apply pK (AaA _));simp only[go_sem,i,j,o,LJ hx])|apply Pz<;>intro g<;>simp only[go_sem,g,i,j,o,LJ hx])
   all_goals first
    |rfl
    |(simp only[Mx,Am,A3];rfl)
    |grind[Mx]
    |(simp only[Mx,Am,A3];grind)
    |(simp[Mx,Am,A3, *];done)
    |(simp_all[Mx,Am,A3];done)
    |skip
   skip
  ·intro U p;simp only[go_sem,p,dF];repeat' (first|apply Pz<;>intro g<;>simp only[go_sem,g])
   all_goals first
    |rfl
    |(simp only[Mx,Am,A3];rfl)
    |grind[Mx]
    |(simp only[Mx,Am,A3];grind)
    |(simp[Mx,Am,A3, *];done)
    |(simp_all[Mx,Am,A3];done)
    |skip
   skip
def Ajx:∀x y:Eu,Fm AA 233 [.agg x.c,.agg y.c] (.bool (tj x y)):=by
 refine Jk _ λx T=>λy=>?_;refine Fm.fit AEY.c λU=>?_;have V:=Lj (TB U);refine pC AEY rfl ?_;simp only[f233,go_sem,Fk];repeat' (first|apply Pz<;>intro o<;>simp only[go_sem,o,Fk])
 all_goals first
  |rfl
  |(simp only[Je];rfl)
  |grind[Je]
  |(simp only[Je];grind)
  |(simp[Je, *];done)
  |(simp_all[Je];done)
  |skip
 have hll:x.args.length=y.args.length:=by grind
 refine F0 x.args (λr=>Vm r (y.args.drop (x.args.length - r.length))) (λk=>[(2,.ptr 0 0),(3,.ptr 1 0),(5,.int .i64 k)]) V rfl ?_ ?_
 ·intro k z P hd hx g p t R;have hk:=GI hd;obtain⟨w,C⟩:∃w,y.args[k]? =some w:=⟨_,AL Fj⟩;have i:x.args.length - (z::P).length=k:=IG;have I:x.args.length - P.length=k+1:=Fj;have j:y.args.drop k=w::y.args.drop (k+1):=by rw[BI Fj];congr 1;grind
  have J:(k:Int)<(y.args.length:Int):=Fj;rw[i,j,AP,BE,Jq]at g;have hm:=AB hx;simp only[go_sem,p,t,J,GF hx,GF C,i,I,j];repeat' (first|(apply pK (T _ hm _);simp only[go_sem,p,t,J,R,GF hx,GF C,i,I,j])|apply Pz<;>intro o<;>simp only[go_sem,o,p,t,J,R,GF hx,GF C,i,I,j])
  all_goals first
   |rfl
   |(simp only[Je,Jq,g];rfl)
   |grind[Je,Jq]
   |(simp only[Je,Jq,g];grind)
   |(simp[Je,Jq,g, *];done)
   |(simp_all[Je,Jq,g];done)
   |skip
 ·intro g O;simp only[go_sem,O,dF];all_goals first
   |rfl
   |(simp only[Je,My];rfl)
   |grind[Je,My]
   |(simp only[Je,My];grind)
   |(simp[Je,My, *];done)
   |(simp_all[Je,My];done)
   |skip
def Ajw(x y:Stp):Fm AA 344 [.agg x.c,.agg y.c] (.bool (gW x y)):=by
 refine Fm.fit AEN.c λR=>?_;have T:=mY (TB R);refine pC AEN rfl ?_;simp only[f344,go_sem,Fk];repeat' (first|apply Pz<;>intro i<;>simp only[go_sem,i,Fk])
 all_goals first
  |rfl
  |(simp only[gW];rfl)
  |grind[gW]
  |(simp only[gW];grind)
  |(simp[gW, *];done)
  |(simp_all[gW];done)
  |skip
 have U:x.key.length=y.key.length:=by grind
 refine F0 x.key (λr=>P2 r (y.key.drop (x.key.length - r.length))) (λk=>[(2,.ptr 0 0),(3,.ptr 1 0),(5,.int .i64 k)]) T rfl ?_ ?_
 ·intro k z t V hx g C I hw;have hk:=GI V;obtain⟨w,J⟩:∃w,y.key[k]? =some w:=⟨_,AL Fj⟩;have j:x.key.length - (z::t).length=k:=IG;have O:x.key.length - t.length=k+1:=Fj;have o:y.key.drop k=w::y.key.drop (k+1):=by rw[BI Fj];congr 1;grind
  have P:(k:Int)<(y.key.length:Int):=Fj;rw[j,o,AP,BE,Ka]at g;have hm:=AB hx;simp only[go_sem,C,I,P,GN hx,GN J,j,O,o,Fk];repeat' (first|apply Pz<;>intro i<;>simp only[go_sem,i,C,I,P,hw,GN hx,GN J,j,O,o,Fk])
  all_goals first
   |rfl
   |(simp only[gW,Ka,g];rfl)
   |grind[gW,Ka]
   |(simp only[gW,Ka,g];grind)
   |(simp[gW,Ka,g, *];done)
   |(simp_all[gW,Ka,g];done)
   |skip
 ·intro g p;simp only[go_sem,p,dF];all_goals first
   |rfl
   |(simp only[gW,Mv];rfl)
   |grind[gW,Mv]
   |(simp only[gW,Mv];grind)
   |(simp[gW,Mv, *];done)
   |(simp_all[gW,Mv];done)
   |skip
def AKL : ∀ x:Eu,Fo x.c<=1073741824->Fm AA 234 [.agg x.c] (.bool (OR x)):=by
 refine Jk _ λx O=>λi=>?_;have P:x.args.length<=9223372036854775807:=AJ (XQ (Jt i)) dc;refine pC ARG rfl ?_;simp only[f234,go_sem,Fk];repeat' (first|(apply pK (WV _ (Rg i));simp only[go_sem,Fk])|apply Pz<;>intro g<;>simp only[go_sem,g,Fk])
 all_goals first
  |rfl
  |(simp only[Ic,UG,J8,OQ];rfl)
  |grind[Ic,UG,J8,OQ]
  |(simp only[Ic,UG,J8,OQ];grind)
  |(simp[Ic,UG,J8,OQ, *];done)
  |(simp_all[Ic,UG,J8,OQ];done)
  |skip
 all_goals
  have I:((UG x).1&&x.args.length==(UG x).2)=true:=by grind[UG,J8,OQ]
  refine F0 x.args (λr=>Xm r) (λk=>[(1,.ptr 0 0),(6,.int .i64 x.args.length),(8,.int .i64 k)]) P (by grind) ?_ ?_
  ·intro k y R T hx j o p J;have hm:=AB hx;have t:Fo y.c<=1073741824:=by have:=XR (Jt i) hm;simpa only[AV.bulk]using this
   simp only[go_sem,o,p,GF hx];repeat' (first|(apply pK (O _ hm t);simp only[go_sem,o,p,J,GF hx])|apply Pz<;>intro g<;>simp only[go_sem,g,o,p,J,GF hx])
   ·rw[Ic,I,j,LQ];simp only[Bf]at g;rw[g];rfl
   ·rw[LQ];simp only[Cb]at g;rw[g];rfl
  ·intro j C;simp only[go_sem,C,dF];rw[Ic,I,j,Ib];rfl
def Ajv : ∀ x:Ev,Fo x.c<=1073741824->Fm AA 137 [.agg x.c] (.bool (S' x)):=by
 refine IM _ λx O=>λi=>?_;have P:x.args.length<=9223372036854775807:=AJ (R2 (I2 i)) dc;refine pC AWg rfl ?_;simp only[f137,go_sem,Fk];repeat' (first|((first|apply pK (WV _ (PH i))|apply pK (Fm.lend (Ajx x.pred Pred.z))|apply pK (AKL _ (M8 i)));simp only[go_sem,Fk])|apply Pz<;>intro g<;>simp only[go_sem,g,Fk])
 all_goals first
  |rfl
  |(simp only[I9,W_,OQ];rfl)
  |grind[I9,W_,OQ]
  |(simp only[I9,W_,OQ];grind)
  |(simp[I9,W_,OQ, *];done)
  |(simp_all[I9,W_,OQ];done)
  |skip
 all_goals
  have I:((W_ x).1&&x.args.length==(W_ x).2)=true:=by grind[W_,OQ]
  refine F0 x.args (λr=>Xn r) (λk=>[(1,.ptr 0 0),(6,.int .i64 x.args.length),(8,.int .i64 k)]) P (by grind) ?_ ?_
  ·intro k y R T hx j o p J;have hm:=AB hx;have t:Fo y.c<=1073741824:=by have:=R3 (I2 i) hm;simpa only[AV.bulk]using this
   simp only[go_sem,o,p,Fy hx];repeat' (first|(apply pK (O _ hm t);simp only[go_sem,o,p,J,Fy hx])|apply Pz<;>intro g<;>simp only[go_sem,g,o,p,J,Fy hx])
   ·rw[I9,I,j,LR];simp only[Bf]at g;rw[g];rfl
   ·rw[LR];simp only[Cb]at g;rw[g];rfl
  ·intro j C;simp only[go_sem,C,dF];rw[I9,I,j,Jc];rfl
def Aju : ∀ x:Ew,Fo x.c<=1073741824->Fm AA 310 [.agg x.c] (.bool (fmR x)):=by
 refine Us _ λx O=>λi=>?_;have P:x.args.length<=9223372036854775807:=AJ (wJ (Rf i)) dc;refine pC AN2 rfl ?_;simp only[f310,go_sem,Fk];repeat' (first|(apply pK (dl _ (Zu i));simp only[go_sem,Fk])|apply Pz<;>intro g<;>simp only[go_sem,g,Fk])
 all_goals first
  |rfl
  |(simp only[SH,okR];rfl)
  |grind[SH,okR]
  |(simp only[SH,okR];grind)
  |(simp[SH,okR, *];done)
  |(simp_all[SH,okR];done)
  |skip
 all_goals
  have I:((okR x).1&&x.args.length==(okR x).2)=true:=by grind[okR]
  refine F0 x.args (λr=>dO r) (λk=>[(1,.ptr 0 0),(4,.int .i64 x.args.length),(6,.int .i64 k)]) P (by grind) ?_ ?_
  ·intro k y R T hx j o p J;have hm:=AB hx;have t:Fo y.c<=1073741824:=by have:=wK (Rf i) hm;simpa only[AV.bulk]using this
   simp only[go_sem,o,p,I7 hx];repeat' (first|(apply pK (O _ hm t);simp only[go_sem,o,p,J,I7 hx])|apply Pz<;>intro g<;>simp only[go_sem,g,o,p,J,I7 hx])
   ·rw[SH,I,j,bI];simp only[Bf]at g;rw[g];rfl
   ·rw[bI];simp only[Cb]at g;rw[g];rfl
  ·intro j C;simp only[go_sem,C,dF];rw[SH,I,j,AEq];rfl
def AIn(z:Et):Fm AA 230 [.agg z.c] (.int .i64 (Rz z)):=by
 refine pC ARV rfl ?_;simp only[f230,go_sem];repeat' (first|apply Pz<;>intro g<;>simp only[go_sem,g])
 all_goals first
  |rfl
  |(simp only[Rz];rfl)
  |grind[Rz]
  |(simp only[Rz];grind)
  |(simp[Rz, *];done)
  |(simp_all[Rz];done)
  |skip
def YH(z:Et)(b:Bool):Fm AA 135 [.agg z.c,.bool b] (.int .i64 (tf z b)):=by
 refine pC AWn rfl ?_;simp only[f135,go_sem];repeat' (first|(apply pK (AIn _);simp only[go_sem])|apply Pz<;>intro g<;>simp only[go_sem,g])
 all_goals first
  |rfl
  |(simp only[tf];rfl)
  |grind[tf]
  |(simp only[tf];grind)
  |(simp[tf, *];done)
  |(simp_all[tf];done)
  |skip
def Aj0(x:Eu)(g:Fo x.c<=1073741824):Fm AA 255 [.agg x.c] (.int .i64 (ckP x)):=by
 refine pC AP3 rfl ?_;simp only[f255,go_sem];repeat' (first|((first|apply pK (uC _)|apply pK (AKL _ g)|apply pK (YH _ _));simp only[go_sem])|apply Pz<;>intro i<;>simp only[go_sem,i])
 all_goals first
  |rfl
  |(simp only[ckP];rfl)
  |grind[ckP]
  |(simp only[ckP];grind)
  |(simp[ckP, *];done)
  |(simp_all[ckP];done)
  |skip
def AFU(x:Ev)(g:Fo x.c<=1073741824):Fm AA 71 [.agg x.c] (.int .i64 (WT x)):=by
 refine pC Aeh rfl ?_;simp only[f71,go_sem];repeat' (first|((first|apply pK (AKJ _)|apply pK (Ajv _ g)|apply pK (YH _ _));simp only[go_sem])|apply Pz<;>intro i<;>simp only[go_sem,i])
 all_goals first
  |rfl
  |(simp only[WT];rfl)
  |grind[WT]
  |(simp only[WT];grind)
  |(simp[WT, *];done)
  |(simp_all[WT];done)
  |skip
def Ajz(x:Ew)(g:Fo x.c<=1073741824):Fm AA 252 [.agg x.c] (.int .i64 (ckR x)):=by
 refine pC AQC rfl ?_;simp only[f252,go_sem];repeat' (first|((first|apply pK (AKI _)|apply pK (Aju _ g)|apply pK (YH _ _));simp only[go_sem])|apply Pz<;>intro i<;>simp only[go_sem,i])
 all_goals first
  |rfl
  |(simp only[ckR];rfl)
  |grind[ckR]
  |(simp only[ckR];grind)
  |(simp[ckR, *];done)
  |(simp_all[ckR];done)
  |skip
def Ajt(x:Stp)(i:Fo x.c<=1073741824):Fm AA 313 [.agg x.c] (.bool (bH x)):=by
 have I:x.key.length<=9223372036854775807:=AJ (WJ (M6 i)) dc;refine pC ANq rfl ?_;simp only[f313,go_sem,Fk];repeat' (first|((first|apply pK (Fm.lend (Ajw x Stp.z))|apply pK (dl _ (r_ i)));simp only[go_sem,Fk])|apply Pz<;>intro g<;>simp only[go_sem,g,Fk])
 all_goals first
  |rfl
  |(simp only[bH];rfl)
  |grind[bH]
  |(simp only[bH];grind)
  |(simp[bH, *];done)
  |(simp_all[bH];done)
  |skip
 refine F0 x.key (λr=>r.all WO) (λk=>[(1,.ptr 0 0),(5,.int .i64 k)]) I rfl ?_ ?_
 ·intro k y O P hx J j o C;have hm:=AB hx;have p:y.size<=1073741824:=by have:=AH4 (M6 i) hm;simp only[AV.bulk]at this;omega
  simp only[go_sem,j,o,GN hx];repeat' (first|(apply pK (WV _ p);simp only[go_sem,j,o,C,GN hx])|apply Pz<;>intro g<;>simp only[go_sem,g,j,o,C,GN hx])
  all_goals first
   |rfl
   |(simp only[bH,Am];rfl)
   |grind[bH]
   |(simp only[bH,Am];grind)
   |(simp[bH,Am, *];done)
   |(simp_all[bH,Am];done)
   |skip
 ·intro J t;simp only[go_sem,t,dF];repeat' (first|(apply pK (WV _ (eR i));simp only[go_sem,Fk])|apply Pz<;>intro g<;>simp only[go_sem,g,Fk])
  all_goals first
   |rfl
   |(simp only[bH,A3];rfl)
   |grind[bH]
   |(simp only[bH,A3];grind)
   |(simp[bH,A3, *];done)
   |(simp_all[bH,A3];done)
   |skip
def AKN(x:Stp)(g:Fo x.c<=1073741824):Fm AA 257 [.agg x.c] (.int .i64 (gY x)):=by
 refine pC APv rfl ?_;simp only[f257,go_sem];repeat' (first|(apply pK (Ajt _ g);simp only[go_sem])|apply Pz<;>intro i<;>simp only[go_sem,i])
 all_goals first
  |rfl
  |(simp only[gY];rfl)
  |grind[gY]
  |(simp only[gY];grind)
  |(simp[gY, *];done)
  |(simp_all[gY];done)
  |skip
def Aj1(x:List Ex)(t:Fo (GV x)<=1073741824):Fm AA 182 [.sl none (GV x)] (.int .i64 (Y6 x)):=by
 have I:x.length<=9223372036854775807:=AJ (Mc t) dc;refine pC ATv rfl ?_;simp only[f182,go_sem];repeat' (first|apply Pz<;>intro i<;>simp only[go_sem,i])
 all_goals first
  |rfl
  |(simp only[Y6];rfl)
  |grind[Y6]
  |(simp only[Y6];grind)
  |(simp[Y6, *];done)
  |(simp_all[Y6];done)
  |skip
 refine F0 x (λr=>RC r) (λk=>[(0,.sl none (GV x)),(3,.int .i64 k)]) I rfl ?_ ?_
 ·intro k y O P hx J j o C;have hm:=AB hx;have g:Fo y.c<=1073741824:=by have:=KZ t hm;simpa only[AV.bulk]using this
  simp only[go_sem,j,o,F9 hx];repeat' (first|((first|apply pK (AFU _ (IL g))|apply pK (AKN _ (Li g)));simp only[go_sem,j,o,C,F9 hx])|apply Pz<;>intro i<;>simp only[go_sem,i,j,o,C,F9 hx])
  all_goals first
   |rfl
   |(simp only[Y6,RC];rfl)
   |grind[Y6,RC]
   |(simp only[Y6,RC];grind)
   |(simp[Y6,RC, *];done)
   |(simp_all[Y6,RC];done)
   |skip
 ·intro J p;simp only[go_sem,p,dF];all_goals first
   |rfl
   |(simp only[Y6,RC];rfl)
   |grind[Y6,RC]
   |(simp only[Y6,RC];grind)
   |(simp[Y6,RC, *];done)
   |(simp_all[Y6,RC];done)
   |skip
def AIw:Fm AA 165 [] (.agg KE.c):=by
 have h:Fm AA 165 [] (.agg KE.c):=Fm.run AE3 100 rfl kr kr;exact h
def K0(l:List Fld)(s:ByteArray):Fm AA 77 [.sl none (Gf l),.str s] (.tup [.agg (Ft l s).1.c,.bool (Ft l s).2]):=by
 refine Fm.fit AJ7.c λt=>?_;have j:=fits t;rw[Sz]at j;refine pB AJ7 rfl ?_;simp only[f77,go_sem,Fk];repeat' (first|(apply pK AIw;simp only[go_sem,Fk])|apply Pz<;>intro g<;>simp only[go_sem,g,Fk])
 all_goals first
  |rfl
  |(simp only[Ft,Gd];rfl)
  |grind[Ft,Gd]
  |(simp only[Ft,Gd];grind)
  |(simp[Ft,Gd, *];done)
  |(simp_all[Ft,Gd];done)
  |skip
 ·refine F0 l (λr=>r.find? (λf=>decide (f.name=s))) (λk=>[(0,.sl none (Gf l)),(1,.str s),(4,.ptr 0 0),(6,.int .i64 k)]) j rfl ?_ ?_
  ·intro k y J O hx C o p I;simp only[go_sem,o,p,HJ hx,Fk];repeat' (first|apply Pz<;>intro g<;>simp only[go_sem,g,o,p,I,HJ hx,Fk])
   all_goals first
    |rfl
    |(simp only[Ft,Gd];rfl)
    |grind[Ft,Gd]
    |(simp only[Ft,Gd];grind)
    |(simp[Ft,Gd, *];done)
    |(simp_all[Ft,Gd];done)
    |skip
  ·intro C i;simp only[go_sem,i,dF];all_goals first
    |rfl
    |(simp only[Ft,Gd];rfl)
    |grind[Ft,Gd]
    |(simp only[Ft,Gd];grind)
    |(simp[Ft,Gd, *];done)
    |(simp_all[Ft,Gd];done)
    |skip
def dj(n:Int)(i:n<9223372036854775807):Fm AA 167 [.int .i64 n] (.int .i64 (Q7 n.toNat)):=by
 refine pC AUr rfl ?_;simp only[f167,go_sem];refine WX n.toNat (λk=>[(0,.int .i64 n),(3,.int .i64 (Q7 k)),(4,.int .i64 k)]) (λ_=>[]) rfl rfl ?_;intro k j;by_cases h:(k:Int)<n
 ·have g:=K_ (k:=k) Fj;simp only[go_sem,h,dT,g];exact⟨Fj,rfl,rfl⟩
 ·have:k=n.toNat:=Fj;subst this;simp only[go_sem,h,dF]
def YG(f:Fld)(g:f.width<9223372036854775807):Fm AA 237 [.agg f.c] (.int .i64 (JY f)):=by
 refine pC AQ9 rfl ?_;simp only[f237,go_sem];repeat' (first|(apply pK (dj _ g);simp only[go_sem])|apply Pz<;>intro i<;>simp only[go_sem,i])
 all_goals first
  |rfl
  |(simp only[JY];rfl)
  |grind[JY]
  |(simp only[JY];grind)
  |(simp[JY, *];done)
  |(simp_all[JY];done)
  |skip
def AZ9:∀x:Eu,Fo x.c<=1073741824->Fm AA 311 [.agg x.c] (.sl none (Gn (T5 x))):=by
 refine Jk _ λx J=>λi=>?_;have O:x.args.length<=9223372036854775807:=AJ (XQ (Jt i)) dc;have t:=AJ (ib x) i;refine pB ANy rfl ?_;simp only[f311,go_sem];refine F6 x.args (λo l=>o++Nn l) (λ_ _=>True) (λk o=>[(1,.ptr 0 0),(3,.sl (some 5) (Gn o)),(4,.int .i64 k)]) (λk o=>[some x.c]) [x] O trivial (by rw[IP];rfl) rfl ?_ ?_
 ·intro k o y R T hx _ g j p C;have hm:=AB hx;have r:Fo y.c<=1073741824:=by have:=XR (Jt i) hm;simpa only[AV.bulk]using this
  have I:o.length+(T5 y).length<=1073741824:=by
   have:=congrArg List.length g;rw[KN]at this;rw[MO]at t;simp at this t;omega
  simp only[go_sem,j,p,GF hx];repeat' (first|(apply pK (J _ hm r);simp only[go_sem,j,p,C,GF hx])|apply Pz<;>intro P<;>simp only[go_sem,P,j,p,C,GF hx])
  exact⟨Fj,Fj,o++T5 y,by rw[KN,AF],rfl,rfl⟩
 ·intro o _ g;simp only[go_sem,AR,dF];rw[MO];simp only[MZ,Ai]at g;rw[<- g];rfl
def AFH:∀x:Ev,Fo x.c<=1073741824->Fm AA 258 [.agg x.c] (.sl none (GX (No x))):=by
 refine IM _ λx J=>λi=>?_;have O:x.args.length<=9223372036854775807:=AJ (R2 (I2 i)) dc;have t:=AJ (Sm x) i;refine pB APr rfl ?_;simp only[f258,go_sem];refine F6 x.args (λo l=>o++NB l) (λ_ _=>True) (λk o=>[(1,.ptr 0 0),(3,.sl (some 9) (GX o)),(4,.int .i64 k)]) (λk o=>[some x.c]) [x] O trivial (by rw[HI];rfl) rfl ?_ ?_
 ·intro k o y R T hx _ g j p C;have hm:=AB hx;have r:Fo y.c<=1073741824:=by have:=R3 (I2 i) hm;simpa only[AV.bulk]using this
  have I:o.length+(No y).length<=1073741824:=by
   have:=congrArg List.length g;rw[JX]at this;rw[Ld]at t;simp at this t;omega
  simp only[go_sem,j,p,Fy hx];repeat' (first|(apply pK (J _ hm r);simp only[go_sem,j,p,C,Fy hx])|apply Pz<;>intro P<;>simp only[go_sem,P,j,p,C,Fy hx])
  exact⟨Fj,Fj,o++No y,by rw[JX,AF],rfl,rfl⟩
 ·intro o _ g;simp only[go_sem,AR,dF];rw[Ld];simp only[LE,Ai]at g;rw[<- g];rfl
def AZ_(l:List Fld)(x:Eu)(g : ∀ f∈l,f.width<=9000000000000000000):Fm AA 312 [.sl none (Gf l),.agg x.c] (.int .i64 (RB l x)):=by
 have i:(Ft l x.field).1.width<9223372036854775807:=by
  unfold Ft;split
  ·decide
  ·split
   ·rename_i f j;have:=g f (DP j);show f.width<_;omega
   ·decide
 refine pC ANu rfl ?_;simp only[f312,go_sem];repeat' (first|((first|apply pK (K0 _ _)|apply pK (YG _ i));simp only[go_sem])|apply Pz<;>intro o<;>simp only[go_sem,o])
 all_goals first
  |rfl
  |(simp only[RB];rfl)
  |grind[RB]
  |(simp only[RB];grind)
  |(simp[RB, *];done)
  |(simp_all[RB];done)
  |skip
def AFO(l:List Fld)(x:Eu)(C:∀f∈l,f.width<=9000000000000000000)(p:Fo x.c<=1073741824):Fm AA 256 [.sl none (Gf l),.agg x.c] (.int .i64 (TA l x)):=by
 have J:=AJ (ib x) p;refine pC APz rfl ?_;simp only[f256,go_sem];repeat' (first|(apply pK (AZ9 _ p);simp only[go_sem])|apply Pz<;>intro g<;>simp only[go_sem,g])
 refine F0 (T5 x) (λr=>MG l r) (λk=>[(0,.sl none (Gf l)),(5,.sl none (Gn (T5 x))),(6,.int .i64 k)]) Fj rfl ?_ ?_
 ·intro k y O P hx I i j t;simp only[go_sem,i,j,GF hx];repeat' (first|(apply pK (AZ_ _ _ C);simp only[go_sem,i,j,t,GF hx])|apply Pz<;>intro g<;>simp only[go_sem,g,i,j,t,GF hx])
  all_goals first
   |rfl
   |(simp only[TA,MG];rfl)
   |grind[TA,MG]
   |(simp only[TA,MG];grind)
   |(simp[TA,MG, *];done)
   |(simp_all[TA,MG];done)
   |skip
 ·intro I o;simp only[go_sem,o,dF];all_goals first
   |rfl
   |(simp only[TA,MG];rfl)
   |grind[TA,MG]
   |(simp only[TA,MG];grind)
   |(simp[TA,MG, *];done)
   |(simp_all[TA,MG];done)
   |skip
abbrev okF(l:List Fld):Prop:=∀f∈l,f.width<=9000000000000000000
def dQ{l:List Fld}(g:okF l)(s:ByteArray):(Ft l s).1.width<9223372036854775807:=by
 unfold Ft;split
 ·decide
 ·split
  ·rename_i f i;have:=g f (DP i);show f.width<_;omega
  ·decide
def AFK(s:Stp):Fm AA 192 [.agg s.c] (.bool (Mo s)):=by
 refine pC ATB rfl ?_;simp only[f192,go_sem];repeat' (first|apply Pz<;>intro g<;>simp only[go_sem,g])
 all_goals first
  |rfl
  |(simp only[Mo];rfl)
  |grind[Mo]
  |(simp only[Mo];grind)
  |(simp[Mo, *];done)
  |(simp_all[Mo];done)
  |skip
def AFR(k:Int):Fm AA 190 [.int .i64 k] (.int .i64 (MS k)):=by
 refine pC ATL rfl ?_;simp only[f190,go_sem];repeat' (first|apply Pz<;>intro g<;>simp only[go_sem,g])
 all_goals first
  |rfl
  |(simp only[MS];rfl)
  |grind[MS]
  |(simp only[MS];grind)
  |(simp[MS, *];done)
  |(simp_all[MS];done)
  |skip
def rA(l:List Fld)(g:List ByteArray)(P:g.length<=1073741824):Fm AA 191 [.sl none (Gf l),.sl none (Ha g)] (.sl none (Gi (Jl l g))):=by
 refine pB ATG rfl ?_;simp only[f191,go_sem];refine F6 g (λo r=>o++Jl l r) (λk o=>o.length=k) (λk o=>[(0,.sl none (Gf l)),(1,.sl none (Ha g)),(5,.sl (some 1) (Gi o)),(6,.int .i64 k)]) (λk o=>[]) [] Fj rfl rfl rfl ?_ ?_
 ·intro k o y R I hx t i j p C;have J:=GI I;simp only[go_sem,j,p,GN hx];repeat' (first|(apply pK (K0 _ _);simp only[go_sem,j,p,C,GN hx])|apply Pz<;>intro O<;>simp only[go_sem,O,j,p,C,GN hx])
  exact⟨Fj,Fj,o++[(Ft l y).1.width],by simp[Jl],by simp[t],rfl,rfl⟩
 ·intro o t i;simp only[go_sem,AR,dF];simp only[Jl,List.map_nil,Ai,AM]at i;rw[Jl,i]
def Ajy(a b:List Int):Fm AA 259 [.sl none (Gi a),.sl none (Gi b)] (.bool (ZX a b)):=by
 refine Fm.fit AET.c λU=>?_;have C:=fits U;rw[Ho]at C;refine pC AET rfl ?_;simp only[f259,go_sem];repeat' (first|apply Pz<;>intro i<;>simp only[go_sem,i])
 all_goals first
  |rfl
  |(simp only[ZX];rfl)
  |grind[ZX]
  |(simp only[ZX];grind)
  |(simp[ZX, *];done)
  |(simp_all[ZX];done)
  |skip
 have j:a.length=b.length:=by grind
 refine F0 a (λr=>decide (r=b.drop (a.length - r.length))) (λk=>[(0,.sl none (Gi a)),(1,.sl none (Gi b)),(5,.int .i64 k)]) C rfl ?_ ?_
 ·intro k z I V hx g J O hw;have hk:=GI V;obtain⟨w,P⟩:∃w,b[k]? =some w:=⟨_,AL Fj⟩;have o:a.length - (I.length+1)=k:=Fj;have R:a.length - I.length=k+1:=Fj;have p:b.drop k=w::b.drop (k+1):=by rw[BI Fj];congr 1;grind
  have T:(k:Int)<(b.length:Int):=Fj;simp only[AC,o,AP,BE,p]at g;simp only[go_sem,J,O,T,Gj hx,Gj P,o,R,p];repeat' (first|apply Pz<;>intro i<;>simp only[go_sem,i,J,O,T,hw,Gj hx,Gj P,o,R,p])
  all_goals first
   |rfl
   |(simp only[ZX,g,List.cons.injEq];rfl)
   |grind[ZX,List.cons.injEq]
   |(simp only[ZX,g,List.cons.injEq];grind)
   |(simp[ZX,g,List.cons.injEq, *];done)
   |(simp_all[ZX,g,List.cons.injEq];done)
   |skip
 ·intro g t;simp only[go_sem,t,dF];simp only[AP,BE,List.length_nil,BZ]at g;have h3:b.drop a.length=[]:=by rw[j];simp
  simp only[h3]at g;rw[ZX,g];rfl
def AaK(l:List Fld)(s t:Stp)(g:s.key.length<=1073741824)(i:t.key.length<=1073741824):Fm AA 185 [.sl none (Gf l),.agg s.c,.agg t.c] (.bool (Vr l s t)):=by
 refine pC ATf rfl ?_;simp only[f185,go_sem];repeat' (first|((first|apply pK (AFK _)|apply pK (rA _ _ g)|apply pK (rA _ _ i)|apply pK (Ajy _ _)|apply pK (AFR _));simp only[go_sem])|apply Pz<;>intro j<;>simp only[go_sem,j])
 all_goals first
  |rfl
  |(simp only[Vr];rfl)
  |grind[Vr]
  |(simp only[Vr];grind)
  |(simp[Vr, *];done)
  |(simp_all[Vr];done)
  |skip
def AFT(l:List Fld)(x:Eu)(i:okF l)(g:Fo x.c<=1073741824):Fm AA 181 [.sl none (Gf l),.agg x.c] (.int .i64 (Vn l x)):=by
 refine pC ATz rfl ?_;simp only[f181,go_sem];repeat' (first|((first|apply pK (Aj0 _ g)|apply pK (AFO _ _ i g));simp only[go_sem])|apply Pz<;>intro j<;>simp only[go_sem,j])
 all_goals first
  |rfl
  |(simp only[Vn];rfl)
  |grind[Vn]
  |(simp only[Vn];grind)
  |(simp[Vn, *];done)
  |(simp_all[Vn];done)
  |skip
def AaF(l:List Fld)(x:Ev)(C:okF l)(g:Fo x.c<=1073741824):Fm AA 183 [.sl none (Gf l),.agg x.c] (.int .i64 (LX l x)):=by
 have O:=AJ (Sm x) g;refine pC ATq rfl ?_;simp only[f183,go_sem];repeat' (first|((first|apply pK (AFU _ g)|apply pK (AFH _ g));simp only[go_sem])|apply Pz<;>intro i<;>simp only[go_sem,i])
 all_goals first
  |rfl
  |(simp only[LX];rfl)
  |grind[LX]
  |(simp only[LX];grind)
  |(simp[LX, *];done)
  |(simp_all[LX];done)
  |skip
 refine F0 (No x) (λr=>MC l r) (λk=>[(0,.sl none (Gf l)),(5,.int .i64 0),(6,.sl none (GX (No x))),(7,.int .i64 k)]) Fj (by grind) ?_ ?_
 ·intro k y P R hx J j o I;have hm:=AB hx;have p:=AJ (vG x y hm) g;simp only[go_sem,j,o,Fy hx];repeat' (first|((first|apply pK (AFO _ _ C (M8 p))|apply pK (K0 _ _)|apply pK (YG _ (dQ C _)));simp only[go_sem,j,o,I,Fy hx])|apply Pz<;>intro i<;>simp only[go_sem,i,j,o,I,Fy hx])
  all_goals first
   |rfl
   |(simp only[LX,MC,So,At];rfl)
   |grind[LX,MC,So,At]
   |(simp only[LX,MC,So,At];grind)
   |(simp[LX,MC,So,At, *];done)
   |(simp_all[LX,MC,So,At];done)
   |skip
 ·intro J t;simp only[go_sem,t,dF];all_goals first
   |rfl
   |(simp only[LX,MC];rfl)
   |grind[LX,MC]
   |(simp only[LX,MC];grind)
   |(simp[LX,MC, *];done)
   |(simp_all[LX,MC];done)
   |skip
def J2{α:Type}{l:List α}{i k:Nat}{x:α}(h:(l.take i)[k]? =some x):l[k]? =some x:=by
 rw[Ak]at h;split at h
 ·exact h
 ·cases h
def Ki{α:Type}{l:List α}{i:Nat}(h:i<=l.length):(l.take i).length=i:=IG
def AaE(l:List Fld)(s:Stp)(hl:okF l)(hb:Fo s.c<=1073741824):Fm AA 184 [.sl none (Gf l),.agg s.c] (.int .i64 (M_ l s)) := by
  have hk:s.key.length<=1073741824 := WJ (M6 hb);have g0:s.key.length*16<=140737488355328 := by omega
  have g1:s.key.length<=9223372036854775807 := by omega
  have g2:(s.key.length+1)*16<=140737488355328 := by omega
  have g3:s.key.length<=9223372036854775806 := by omega
  refine pC ATk rfl ?_;simp only[f184,go_sem,Fk];repeat' (first|(apply pK (AKN _ hb);simp only[go_sem,Fk,g0,g1,g2,g3])|apply Pz<;>intro hc<;>simp only[go_sem,hc,Fk,g0,g1,g2,g3])
  all_goals first
    |rfl
    |(simp only[M_];rfl)
    |grind[M_]
    |(simp only[M_];grind)
    |(simp[M_, *];done)
    |(simp_all[M_];done)
    |skip
  · have hnm:Km s=s.key++[s.field] := by grind [Km]
    have hnl:(s.key++[s.field]).length<=1073741825 := by first|omega|(simp;omega)
    refine F0 (s.key++[s.field]) (λr=>r.all (λy=>(Ft l y).2)) (λk=>[(0,.sl none (Gf l)),(3,.ptr 0 0),(6,.sl (some 1) (Ha (s.key++[s.field]))),(7,.int .i64 k)]) Fj rfl ?_ ?_
    · intro k y ys hd hx hF h0 h1 hw
      simp only[go_sem,h0,h1,GN hx];repeat' (first|(apply pK (K0 _ _);simp only[go_sem,h0,h1,hw,GN hx])|apply Pz<;>intro hc<;>simp only[go_sem,hc,h0,h1,hw,GN hx])
      all_goals first
        | (have h5 : (Km s).all (fun y => (Ft l y).2) = false := by rw [hnm, hF]; simp_all
           grind[M_])
        |simp_all
    · intro hF hlt
      simp only[go_sem,hlt,dF];refine F0 s.key (λr=>KG s.key (s.key.length - r.length) r) (λk=>[(0,.sl none (Gf l)),(3,.ptr 0 0),(10,.int .i64 k)]) Fj rfl ?_ ?_
      · intro k y ys hd hx hF2 h0 h1 hw
        have hk2 := GI hd;have e1:s.key.length - (ys.length+1)=k := by omega
        have e2:s.key.length - ys.length=k+1 := by omega
        have ht:(s.key.take k).length=k := Ki Fj;simp only[AC,e1,AP]at hF2;simp only[go_sem,h0,h1,e1,e2];refine F0 (s.key.take k) (λr=>r.any (λz=>decide (z=y))) (λi=>[(0,.sl none (Gf l)),(3,.ptr 0 0),(10,.int .i64 k),(11,.int .i64 i)]) Fj rfl ?_ ?_
        · intro i z zs hd3 hx3 hF3 h03 MR hw3
          rw[ht]at MR;have hx4 := J2 hx3;have PD:(i:Int)<(s.key.length:Int) := by omega
          simp only[go_sem,h03,MR,PD,h0,h1,GN hx4,GN hx,Fk];repeat' (first|apply Pz<;>intro hc<;>simp only[go_sem,hc,h03,MR,PD,hw3,h0,h1,GN hx4,GN hx,Fk])
          all_goals first
            | (have h5 : KG s.key 0 s.key = false := by rw [hF2, KG, hF3, Av, hc]; rfl
               have h6:(Km s).all (λy=>(Ft l y).2)=true := by rw[hnm,hF];rfl
               grind[M_])
            |(rw[Av,hc];rfl)
        · intro hF3 hlt3
          rw[ht]at hlt3;simp only[go_sem,ht,hlt3,dF,hw];rw[e1,e2,KG,hF3];rfl
      · intro hF2 hlt2
        have h5:KG s.key 0 s.key=true := by simp only[AP]at hF2;rw[hF2];rfl
        have h6:(Km s).all (λy=>(Ft l y).2)=true := by rw[hnm,hF];rfl
        simp only[go_sem,hlt2,dF];repeat' (first|((first|apply pK (K0 _ _)|apply pK (YG _ (dQ hl _)));simp only[go_sem])|apply Pz<;>intro hc<;>simp only[go_sem,hc])
        all_goals grind[M_]
  · have hnm:Km s=s.key := by grind [Km]
    have hnl:(s.key).length<=1073741825 := by first|omega|(simp;omega)
    refine F0 (s.key) (λr=>r.all (λy=>(Ft l y).2)) (λk=>[(0,.sl none (Gf l)),(3,.ptr 0 0),(6,.sl (some 1) (Ha (s.key))),(7,.int .i64 k)]) Fj rfl ?_ ?_
    · intro k y ys hd hx hF h0 h1 hw
      simp only[go_sem,h0,h1,GN hx];repeat' (first|(apply pK (K0 _ _);simp only[go_sem,h0,h1,hw,GN hx])|apply Pz<;>intro hc<;>simp only[go_sem,hc,h0,h1,hw,GN hx])
      all_goals first
        | (have h5 : (Km s).all (fun y => (Ft l y).2) = false := by rw [hnm, hF]; simp_all
           grind[M_])
        |simp_all
    · intro hF hlt
      simp only[go_sem,hlt,dF];refine F0 s.key (λr=>KG s.key (s.key.length - r.length) r) (λk=>[(0,.sl none (Gf l)),(3,.ptr 0 0),(10,.int .i64 k)]) Fj rfl ?_ ?_
      · intro k y ys hd hx hF2 h0 h1 hw
        have hk2 := GI hd;have e1:s.key.length - (ys.length+1)=k := by omega
        have e2:s.key.length - ys.length=k+1 := by omega
        have ht:(s.key.take k).length=k := Ki Fj;simp only[AC,e1,AP]at hF2;simp only[go_sem,h0,h1,e1,e2];refine F0 (s.key.take k) (λr=>r.any (λz=>decide (z=y))) (λi=>[(0,.sl none (Gf l)),(3,.ptr 0 0),(10,.int .i64 k),(11,.int .i64 i)]) Fj rfl ?_ ?_
        · intro i z zs hd3 hx3 hF3 h03 MR hw3
          rw[ht]at MR;have hx4 := J2 hx3;have PD:(i:Int)<(s.key.length:Int) := by omega
          simp only[go_sem,h03,MR,PD,h0,h1,GN hx4,GN hx,Fk];repeat' (first|apply Pz<;>intro hc<;>simp only[go_sem,hc,h03,MR,PD,hw3,h0,h1,GN hx4,GN hx,Fk])
          all_goals first
            | (have h5 : KG s.key 0 s.key = false := by rw [hF2, KG, hF3, Av, hc]; rfl
               have h6:(Km s).all (λy=>(Ft l y).2)=true := by rw[hnm,hF];rfl
               grind[M_])
            |(rw[Av,hc];rfl)
        · intro hF3 hlt3
          rw[ht]at hlt3;simp only[go_sem,ht,hlt3,dF,hw];rw[e1,e2,KG,hF3];rfl
      · intro hF2 hlt2
        have h5:KG s.key 0 s.key=true := by simp only[AP]at hF2;rw[hF2];rfl
        have h6:(Km s).all (λy=>(Ft l y).2)=true := by rw[hnm,hF];rfl
        simp only[go_sem,hlt2,dF];repeat' (first|((first|apply pK (K0 _ _)|apply pK (YG _ (dQ hl _)));simp only[go_sem])|apply Pz<;>intro hc<;>simp only[go_sem,hc])
        all_goals grind[M_]
def AKM(l:List Fld)(p:List Ex)(hl:okF l)(P:Fo (GV p)<=1073741824):Fm AA 88 [.sl none (Gf l),.sl none (GV p)] (.int .i64 (RZ l p)) := by
  have hn := Mc P;refine pC Adb rfl ?_;simp only[f88,go_sem];repeat' (first|(apply pK (Aj1 _ P);simp only[go_sem])|apply Pz<;>intro R<;>simp only[go_sem,R])
  all_goals first
    |rfl
    |(simp only[RZ];rfl)
    |grind[RZ]
    |(simp only[RZ];grind)
    |(simp[RZ, *];done)
    |(simp_all[RZ];done)
    |skip
  refine F0 p (λr=>Nj l r) (λk=>[(0,.sl none (Gf l)),(1,.sl none (GV p)),(6,.int .i64 k)]) Fj rfl ?_ ?_
  · intro k y ys hd hx hF o t V
    have g:Fo y.c<=1073741824 := by have := KZ P (AB hx);simpa only[AV.bulk]using this
    simp only[go_sem,o,t,F9 hx];repeat' (first|((first|apply pK (AaF _ _ hl (IL g))|apply pK (AaE _ _ hl (Li g)));simp only[go_sem,o,t,V,F9 hx])|apply Pz<;>intro R<;>simp only[go_sem,R,o,t,V,F9 hx])
    all_goals first
      |rfl
      |(simp only[RZ,Nj];rfl)
      |grind[RZ,Nj]
      |(simp only[RZ,Nj];grind)
      |(simp[RZ,Nj, *];done)
      |(simp_all[RZ,Nj];done)
      |skip
  · intro hF hlt
    simp only[go_sem,hlt,dF];refine F0 p (λr=>Lk l p (p.length - r.length) r) (λk=>[(0,.sl none (Gf l)),(1,.sl none (GV p)),(9,.int .i64 k)]) Fj rfl ?_ ?_
    · intro k y ys hd hx I o t V
      have hk := GI hd;have e1:p.length - (ys.length+1)=k := by omega
      have e2:p.length - ys.length=k+1 := by omega
      have g:Fo y.c<=1073741824 := by have := KZ P (AB hx);simpa only[AV.bulk]using this
      have hy := WJ (M6 (Li g));have ht:(p.take k).length=k := Ki Fj;simp only[AC,e1,AP]at I;simp only[go_sem,o,t,F9 hx,e1,e2];refine F0 (p.take k) (λr=>r.any (λz=>MH l z.step y.step)) (λi=>[(0,.sl none (Gf l)),(1,.sl none (GV p)),(9,.int .i64 k),(10,.int .i64 i)]) Fj rfl ?_ ?_
      · intro i z zs hd3 hx3 J O MR T
        rw[ht]at MR;have j := J2 hx3;have PD:(i:Int)<(p.length:Int) := by omega
        have hbz:Fo z.c<=1073741824 := by have := KZ P (AB j);simpa only[AV.bulk]using this
        have hz := WJ (M6 (Li hbz));simp only[go_sem,O,MR,PD,o,t,F9 j,F9 hx,Fk];repeat' (first|(apply pK (AaK _ _ _ hz hy);simp only[go_sem,O,MR,PD,T,o,t,F9 j,F9 hx,Fk])|apply Pz<;>intro R<;>simp only[go_sem,R,O,MR,PD,T,o,t,F9 j,F9 hx,Fk])
        all_goals first
          | (have hcl : MH l z.step y.step = true := by grind [MH]
             have h5:Lk l p 0 p=false := by rw[I,Lk,J,Av,hcl];rfl
             grind[RZ,Nj])
          |grind[MH]
      · intro J C
        rw[ht]at C;simp only[go_sem,ht,C,dF,V];rw[e1,e2,Lk,J];rfl
    · intro I U
      simp only[go_sem,U,dF];all_goals first
        |rfl
        |(simp only[RZ,Lk,Nj];rfl)
        |grind[RZ,Lk,Nj]
        |(simp only[RZ,Lk,Nj];grind)
        |(simp[RZ,Lk,Nj, *];done)
        |(simp_all[RZ,Lk,Nj];done)
        |skip
def AZ8(l:List Int)(n:Int)(V:l.length<=1073741824):Fm AA 343 [.sl none (Gi l),.int .i64 n] (.sl none (Gi (T4 l n))):=by
 refine pB AM8 rfl ?_;simp only[f343,go_sem];refine F6 l (λ(s:List Int×Bool) r=>s.1++J6 n s.2 r) (λk s=>s.1.length<=2*k) (λk s=>[(0,.sl none (Gi l)),(1,.int .i64 n),(5,.sl (some 1) (Gi s.1)),(6,.bool s.2),(7,.int .i64 k)]) (λk o=>[]) ([],false) Fj F3 rfl rfl ?_ ?_
 ·intro k s y ys C hx I J p t O;have P:=GI C;have g:(s.1.length+1)*8<=140737488355328:=Fj;have i:s.1.length<=9223372036854775806:=Fj;have R:(s.1.length+1+1)*8<=140737488355328:=Fj;have T:s.1.length+1<=9223372036854775806:=Fj;have U:s.1.length<=9223372036854775805:=Fj;simp only[go_sem,p,t,Gj hx];repeat' (first|apply Pz<;>intro j<;>simp only[go_sem,j,p,t,O,Gj hx,AE,List.length_singleton,g,i,R,T,U])
  all_goals first
   |exact⟨(s.1++[n,y],true),by grind[J6],IG,rfl,rfl⟩
   |exact⟨(s.1++[n],true),by grind[J6],IG,rfl,rfl⟩
   |exact⟨(s.1++[y],s.2),by grind[J6],IG,rfl,rfl⟩
   |exact⟨(s.1,s.2),by grind[J6],IG,rfl,rfl⟩
   |skip
 ·intro s I J;have g:(s.1.length+1)*8<=140737488355328:=Fj;have i:s.1.length<=9223372036854775806:=Fj;simp only[go_sem,AR,dF];repeat' (first|apply Pz<;>intro j<;>simp only[go_sem,j,g,i])
  all_goals first
   |rfl
   |(simp only[T4,J6];rfl)
   |grind[T4,J6]
   |(simp only[T4,J6];grind)
   |(simp[T4,J6, *];done)
   |(simp_all[T4,J6];done)
   |skip
def M3(t:Ez)(n:Int):Fm AA 151 [.agg t.c,.int .i64 n] (.bool (H7 t n)):=by
 refine pC AVo rfl ?_;simp only[f151,go_sem];repeat' (first|apply Pz<;>intro g<;>simp only[go_sem,g])
 all_goals first
  |rfl
  |(simp only[H7];rfl)
  |grind[H7]
  |(simp only[H7];grind)
  |(simp[H7, *];done)
  |(simp_all[H7];done)
  |skip
def Sn{t:Ez}{n:Int}(h:H7 t n=true):0<=n/\n<(t.ports.length:Int) /\ ∃p,t.ports[n.toNat]? =some p/\QB t n=p.edge/\(K7 t.ports)[n.toNat]? =some (.agg p.c):=by
 simp only[H7,AQ,decide_eq_true_eq]at h;have g:=AL (l:=t.ports) (i:=n.toNat) Fj;exact⟨h.1,h.2,_,g,by simp[QB,g],G6 g⟩
def AIp(t:Ez)(n:Int):Fm AA 307 [.agg t.c,.int .i64 n] (.bool (Kv t n)):=by
 refine pC AOC rfl ?_;cases g:H7 t n with
 | false =>
  simp only[f307,go_sem];repeat' (first|(apply pK (M3 _ _);simp only[go_sem,g])|apply Pz<;>intro i<;>simp only[go_sem,i,g])
  all_goals first
   |rfl
   |(simp only[Kv];rfl)
   |grind[Kv]
   |(simp only[Kv];grind)
   |(simp[Kv, *];done)
   |(simp_all[Kv];done)
   |skip
 | true =>
  obtain⟨j,o,p,h3,h4,h5⟩:=Sn g;simp only[f307,go_sem];repeat' (first|(apply pK (M3 _ _);simp only[go_sem,g,j,o,h5])|apply Pz<;>intro i<;>simp only[go_sem,i,g,j,o,h5])
  all_goals first
   |rfl
   |(simp only[Kv];rfl)
   |grind[Kv]
   |(simp only[Kv];grind)
   |(simp[Kv, *];done)
   |(simp_all[Kv];done)
   |skip
def AIm(t:Ez)(n:Int):Fm AA 254 [.agg t.c,.int .i64 n] (.bool (LG t n)):=by
 refine pC AP7 rfl ?_;cases g:H7 t n with
 | false =>
  simp only[f254,go_sem];repeat' (first|(apply pK (M3 _ _);simp only[go_sem,g])|apply Pz<;>intro i<;>simp only[go_sem,i,g])
  all_goals first
   |rfl
   |(simp only[LG];rfl)
   |grind[LG]
   |(simp only[LG];grind)
   |(simp[LG, *];done)
   |(simp_all[LG];done)
   |skip
 | true =>
  obtain⟨j,o,p,h3,h4,h5⟩:=Sn g;simp only[f254,go_sem];repeat' (first|(apply pK (M3 _ _);simp only[go_sem,g,j,o,h5])|apply Pz<;>intro i<;>simp only[go_sem,i,g,j,o,h5])
  all_goals first
   |rfl
   |(simp only[LG];rfl)
   |grind[LG]
   |(simp only[LG];grind)
   |(simp[LG, *];done)
   |(simp_all[LG];done)
   |skip
def AKK(l:List ByteArray)(s:ByteArray):Fm AA 309 [.sl none (Ha l),.str s] (.bool (wj l s)):=by
 refine Fm.fit AEQ.c λC=>?_;have o:=fits C;rw[Ko]at o;refine pC AEQ rfl ?_;simp only[f309,go_sem];refine F0 l (λr=>r.any (λy=>decide (y=s))) (λk=>[(0,.sl none (Ha l)),(1,.str s),(5,.int .i64 k)]) o rfl ?_ ?_
 ·intro k y J O hx g p t I;simp only[go_sem,p,t,GN hx,Fk];repeat' (first|apply Pz<;>intro i<;>simp only[go_sem,i,p,t,I,GN hx,Fk])
  all_goals first
   |(rw[wj,g,Av,i];rfl)
   |(rw[Av,i];rfl)
 ·intro g j;simp only[go_sem,j,dF];rw[wj,g];rfl
def AFI(x:Ev)(C:Fo x.c<=1073741824):Fm AA 308 [.agg x.c] (.sl none (Gi (Oa x))):=by
 have T:=AJ (Sm x) C;refine pB AN_ rfl ?_;simp only[f308,go_sem];repeat' (first|(apply pK (AFH _ C);simp only[go_sem])|apply Pz<;>intro j<;>simp only[go_sem,j])
 have step:∀(y:Ev) (i:List Ev) (o:List Int),NL o (y::i)=NL (if y.kind=2/\y.field=Gd then T4 o y.n else o) i:=λy i o=>by rw[NL]
 have g:∀(o:List Int) (n:Int),(T4 o n).length<=o.length+1:=λo n=>ACv o n;refine F6 (No x) (λ(o:Option Nat×List Int) r=>NL o.2 r) (λk o=>o.2.length<=k) (λk o=>[(3,.sl o.1 (Gi o.2)),(4,.sl none (GX (No x))),(5,.int .i64 k)]) (λk o=>[some x.c]) (some 1,[]) Fj F3 rfl rfl ?_ ?_
 ·intro k o y i O hx P I p t J;have R:=GI O;simp only[go_sem,p,t,Fy hx,Fk];repeat' (first|(apply pK (AZ8 o.2 y.n (show o.2.length<=1073741824 by omega));simp only[go_sem,p,t,J,Fy hx,Fk])|apply Pz<;>intro j<;>simp only[go_sem,j,p,t,J,Fy hx,Fk])
  all_goals first
   |exact⟨(none,T4 o.2 y.n),by rw[step,iP (by simp_all[Gd])],by have:=g o.2 y.n;simp only;omega,rfl,rfl⟩
   |exact⟨o,by rw[step,iN (by simp_all[Gd])],Fj,rfl,rfl⟩
   |skip
 ·intro o P I;simp only[go_sem,AR,dF];rw[Oa,I,NL]
def AaG(s:E3)(t:Ez)(V:okF s.fields)(hb:Fo t.c<=1073741824):Fm AA 251 [.agg s.c,.agg t.c] (.int .i64 (NX s t)) := by
  have g := HV hb;have hn := Mc g;refine pC AQH rfl ?_;simp only[f251,go_sem,Fk];repeat' (first|(apply pK (AKM _ _ V g);simp only[go_sem,Fk])|apply Pz<;>intro j<;>simp only[go_sem,j,Fk])
  all_goals first
    |rfl
    |(simp only[NX];rfl)
    |grind[NX]
    |(simp only[NX];grind)
    |(simp[NX, *];done)
    |(simp_all[NX];done)
    |skip
  refine F0 t.program (λr=>Kx t r) (λk=>[(3,.ptr 1 0),(6,.int .i64 k)]) Fj rfl ?_ ?_
  · intro k y ys hd hx hF I J T
    have O:Fo y.c<=1073741824 := by have := KZ g (AB hx);simpa only[AV.bulk]using this
    have hp1 := oR y.policy;have hp2 := AJ (Sm y.policy) (IL O);simp only[go_sem,I,J,F9 hx,Fk];repeat' (first|(apply pK (AFI _ (IL O));simp only[go_sem,I,J,T,F9 hx,Fk])|apply Pz<;>intro j<;>simp only[go_sem,j,I,J,T,F9 hx,Fk])
    refine F0 (Oa y.policy) (λr=>r.all (H7 t)) (λi=>[(3,.ptr 1 0),(6,.int .i64 k),(7,.sl none (Gi (Oa y.policy))),(8,.int .i64 i)]) Fj rfl ?_ ?_
    · intro i z zs hd3 o p C MR P
      simp only[go_sem,C,MR,Gj o];repeat' (first|(apply pK (M3 _ _);simp only[go_sem,C,MR,P,Gj o])|apply Pz<;>intro j<;>simp only[go_sem,j,C,MR,P,Gj o])
      all_goals first
        | (have h5 : (Oa y.policy).all (H7 t) = false := by rw [p, Am]; simp_all
           grind[NX,Kx])
        |simp_all
    · intro p R
      have h5:(Oa y.policy).all (H7 t)=true := by rw[p];rfl
      simp only[go_sem,R,dF,I,J,F9 hx,Fk];repeat' (first|(apply pK (AKK _ _);simp only[go_sem,I,J,T,F9 hx,Fk])|apply Pz<;>intro j<;>simp only[go_sem,j,I,J,T,F9 hx,Fk])
      all_goals first
        |rfl
        |(simp only[NX,Kx,Gd];rfl)
        |grind[NX,Kx,Gd]
        |(simp only[NX,Kx,Gd];grind)
        |(simp[NX,Kx,Gd, *];done)
        |(simp_all[NX,Kx,Gd];done)
        |skip
  · intro hF U
    simp only[go_sem,U,dF];all_goals first
      |rfl
      |(simp only[NX,Kx];rfl)
      |grind[NX,Kx]
      |(simp only[NX,Kx];grind)
      |(simp[NX,Kx, *];done)
      |(simp_all[NX,Kx];done)
      |skip
def uH(n:Ey)(g:n.nodes.length<=1073741824)(R:n.edges.length<=1073741824):Fm AA 173 [.agg n.c] (.tup [.sl none (Ha (Iy n)),.sl none (Ha (LT n))]):=by
 refine pB AUW rfl ?_;simp only[f173,go_sem];refine F6 n.nodes (λo r=>o++r.map (·.name)) (λk o=>o.length=k) (λk o=>[(1,.ptr 0 0),(4,.sl (some 1) (Ha o)),(5,.sl (some 1) (Ha [])),(6,.int .i64 k)]) (λk o=>[some n.c]) [] Fj rfl rfl rfl ?_ ?_
 ·intro k o y P C hx i j p g t;have I:=GI C;simp only[go_sem,p,g,t,Nw hx];repeat' (first|apply Pz<;>intro J<;>simp only[go_sem,J,p,g,t,Nw hx])
  exact⟨Fj,Fj,o++[y.name],F3,by simp[i],rfl,rfl⟩
 ·intro o i j;simp only[go_sem,AR,dF];have O:o=Iy n:=by simpa [Iy]using j.symm
  subst O;refine F6 n.edges (λo r=>o++r.map (·.name)) (λk o=>o.length=k) (λk o=>[(1,.ptr 0 0),(4,.sl (some 1) (Ha (Iy n))),(5,.sl (some 1) (Ha o)),(7,.int .i64 k)]) (λk o=>[some n.c]) [] Fj rfl rfl rfl ?_ ?_
  ·intro k o y P C hx i j p g t;have I:=GI C;simp only[go_sem,p,g,t,N0 hx];repeat' (first|apply Pz<;>intro J<;>simp only[go_sem,J,p,g,t,N0 hx])
   exact⟨Fj,Fj,o++[y.name],F3,by simp[i],rfl,rfl⟩
  ·intro o i j;simp only[go_sem,AR,dF];have O:o=LT n:=by simpa [LT]using j.symm
   subst O;rfl
def Ajs(n:Ey)(g:n.nodes.length<=1073741824)(t:n.edges.length<=1073741824): ∀ x:Ew,Fm AA 253 [.agg n.c,.agg x.c] (.bool (knB (Iy n) x)):=by
 refine Us _ λx C=>?_;refine Fm.fit AEU.c λI=>?_;have J:x.args.length<=9223372036854775807:=QR (TB (show HL [.agg x.c]from I.2));refine pC AEU rfl ?_;simp only[f253,go_sem];repeat' (first|((first|apply pK (uH n g t)|apply pK (AKK _ _));simp only[go_sem])|apply Pz<;>intro i<;>simp only[go_sem,i])
 all_goals first
  |rfl
  |(simp only[KP];rfl)
  |grind[KP]
  |(simp only[KP];grind)
  |(simp[KP, *];done)
  |(simp_all[KP];done)
  |skip
 all_goals
  refine F0 x.args (λr=>dH (Iy n) r) (λk=>[(2,.ptr 0 0),(3,.ptr 1 0),(7,.int .i64 k)]) J rfl ?_ ?_
  ·intro k y P R hx O j g p;have hm:=AB hx;simp only[go_sem,j,g,I7 hx];repeat' (first|(apply pK (C _ hm);simp only[go_sem,j,g,p,I7 hx])|apply Pz<;>intro i<;>simp only[go_sem,i,j,g,p,I7 hx])
   all_goals first
    |rfl
    |(simp only[KP,N2];rfl)
    |grind[KP,N2]
    |(simp only[KP,N2];grind)
    |(simp[KP,N2, *];done)
    |(simp_all[KP,N2];done)
    |skip
  ·intro O o;simp only[go_sem,o,dF];all_goals first
    |rfl
    |(simp only[KP,P1];rfl)
    |grind[KP,P1]
    |(simp only[KP,P1];grind)
    |(simp[KP,P1, *];done)
    |(simp_all[KP,P1];done)
    |skip
def AaH(s:E3)(t:Ez)(hb:Fo t.c<=1073741824):Fm AA 250 [.agg s.c,.agg t.c] (.int .i64 (JQ s t)) := by
  have hbp := PG hb;have hn := jt hbp;have hn2 := Mr (IK hb);refine pC AQM rfl ?_;simp only[f250,go_sem,Fk];repeat' (first|(apply pK (WW _ (Ya hb));simp only[go_sem,Fk])|apply Pz<;>intro R<;>simp only[go_sem,R,Fk])
  all_goals first
    |rfl
    |(simp only[JQ];rfl)
    |grind[JQ]
    |(simp only[JQ];grind)
    |(simp[JQ, *];done)
    |(simp_all[JQ];done)
    |skip
  refine F0 t.ports (λr=>JE T7 Tp t.ports (t.ports.length - r.length) r) (λk=>[(2,.ptr 0 0),(3,.ptr 1 0),(6,.int .i64 k)]) Fj rfl ?_ ?_
  · intro k y ys hd hx g J O hw
    have hk2 := GI hd;have hmy := AB hx;have e1:t.ports.length - (ys.length+1)=k := by omega
    have e2:t.ports.length - ys.length=k+1 := by omega
    have T:(t.ports.take k).length=k := Ki Fj;have hby:Fo y.c<=1073741824 := by have := AD3 hbp hmy;simpa only[AV.bulk]using this
    simp only[AC,e1,AP]at g;simp only[go_sem,J,O,G6 hx,Fk];repeat' (first|(apply pK (WW _ (fg hby));simp only[go_sem,J,O,hw,G6 hx,Fk])|apply Pz<;>intro R<;>simp only[go_sem,R,J,O,hw,G6 hx,Fk])
    all_goals first
      | (have U : T7 y = false := by grind [JQ, T7, Tp, Q9, RQ, Sl, Sk]
         have h5:JE T7 Tp t.ports 0 t.ports=false := by rw[g,JE,U];rfl
         have h6:I4 T7 Tp t.ports=false := h5;grind[JQ,T7,Tp,Q9,RQ,Sl,Sk])
      |skip
    have U:T7 y=true := by grind[JQ,T7,Tp,Q9,RQ,Sl,Sk]
    refine F0 (t.ports.take k) (λr=>r.any (λz=>Tp z y)) (λi=>[(2,.ptr 0 0),(3,.ptr 1 0),(6,.int .i64 k),(8,.int .i64 i)]) Fj rfl ?_ ?_
    · intro i z zs hd3 V o C MR hw3
      rw[T]at MR;have p := J2 V;have PD:(i:Int)<(t.ports.length:Int) := by omega
      have hmz := AB p;simp only[go_sem,C,MR,PD,J,O,G6 p,G6 hx,Fk];repeat' (first|apply Pz<;>intro R<;>simp only[go_sem,R,C,MR,PD,hw3,J,O,G6 p,G6 hx,Fk])
      all_goals first
        | (have P : Tp z y = true := by grind [JQ, T7, Tp, Q9, RQ, Sl, Sk]
           have h5:JE T7 Tp t.ports 0 t.ports=false := by rw[g,JE,o,Av,P];simp
           have h6:I4 T7 Tp t.ports=false := h5;grind[JQ,T7,Tp,Q9,RQ,Sl,Sk])
        | (have P : Tp z y = false := by grind [JQ, T7, Tp, Q9, RQ, Sl, Sk]
           first|(rw[Av,P];rfl)|(rw[P];rfl))
        |skip
    · intro o j
      rw[T]at j;simp only[go_sem,T,j,dF,hw];rw[e1,e2,JE,o,U];rfl
  · intro g I
    have hok:I4 T7 Tp t.ports=true := by simp only[AP]at g;exact g
    simp only[go_sem,I,dF];refine F0 t.ports (λr=>JE (Q9 s.network.edges.length) RQ t.ports (t.ports.length - r.length) r) (λk=>[(2,.ptr 0 0),(3,.ptr 1 0),(9,.int .i64 k)]) Fj rfl ?_ ?_
    · intro k y ys hd hx g J O hw
      have hk2 := GI hd;have hmy := AB hx;have e1:t.ports.length - (ys.length+1)=k := by omega
      have e2:t.ports.length - ys.length=k+1 := by omega
      have T:(t.ports.take k).length=k := Ki Fj;simp only[AC,e1,AP]at g;simp only[go_sem,J,O,G6 hx,Fk];repeat' (first|apply Pz<;>intro R<;>simp only[go_sem,R,J,O,hw,G6 hx,Fk])
      all_goals first
        | (have U : (Q9 s.network.edges.length) y = false := by grind [JQ, T7, Tp, Q9, RQ, Sl, Sk]
           have h5:JE (Q9 s.network.edges.length) RQ t.ports 0 t.ports=false := by rw[g,JE,U];rfl
           have h6:I4 (Q9 s.network.edges.length) RQ t.ports=false := h5;grind[JQ,T7,Tp,Q9,RQ,Sl,Sk])
        |skip
      have U:(Q9 s.network.edges.length) y=true := by grind[JQ,T7,Tp,Q9,RQ,Sl,Sk]
      refine F0 (t.ports.take k) (λr=>r.any (λz=>RQ z y)) (λi=>[(2,.ptr 0 0),(3,.ptr 1 0),(9,.int .i64 k),(10,.int .i64 y.edge),(11,.int .i64 i)]) Fj rfl ?_ ?_
      · intro i z zs hd3 V o C MR hw3
        rw[T]at MR;have p := J2 V;have PD:(i:Int)<(t.ports.length:Int) := by omega
        have hmz := AB p;simp only[go_sem,C,MR,PD,J,O,G6 p,G6 hx,Fk];repeat' (first|apply Pz<;>intro R<;>simp only[go_sem,R,C,MR,PD,hw3,J,O,G6 p,G6 hx,Fk])
        all_goals first
          | (have P : RQ z y = true := by grind [JQ, T7, Tp, Q9, RQ, Sl, Sk]
             have h5:JE (Q9 s.network.edges.length) RQ t.ports 0 t.ports=false := by rw[g,JE,o,Av,P];simp
             have h6:I4 (Q9 s.network.edges.length) RQ t.ports=false := h5;grind[JQ,T7,Tp,Q9,RQ,Sl,Sk])
          | (have P : RQ z y = false := by grind [JQ, T7, Tp, Q9, RQ, Sl, Sk]
             first|(rw[Av,P];rfl)|(rw[P];rfl))
          |skip
      · intro o j
        rw[T]at j;simp only[go_sem,T,j,dF,hw];rw[e1,e2,JE,o,U];rfl
    · intro hF2b I
      have hokb:I4 (Q9 s.network.edges.length) RQ t.ports=true := by simp only[AP]at hF2b;exact hF2b
      simp only[go_sem,I,dF];refine F0 t.wires (λr=>JE (Sl t) Sk t.wires (t.wires.length - r.length) r) (λk=>[(3,.ptr 1 0),(12,.int .i64 k)]) Fj rfl ?_ ?_
      · intro k y ys hd hx g J O hw
        have hk2 := GI hd;have hmy := AB hx;have e1:t.wires.length - (ys.length+1)=k := by omega
        have e2:t.wires.length - ys.length=k+1 := by omega
        have T:(t.wires.take k).length=k := Ki Fj;simp only[AC,e1,AP]at g;simp only[go_sem,J,O,HX hx,Fk];repeat' (first|(apply pK (AIp _ _);simp only[go_sem,J,O,hw,HX hx,Fk])|apply Pz<;>intro R<;>simp only[go_sem,R,J,O,hw,HX hx,Fk])
        all_goals first
          | (have U : (Sl t) y = false := by grind [JQ, T7, Tp, Q9, RQ, Sl, Sk]
             have h5:JE (Sl t) Sk t.wires 0 t.wires=false := by rw[g,JE,U];rfl
             have h6:I4 (Sl t) Sk t.wires=false := h5;grind[JQ,T7,Tp,Q9,RQ,Sl,Sk])
          |skip
        have U:(Sl t) y=true := by grind[JQ,T7,Tp,Q9,RQ,Sl,Sk]
        refine F0 (t.wires.take k) (λr=>r.any (λz=>Sk z y)) (λi=>[(3,.ptr 1 0),(12,.int .i64 k),(13,.int .i64 i)]) Fj rfl ?_ ?_
        · intro i z zs hd3 V o C MR hw3
          rw[T]at MR;have p := J2 V;have PD:(i:Int)<(t.wires.length:Int) := by omega
          have hmz := AB p;simp only[go_sem,C,MR,PD,J,O,HX p,HX hx,Fk];repeat' (first|apply Pz<;>intro R<;>simp only[go_sem,R,C,MR,PD,hw3,J,O,HX p,HX hx,Fk])
          all_goals first
            | (have P : Sk z y = true := by grind [JQ, T7, Tp, Q9, RQ, Sl, Sk]
               have h5:JE (Sl t) Sk t.wires 0 t.wires=false := by rw[g,JE,o,Av,P];simp
               have h6:I4 (Sl t) Sk t.wires=false := h5;grind[JQ,T7,Tp,Q9,RQ,Sl,Sk])
            | (have P : Sk z y = false := by grind [JQ, T7, Tp, Q9, RQ, Sl, Sk]
               first|(rw[Av,P];rfl)|(rw[P];rfl))
            |skip
        · intro o j
          rw[T]at j;simp only[go_sem,T,j,dF,hw];rw[e1,e2,JE,o,U];rfl
      · intro hF2c I
        have hokc:I4 (Sl t) Sk t.wires=true := by simp only[AP]at hF2c;exact hF2c
        simp only[go_sem,I,dF];all_goals first
          |rfl
          |(simp only[JQ];rfl)
          |grind[JQ]
          |(simp only[JQ];grind)
          |(simp[JQ, *];done)
          |(simp_all[JQ];done)
          |skip
def AaJ(s:E3)(t:Ez)(hl:okF s.fields)(hs:Fo s.c<=1073741824)(hb:Fo t.c<=1073741824):Fm AA 179 [.agg s.c,.agg t.c] (.int .i64 (Jz s t)) := by
  have R := OK hs;have g1 := jx (OM R);have g2 := kB (ON R);have T := Ur hb;have hn := wH T;have hn2 := pu (TU hb);refine pC AT9 rfl ?_;simp only[f179,go_sem];repeat' (first|((first|apply pK (AaH _ _ hb)|apply pK (AaG _ _ hl hb));simp only[go_sem])|apply Pz<;>intro C<;>simp only[go_sem,C])
  all_goals first
    |rfl
    |(simp only[Jz];rfl)
    |grind[Jz]
    |(simp only[Jz];grind)
    |(simp[Jz, *];done)
    |(simp_all[Jz];done)
    |skip
  refine F0 t.routes (λr=>KW s r) (λk=>[(2,.ptr 0 0),(3,.ptr 1 0),(6,.int .i64 k)]) Fj rfl ?_ ?_
  · intro k y ys hd hx hF g j P
    have U:Fo y.c<=1073741824 := by have := wI T (AB hx);simpa only[AV.bulk]using this
    simp only[go_sem,g,j,LJ hx];repeat' (first|((first|apply pK (AFT _ _ hl (Zr U))|apply pK (Ajz _ (Zs U))|apply pK (Ajs _ g1 g2 _));simp only[go_sem,g,j,P,LJ hx])|apply Pz<;>intro C<;>simp only[go_sem,C,g,j,P,LJ hx])
    all_goals first
      |rfl
      |(simp only[Jz,KW,oJ];rfl)
      |grind[Jz,KW,oJ]
      |(simp only[Jz,KW,oJ];grind)
      |(simp[Jz,KW,oJ, *];done)
      |(simp_all[Jz,KW,oJ];done)
      |skip
  · intro hF hlt
    simp only[go_sem,hlt,dF];refine F0 t.demands (λr=>JE (oS t) na t.demands (t.demands.length - r.length) r) (λk=>[(3,.ptr 1 0),(7,.int .i64 k)]) Fj rfl ?_ ?_
    · intro k y ys hd hx I g j P
      have hk2 := GI hd;have hmy := AB hx;have e1:t.demands.length - (ys.length+1)=k := by omega
      have e2:t.demands.length - ys.length=k+1 := by omega
      have ht:(t.demands.take k).length=k := Ki Fj;simp only[AC,e1,AP]at I;simp only[go_sem,g,j,Jb hx,Fk];repeat' (first|(apply pK (AIm _ _);simp only[go_sem,g,j,P,Jb hx,Fk])|apply Pz<;>intro C<;>simp only[go_sem,C,g,j,P,Jb hx,Fk])
      all_goals first
        | (have hp : (oS t) y = false := by grind [Jz, oS, na, KW]
           have h5:JE (oS t) na t.demands 0 t.demands=false := by rw[I,JE,hp];rfl
           have h6:I4 (oS t) na t.demands=false := h5;grind[Jz,oS,na,KW])
        |skip
      have hp:(oS t) y=true := by grind[Jz,oS,na,KW]
      refine F0 (t.demands.take k) (λr=>r.any (λz=>na z y)) (λi=>[(3,.ptr 1 0),(7,.int .i64 k),(8,.ptr 2 0),(9,.int .i64 i)]) Fj rfl ?_ ?_
      · intro i z zs hd3 hx3 J V MR hw3
        rw[ht]at MR;have O := J2 hx3;have PD:(i:Int)<(t.demands.length:Int) := by omega
        have hmz := AB O;simp only[go_sem,V,MR,PD,g,j,Jb O,Jb hx,Fk];repeat' (first|apply Pz<;>intro C<;>simp only[go_sem,C,V,MR,PD,hw3,g,j,Jb O,Jb hx,Fk])
        all_goals first
          | (have hq : na z y = true := by grind [Jz, oS, na, KW]
             have h5:JE (oS t) na t.demands 0 t.demands=false := by rw[I,JE,J,Av,hq];simp
             have h6:I4 (oS t) na t.demands=false := h5;grind[Jz,oS,na,KW])
          | (have hq : na z y = false := by grind [Jz, oS, na, KW]
             first|(rw[Av,hq];rfl)|(rw[hq];rfl))
          |skip
      · intro J o
        rw[ht]at o;simp only[go_sem,ht,o,dF,P];rw[e1,e2,JE,J,hp];rfl
    · intro p hlt2
      have hokc:I4 (oS t) na t.demands=true := by simp only[AP]at p;exact p
      simp only[go_sem,hlt2,dF];all_goals first
        |rfl
        |(simp only[Jz,KW];rfl)
        |grind[Jz,KW]
        |(simp only[Jz,KW];grind)
        |(simp[Jz,KW, *];done)
        |(simp_all[Jz,KW];done)
        |skip
def uE(l:List ByteArray)(hn:l.length<=1073741824)(hl : ∀ y∈l,y.size<=1073741824):Fm AA 174 [.sl none (Ha l)] (.bool (I4 ij gR l)) := by
  refine pC AUS rfl ?_;simp only[f174,go_sem];refine F0 l (λr=>JE ij gR l (l.length - r.length) r) (λk=>[(0,.sl none (Ha l)),(3,.int .i64 k)]) Fj rfl ?_ ?_
  · intro k y ys hd hx p I J T
    have hk2 := GI hd;have U := AB hx;have e1:l.length - (ys.length+1)=k := by omega
    have e2:l.length - ys.length=k+1 := by omega
    have V:(l.take k).length=k := Ki Fj;simp only[AC,e1,AP]at p;simp only[go_sem,I,J,GN hx,Fk];repeat' (first|(apply pK (WW _ (hl y U));simp only[go_sem,I,J,T,GN hx,Fk])|apply Pz<;>intro hc<;>simp only[go_sem,hc,I,J,T,GN hx,Fk])
    all_goals first
      | (have hp : ij y = false := by grind [ij, gR]
         have h5:JE ij gR l 0 l=false := by rw[p,JE,hp];rfl
         have h6:I4 ij gR l=false := h5;grind[ij,gR])
      |skip
    have hp:ij y=true := by grind[ij,gR]
    refine F0 (l.take k) (λr=>r.any (λz=>gR z y)) (λi=>[(0,.sl none (Ha l)),(3,.int .i64 k),(5,.int .i64 i)]) Fj rfl ?_ ?_
    · intro i z zs hd3 hx3 t O MR hw3
      rw[V]at MR;have C := J2 hx3;have PD:(i:Int)<(l.length:Int) := by omega
      have hmz := AB C;simp only[go_sem,O,MR,PD,I,J,GN C,GN hx,Fk];repeat' (first|apply Pz<;>intro hc<;>simp only[go_sem,hc,O,MR,PD,hw3,I,J,GN C,GN hx,Fk])
      all_goals first
        | (have R : gR z y = true := by grind [ij, gR]
           have h5:JE ij gR l 0 l=false := by rw[p,JE,t,Av,R];simp
           have h6:I4 ij gR l=false := h5;grind[ij,gR])
        | (have R : gR z y = false := by grind [ij, gR]
           first|(rw[Av,R];rfl)|(rw[R];rfl))
        |skip
    · intro t j
      rw[V]at j;simp only[go_sem,V,j,dF,T];rw[e1,e2,JE,t,hp];rfl
  · intro o P
    have g:I4 ij gR l=true := by simp only[AP]at o;exact o
    simp only[go_sem,P,dF];all_goals first
      |rfl
      |(simp only[g];rfl)
      |grind[]
      |(simp only[g];grind)
      |(simp[g, *];done)
      |(simp_all[g];done)
      |skip
def lh(n:Ey)(k:Int):Fm AA 175 [.agg n.c,.int .i64 k] (.bool (JU n k)):=by
 refine pC AUO rfl ?_;simp only[f175,go_sem];repeat' (first|apply Pz<;>intro g<;>simp only[go_sem,g])
 all_goals first
  |rfl
  |(simp only[JU];rfl)
  |grind[JU]
  |(simp only[JU];grind)
  |(simp[JU, *];done)
  |(simp_all[JU];done)
  |skip
def AIs(n:Ey)(hb:Fo n.c<=1073741824):Fm AA 83 [.agg n.c] (.int .i64 (Jv n)) := by
  have b1 := OM hb;have b2 := ON hb;have g1 := jx b1;have g2 := kB b2;have g3 := AD8 (Uv hb);have n1:(Iy n).length<=1073741824 := by simpa [Iy]using g1
  have n2:(LT n).length<=1073741824 := by simpa [LT]using g2
  have n3:∀y∈Iy n,y.size<=1073741824 := by
    intro y hy;obtain⟨x,hx,rfl⟩ := AN.1 hy;have := AD6 b1 hx;exact fk (by simpa only[AV.bulk]using this)
  have n4:∀y∈LT n,y.size<=1073741824 := by
    intro y hy;obtain⟨x,hx,rfl⟩ := AN.1 hy;have := AEA b2 hx;exact gE (by simpa only[AV.bulk]using this)
  refine pC Adz rfl ?_;simp only[f83,go_sem];repeat' (first|((first|apply pK (uH n g1 g2)|apply pK (uE _ n1 n3)|apply pK (uE _ n2 n4));simp only[go_sem])|apply Pz<;>intro hc<;>simp only[go_sem,hc])
  all_goals first
    |rfl
    |(simp only[Jv];rfl)
    |grind[Jv]
    |(simp only[Jv];grind)
    |(simp[Jv, *];done)
    |(simp_all[Jv];done)
    |skip
  refine F0 n.nodes (λr=>r.all (VA n)) (λk=>[(1,.ptr 0 0),(7,.int .i64 k)]) Fj rfl ?_ ?_
  · intro k y ys hd hx hF h0 h1 hw
    simp only[go_sem,h0,h1,Nw hx];repeat' (first|apply Pz<;>intro hc<;>simp only[go_sem,hc,h0,h1,hw,Nw hx])
    all_goals first
      | (have hp : VA n y = false := by grind [VA]
         have h5:n.nodes.all (VA n)=false := by rw[hF,Am,hp];rfl
         grind[Jv])
      | (have hp : VA n y = true := by grind [VA]
         first|(rw[Am,hp];rfl)|(rw[hp];rfl))
      |skip
  · intro hF hlt
    have k1:n.nodes.all (VA n)=true := by rw[hF];rfl
    simp only[go_sem,hlt,dF];refine F0 n.links (λr=>r.all (VB n)) (λk=>[(1,.ptr 0 0),(9,.int .i64 k)]) Fj rfl ?_ ?_
    · intro k y ys hd hx hF h0 h1 hw
      simp only[go_sem,h0,h1,UM hx];repeat' (first|(apply pK (lh _ _);simp only[go_sem,h0,h1,hw,UM hx])|apply Pz<;>intro hc<;>simp only[go_sem,hc,h0,h1,hw,UM hx])
      all_goals first
        | (have hp : VB n y = false := by grind [VB]
           have h5:n.links.all (VB n)=false := by rw[hF,Am,hp];rfl
           grind[Jv])
        | (have hp : VB n y = true := by grind [VB]
           first|(rw[Am,hp];rfl)|(rw[hp];rfl))
        |skip
    · intro hF2 hlt2
      have k2:n.links.all (VB n)=true := by rw[hF2];rfl
      simp only[go_sem,hlt2,dF];refine F0 n.edges (λr=>r.all (λx=>JU n x.node)) (λk=>[(1,.ptr 0 0),(11,.int .i64 k)]) Fj rfl ?_ ?_
      · intro k y ys hd hx hF h0 h1 hw
        simp only[go_sem,h0,h1,N0 hx];repeat' (first|(apply pK (lh _ _);simp only[go_sem,h0,h1,hw,N0 hx])|apply Pz<;>intro hc<;>simp only[go_sem,hc,h0,h1,hw,N0 hx])
        all_goals first
          | (have hp : JU n y.node = false := by grind
             have h5:n.edges.all (λx=>JU n x.node)=false := by rw[hF,Am,hp];rfl
             grind[Jv])
          | (have hp : JU n y.node = true := by grind
             first|(rw[Am,hp];rfl)|(rw[hp];rfl))
          |skip
      · intro hF3 hlt3
        have k3:n.edges.all (λx=>JU n x.node)=true := by rw[hF3];rfl
        simp only[go_sem,hlt3,dF];all_goals first
          |rfl
          |(simp only[Jv];rfl)
          |grind[Jv]
          |(simp only[Jv];grind)
          |(simp[Jv, *];done)
          |(simp_all[Jv];done)
          |skip
def AaB(n:Ey)(a b c:Int):Fm AA 80 [.agg n.c,.int .i64 a,.int .i64 b,.int .i64 c] (.bool (qa n a b c)):=by
 refine pC Ad' rfl ?_;simp only[f80,go_sem];repeat' (first|apply Pz<;>intro g<;>simp only[go_sem,g])
 all_goals first
  |rfl
  |(simp only[qa];rfl)
  |grind[qa]
  |(simp only[qa];grind)
  |(simp[qa, *];done)
  |(simp_all[qa];done)
  |skip
def AIl(f:Fld):Fm AA 177 [.agg f.c] (.bool (T9 f)) := by
  refine pC AUG rfl ?_;simp only[f177,go_sem];repeat' (first|apply Pz<;>intro g<;>simp only[go_sem,g])
  all_goals first
    |grind[T9]
    | (simp only [decide_eq_true_eq] at *
       refine⟨dc, ?_⟩;rw[Int.tmod_eq_emod_of_nonneg Fj,Mg Fj Fj];grind[T9])
def AFS(a b:Fld):Fm AA 178 [.agg a.c,.agg b.c] (.bool (Lh a b)):=by
 refine pC AUC rfl ?_;simp only[f178,go_sem];repeat' (first|apply Pz<;>intro g<;>simp only[go_sem,g])
 all_goals first
  |rfl
  |(simp only[Lh,i64];rfl)
  |grind[Lh,i64]
  |(simp only[Lh,i64];grind)
  |(simp[Lh,i64, *];done)
  |(simp_all[Lh,i64];done)
  |skip
def Aj2(l:List Fld)(hb:Fo (Gf l)<=1073741824):Fm AA 84 [.sl none (Gf l)] (.int .i64 (PU l)) := by
  have hn := S0 hb;refine pC Adu rfl ?_;simp only[f84,go_sem];repeat' (first|apply Pz<;>intro g<;>simp only[go_sem,g])
  all_goals first
    |rfl
    |(simp only[PU];rfl)
    |grind[PU]
    |(simp only[PU];grind)
    |(simp[PU, *];done)
    |(simp_all[PU];done)
    |skip
  refine F0 l (λr=>I1 l (l.length - r.length) r) (λk=>[(0,.sl none (Gf l)),(3,.int .i64 k)]) Fj rfl ?_ ?_
  · intro k y ys hd hx R j o T
    have hk2 := GI hd;have e1:l.length - (ys.length+1)=k := by omega
    have e2:l.length - ys.length=k+1 := by omega
    have P:(l.take k).length=k := Ki Fj;have hby:Fo y.c<=1073741824 := by have := AH9 hb (AB hx);simpa only[AV.bulk]using this
    simp only[AC,e1,AP]at R;simp only[go_sem,j,o,HJ hx,Fk];repeat' (first|(apply pK (WW _ (nR hby));simp only[go_sem,j,o,T,HJ hx,Fk])|apply Pz<;>intro g<;>simp only[go_sem,g,j,o,T,HJ hx,Fk])
    all_goals first
      |rfl
      |(simp only[PU,I1,Gd];rfl)
      |grind[PU,I1,Gd]
      |(simp only[PU,I1,Gd];grind)
      |(simp[PU,I1,Gd, *];done)
      |(simp_all[PU,I1,Gd];done)
      |skip
    refine F0 (l.take k) (λr=>r.any (λz=>decide (z.name=y.name))) (λi=>[(0,.sl none (Gf l)),(3,.int .i64 k),(5,.int .i64 i)]) Fj rfl ?_ ?_
    · intro i z zs hd3 hx3 C U MR hw3
      rw[P]at MR;have V := J2 hx3;have PD:(i:Int)<(l.length:Int) := by omega
      simp only[go_sem,U,MR,PD,j,o,HJ V,HJ hx,Fk];repeat' (first|apply Pz<;>intro g<;>simp only[go_sem,g,U,MR,PD,hw3,j,o,HJ V,HJ hx,Fk])
      all_goals first
        | (have h5 : (l.take k).any (fun z => decide (z.name = y.name)) = true := by rw [C, Av, g]; rfl
           grind[PU,I1,Gd])
        |(first|(rw[Av,g];rfl)|(rw[g];rfl))
        |skip
    · intro C p
      rw[P]at p;have k1:(l.take k).any (λz=>decide (z.name=y.name))=false := by rw[C];rfl
      simp only[go_sem,P,p,dF,j,o,HJ hx];repeat' (first|(apply pK (AIl _);simp only[go_sem,j,o,T,HJ hx])|apply Pz<;>intro g<;>simp only[go_sem,g,j,o,T,HJ hx])
      all_goals first
        |rfl
        |(simp only[PU,I1,Gd];rfl)
        |grind[PU,I1,Gd]
        |(simp only[PU,I1,Gd];grind)
        |(simp[PU,I1,Gd, *];done)
        |(simp_all[PU,I1,Gd];done)
        |skip
      refine F0 (l.take k) (λr=>r.any (λz=>Lh z y)) (λi=>[(0,.sl none (Gf l)),(3,.int .i64 k),(7,.int .i64 i)]) Fj rfl ?_ ?_
      · intro i z zs hd4 hx5 I J h15 hw4
        rw[P]at h15;have O := J2 hx5;have PD:(i:Int)<(l.length:Int) := by omega
        simp only[go_sem,J,h15,PD,j,o,HJ O,HJ hx];repeat' (first|(apply pK (AFS _ _);simp only[go_sem,J,h15,PD,hw4,j,o,HJ O,HJ hx])|apply Pz<;>intro g<;>simp only[go_sem,g,J,h15,PD,hw4,j,o,HJ O,HJ hx])
        all_goals first
          | (have h5 : (l.take k).any (fun z => Lh z y) = true := by rw [I, Av, g]; rfl
             grind[PU,I1,Gd])
          |(first|(rw[Av,g];rfl)|(rw[g];rfl))
          |skip
      · intro I t
        rw[P]at t;have k2:(l.take k).any (λz=>Lh z y)=false := by rw[I];rfl
        simp only[go_sem,P,t,dF,T];rw[e1,e2];grind[I1,Gd]
  · intro R hlt2
    simp only[go_sem,hlt2,dF];all_goals first
      |rfl
      |(simp only[PU,I1];rfl)
      |grind[PU,I1]
      |(simp only[PU,I1];grind)
      |(simp[PU,I1, *];done)
      |(simp_all[PU,I1];done)
      |skip
def Head.l(h:E4):List Int:=[h.h0,h.h1,h.h2,h.h3,h.h4,h.h5,h.h6,h.h7,h.h8,h.h9]
def AGd(h:E4):h.c=h.l.map (.int .i64):=rfl
def Fr(h:E4):Bool:=h.l.all MK
def AAn(h:E4):Fm AA 51 [.agg h.c] (.bool (Fr h)):=by
 refine pC AfO rfl ?_;simp only[f51,go_sem];refine F0 h.l (λr=>r.all MK) (λk=>[(1,.ptr 0 0),(3,.int .i64 k)]) (by simp[Head.l]) rfl ?_ ?_
 ·intro k y J O hx i j o t;have g:(k:Int)<10:=o;have h3:(k:Int)<((10:Nat):Int):=o;have p:h.c[k]? =some (.int .i64 y):=by rw[AGd,List.getElem?_map,hx];rfl
  simp only[go_sem,j,g,h3,p];repeat' (first|apply Pz<;>intro C<;>simp only[go_sem,C,j,g,h3,p,t])
  all_goals first
   |rfl
   |(simp only[Fr,MK];rfl)
   |grind[Fr,MK]
   |(simp only[Fr,MK];grind)
   |(simp[Fr,MK, *];done)
   |(simp_all[Fr,MK];done)
   |skip
 ·intro i I;have g:¬((h.l.length:Nat):Int)<10:=by simp[Head.l]
  simp only[go_sem,g,dF];rw[Fr,i];rfl
@[go_sem] def Al4:((0:Int)<((10:Nat):Int))=True:=dc
@[go_sem] def Al3:((9:Int)<((10:Nat):Int))=True:=dc
def WD(H:Fl)(x y:Option (List AV)):(H++[x]).set H.length y=H++[y]:=F3
attribute [go_sem] WD List.getElem?_concat_length
def ACi(n:Nat)(Q:Exit->Kt)(e:GO)(g:Fl):Prop :=
 ∃st i,g[n]? =some (some (Hl st i))/\((st=0/\Q .normal e (g.set n none))\/(st = -2/\Q .ret e (g.set n none)) \/ ∃k:Nat,st=(k:Int)+1/\Q (.exit k) e (g.set n none))
def aT{P:Program}{n tag:Nat}{h:Hint}{g:Operand}{p:Array Tmp}{j o:Code}{Q:Exit->Kt}{e:GO}{H:Fl}{f:FuncId}{first i:List AV}
  (r:Hh P none e g = .fn (.func f) first i)
  (t:Fw P f (first.map AV.borrow++[.yld H.length ⟨tag,p,j,o⟩]++i.map AV.borrow) (H++[some (Hl 0 (IY n e))]) (λ_ C=>ACi H.length Q e C)):rfK P n h none g p j o Q e H :=
 ⟨trivial,tag,f,first,i,r,t⟩
def Hp(t:Ez)(n:Int):Int:=if H7 t n=true then QB t n else -1
def IE(e:Int):Nat->List E1->Int
 |_,[] => -1
 |i,x::r=>if 0<=e/\x.edge=e then(i:Int)else IE e (i+1) r
def IH(t:Ez)(e:Int):Int:=IE e 0 t.ports
def JD(e:Int):Nat->List E1->Int
 |_,[] => -1
 |i,x::r=>if x.edge ≠ -1/\x.edge=e then(i:Int)else JD e (i+1) r
def Hn(t:Ez)(e:Int):Int:=JD e 0 t.ports
def I'(p:Int)(h:E4):E4×Bool:=if p<0 then(Head.z,false)else({ { h with h0:=p }with h9:=0 },true)
def Lw(e:Int)(h:E4):E4×Bool:=if e<0 then(Head.z,false)else({ h with h0:=i64 (10000+e) },true)
def lc(n g i:Int):Fm AA 129 [.int .i64 n,.int .i64 g,.int .i64 i] (.bool (decide (g<=n)&&decide (n<=i))):=by
 refine pC AXB rfl ?_;simp only[f129,go_sem];repeat' (first|apply Pz<;>intro j<;>simp only[go_sem,j])
 all_goals grind
def AaP(t:Ez)(n:Int):Fm AA 66 [.agg t.c,.int .i64 n] (.int .i64 (Hp t n)):=by
 refine Fm.fit AJ9.c λI=>?_;have J:=OJ (TB I);have j:IntKind.i64.wrap ((t.ports.length:Int) - 1)=(t.ports.length:Int) - 1:=Mg Fj Fj;refine pC AJ9 rfl ?_;cases g:H7 t n with
 | false =>
  have i:(decide (0<=n)&&decide (n<=(t.ports.length:Int) - 1))=false:=by unfold H7 at g;grind
  simp only[f66,go_sem];repeat' (first|(apply pK (lc _ _ _);simp only[go_sem,j,i])|apply Pz<;>intro o<;>simp only[go_sem,o,j,i])
  all_goals first
   |rfl
   |(simp only[Hp,g];rfl)
   |grind[Hp]
   |(simp only[Hp,g];grind)
   |(simp[Hp,g, *];done)
   |(simp_all[Hp,g];done)
   |skip
 | true =>
  obtain⟨r,C,p,h3,h4,h5⟩:=Sn g;have i:(decide (0<=n)&&decide (n<=(t.ports.length:Int) - 1))=true:=by grind
  simp only[f66,go_sem];repeat' (first|(apply pK (lc _ _ _);simp only[go_sem,j,i,r,C,h5])|apply Pz<;>intro o<;>simp only[go_sem,o,j,i,r,C,h5])
  all_goals first
   |rfl
   |(simp only[Hp,g];rfl)
   |grind[Hp]
   |(simp only[Hp,g];grind)
   |(simp[Hp,g, *];done)
   |(simp_all[Hp,g];done)
   |skip
def AFc(t:Ez)(n:Int):Fm AA 74 [.agg t.c,.int .i64 n] (.int .i64 (Hp t n)):=by
 refine pC AeW rfl ?_;cases g:H7 t n with
 | false =>
  simp only[f74,go_sem];repeat' (first|(apply pK (M3 _ _);simp only[go_sem,g])|apply Pz<;>intro i<;>simp only[go_sem,i,g])
  all_goals first
   |rfl
   |(simp only[Hp,g];rfl)
   |grind[Hp]
   |(simp only[Hp,g];grind)
   |(simp[Hp,g, *];done)
   |(simp_all[Hp,g];done)
   |skip
 | true =>
  obtain⟨j,o,p,h3,h4,h5⟩:=Sn g;simp only[f74,go_sem];repeat' (first|(apply pK (M3 _ _);simp only[go_sem,g,j,o,h5])|apply Pz<;>intro i<;>simp only[go_sem,i,g,j,o,h5])
  all_goals first
   |rfl
   |(simp only[Hp,g];rfl)
   |grind[Hp]
   |(simp only[Hp,g];grind)
   |(simp[Hp,g, *];done)
   |(simp_all[Hp,g];done)
   |skip
def TL(t:Ez)(e:Int):Fm AA 69 [.agg t.c,.int .i64 e] (.int .i64 (IH t e)):=by
 refine Fm.fit AJ8.c λJ=>?_;have O:=OJ (TB J);refine pC AJ8 rfl ?_;simp only[f69,go_sem];refine F0 t.ports (λr=>IE e (t.ports.length - r.length) r) (λk=>[(1,.int .i64 e),(2,.ptr 0 0),(5,.int .i64 k)]) O rfl ?_ ?_
 ·intro k y j P hx o p C R;have T:=GI P;have g:t.ports.length - (j.length+1)=k:=Fj;have I:t.ports.length - j.length=k+1:=Fj;simp only[AC,g,AP]at o;simp only[go_sem,p,C,G6 hx,g,I];repeat' (first|apply Pz<;>intro U<;>simp only[go_sem,U,p,C,R,G6 hx,g,I])
  all_goals first
   |rfl
   |(simp only[IH,IE];rfl)
   |grind[IH,IE]
   |(simp only[IH,IE];grind)
   |(simp[IH,IE, *];done)
   |(simp_all[IH,IE];done)
   |skip
 ·intro o i;simp only[go_sem,i,dF];all_goals first
   |rfl
   |(simp only[IH,IE];rfl)
   |grind[IH,IE]
   |(simp only[IH,IE];grind)
   |(simp[IH,IE, *];done)
   |(simp_all[IH,IE];done)
   |skip
def AaO(t:Ez)(h:E4):Fm AA 34 [.agg t.c,.agg h.c] (.tup [.agg (Lw (Hp t h.h0) h).1.c,.bool (Lw (Hp t h.h0) h).2]):=by
 refine pB AgS rfl ?_;simp only[f34,go_sem];repeat' (first|(apply pK (AaP _ _);simp only[go_sem])|apply Pz<;>intro g<;>simp only[go_sem,g])
 all_goals first
  |rfl
  |(simp only[Lw,i64];rfl)
  |grind[Lw,i64]
  |(simp only[Lw,i64];grind)
  |(simp[Lw,i64, *];done)
  |(simp_all[Lw,i64];done)
  |skip
def AFb(t:Ez)(h:E4):Fm AA 41 [.agg t.c,.agg h.c] (.tup [.agg (Lw (Hp t h.h0) h).1.c,.bool (Lw (Hp t h.h0) h).2]):=by
 refine pB Af0 rfl ?_;simp only[f41,go_sem];repeat' (first|(apply pK (AFc _ _);simp only[go_sem])|apply Pz<;>intro g<;>simp only[go_sem,g])
 all_goals first
  |rfl
  |(simp only[Lw,i64];rfl)
  |grind[Lw,i64]
  |(simp only[Lw,i64];grind)
  |(simp[Lw,i64, *];done)
  |(simp_all[Lw,i64];done)
  |skip
def AAv(t:Ez)(h:E4):Fm AA 38 [.agg t.c,.agg h.c] (.tup [.agg (I' (IH t (i64 (h.h0 - 10000))) h).1.c,.bool (I' (IH t (i64 (h.h0 - 10000))) h).2]):=by
 refine pB AgC rfl ?_;simp only[f38,go_sem];repeat' (first|(apply pK (TL _ _);simp only[go_sem])|apply Pz<;>intro g<;>simp only[go_sem,g])
 all_goals first
  |rfl
  |(simp only[I',i64];rfl)
  |grind[I',i64]
  |(simp only[I',i64];grind)
  |(simp[I',i64, *];done)
  |(simp_all[I',i64];done)
  |skip
def AFJ(t:Ez)(H:Fl):Fw AA 109 [.agg t.c] H (λv g=>v = .fn (.func 205) [] [.ptr H.length 0]/\g=H++[some t.c]):=by
 refine aC AYC rfl ?_;simp only[f109,go_sem]
def rD (t:Ez) (hl:t.ports.length<=1073741824) (o p:Nat) (L:LoopRec) (r:Fl) (Inv:Nat->Fl->Prop) (Q:Fl->Prop)
  (hp:∀k H,Inv k H->H[p]? =some (some t.c)) (U:∀k H x,Inv k H->Inv k (H++[x]))
  (g:∀k x H,t.ports[k]? =some x->x.edge ≠ -1->Inv k H->OH AA o L [.int .i64 k,.int .i64 x.edge] H (λv i=>(v = .bool true/\Inv (k+1) i)\/(v = .bool false/\Q i)))
  (skip:∀k x H,t.ports[k]? =some x->x.edge = -1->Inv k H->Inv (k+1) H)
  (I:∀H,Inv t.ports.length H->Q H) (j:Inv 0 r):Fw AA 205 [.yld o L,.ptr p 0] r (λ_ i=>Q i):=by
 refine aC AS5 rfl ?_;have J:=hp 0 r j;simp only[f205,go_sem,J];refine JB (σ:=Nat×Fl) (λs=>[(0,.yld o L),(6,.sl none (K7 t.ports)),(7,.int .i64 t.ports.length),(8,.int .i64 s.1)]) (λs=>s.2) (λs=>s.1<=t.ports.length/\Inv s.1 s.2) (λs=>t.ports.length - s.1) (0,r) ⟨BS _,j⟩ rfl rfl ?_;rintro ⟨k,H⟩ ⟨hk,O⟩;by_cases P:k<t.ports.length
 ·obtain⟨x,hx⟩:∃x,t.ports[k]? =some x:=⟨_,AL P⟩;have j:(0:Int)<=(k:Int):=Fj;have C:(k:Int)<(t.ports.length:Int):=Fj;have V:=K_ (k:=k) Fj;simp only[go_sem,j,C,G6 hx,dT];repeat' (first|apply Pz<;>intro R<;>simp only[go_sem,R,j,C,V,G6 hx])
  ·refine O6.intro (g k x _ hx (by simpa using R) (U _ _ _ O)) λv i hr=>?_;rcases hr with⟨rfl,hi⟩|⟨rfl,hq⟩
   ·simp only[go_sem,V,Bool.not_true];exact⟨(k+1,i),⟨Fj,hi⟩,Fj,rfl,rfl⟩
   ·simp only[go_sem,Ay];exact hq
  ·exact⟨(k+1,H++[some x.c]),⟨Fj,U _ _ _ (skip k x H hx (by simpa using R) O)⟩,Fj,rfl,rfl⟩
 ·have C:¬(k:Int)<(t.ports.length:Int):=Fj;have T:k=t.ports.length:=Fj;simp only[go_sem,C,dF];exact I H (T▸O)
def AaL(t:Ez)(p:t.ports.length<=1073741824)(e:Int):Fm AA 59 [.agg t.c,.int .i64 e] (.int .i64 (Hn t e)):=by
 refine pC AfK rfl ?_;simp only[f59,go_sem];refine GQ.intro (AFJ t _) λv J C=>?_;obtain⟨rfl,rfl⟩:=C;simp only[go_sem];have step:∀(k:Nat) (x:E1),t.ports[k]? =some x->JD e k (t.ports.drop k)=if x.edge ≠ -1/\x.edge=e then(k:Int)else JD e (k+1) (t.ports.drop (k+1)):=λk x hx=>by
  obtain⟨o,rfl⟩:=AD.1 hx;rw[BI o,JD]
 refine aT (tag:=59) rfl (Fw.mono (rD t p 4 3 _ _
  (λk H => ∃g,H=some t.c::some [.int .i64 e]::some [.int .i64 0]::some t.c::some (Hl 0 (IY 15 [(3,.ptr 1 0),(4,.ptr 2 0),(8,.fn (.func 205) [] [.ptr 3 0])]))::g/\Hn t e=JD e k (t.ports.drop k))
  (λH=>(∃g,H=some t.c::some [.int .i64 e]::some [.int .i64 0]::some t.c::some (Hl 0 (IY 15 [(3,.ptr 1 0),(4,.ptr 2 0),(8,.fn (.func 205) [] [.ptr 3 0])]))::g/\Hn t e = -1)
   \/ ∃g r,H=some t.c::some [.int .i64 e]::some [.int .i64 r]::some t.c::some (Hl (-2) (IY 15 [(3,.ptr 1 0),(4,.ptr 2 0),(8,.fn (.func 205) [] [.ptr 3 0])]))::g/\Hn t e=r)
  ?_ ?_ ?_ ?_ ?_ ?_) λv O I=>?_)
 ·rintro k H ⟨g,rfl,_⟩;rfl
 ·rintro k H x ⟨g,rfl,h⟩;exact⟨g++[x],rfl,h⟩
 ·rintro k x H hx j ⟨g,rfl,h⟩;refine MJ (h:=h59) (n:=15) mixed rfl ⟨kr,kr⟩ dc _ _ _ _ rfl rfl rfl ?_;show Jw _ _ _ _ _ _ [(10,.int .i64 x.edge),(9,.int .i64 k),(0,.undef),(1,.undef),(2,.undef),(3,.ptr 1 0),(4,.ptr 2 0),(5,.undef),(6,.undef),(7,.undef),(8,.fn (.func 205) [] [.ptr 3 0]),(9,.undef),(10,.undef),(11,.undef),(12,.undef),(13,.undef),(14,.undef)] _;simp only[go_sem];refine⟨_,rfl,VN _ _ _ (λi=>?_) (λi=>?_)⟩
  ·simp only[go_sem,i];exact⟨_,rfl,.inr (.inr ⟨g,(k:Int),rfl,by rw[h,step k x hx,iP ⟨j,by simpa using i⟩]⟩)⟩
  ·simp only[go_sem,i];first
    |exact⟨_,rfl,g,rfl,by rw[h,step k x hx,iN (λc=>by rw[c.2]at i;simp at i)]⟩
    |exact⟨_,rfl,.inl ⟨g,rfl,by rw[h,step k x hx,iN (λc=>by rw[c.2]at i;simp at i)]⟩⟩
 ·rintro k x H hx j ⟨g,rfl,h⟩;exact⟨g,rfl,by rw[h,step k x hx,iN (λc=>c.1 j)]⟩
 ·rintro H ⟨g,rfl,h⟩;exact .inl ⟨g,rfl,by rw[h,List.drop_length];rfl⟩
 ·exact⟨[],rfl,rfl⟩
 ·rcases I with⟨g,rfl,h⟩|⟨g,r,rfl,h⟩
  ·refine⟨0,_,rfl,.inl ⟨rfl, ?_⟩⟩;show dt 0 _ .normal _ (some t.c::some [.int .i64 e]::some [.int .i64 0]::some t.c::none::g);simp only[go_sem,h];all_goals skip
  ·refine⟨-2,_,rfl,.inr (.inl ⟨rfl, ?_⟩)⟩;show dt 0 _ .ret _ (some t.c::some [.int .i64 e]::some [.int .i64 r]::some t.c::none::g);simp only[go_sem,h];all_goals skip
def AIx(t:Ez)(g:t.ports.length<=1073741824)(h:E4):Fm AA 30 [.agg t.c,.agg h.c] (.tup [.agg (I' (Hn t (i64 (h.h0 - 10000))) h).1.c,.bool (I' (Hn t (i64 (h.h0 - 10000))) h).2]):=by
 refine pB Agi rfl ?_;simp only[f30,go_sem];repeat' (first|(apply pK (AaL _ g _);simp only[go_sem])|apply Pz<;>intro i<;>simp only[go_sem,i])
 all_goals first
  |rfl
  |(simp only[I',i64];rfl)
  |grind[I',i64]
  |(simp only[I',i64];grind)
  |(simp[I',i64, *];done)
  |(simp_all[I',i64];done)
  |skip
def ac{t:Ez}(h : ∀ x∈t.ports,-1<=x.edge)(e:Int):Hn t e=IH t e:=by
 have:∀(r:List E1) (i:Nat),(∀x∈r,-1<=x.edge)->JD e i r=IE e i r:=by
  intro r;induction r with
  |nil=>intro i _;rfl
  | cons y r o =>
   intro i j;have C:=j y F3;rw[JD,IE,o _ λx hx=>j x (by simp[hx])];by_cases g:y.edge=e
   ·by_cases p:0<=e
    ·rw[iP ⟨Fj,g⟩,iP ⟨p,g⟩]
    ·rw[iN Fj,iN Fj]
   ·rw[iN (λc=>g c.2),iN (λc=>g c.2)]
 exact this t.ports 0 h
def pN{α:Type}{p:α->Bool}{q:α->α->Bool}{l:List α}(h:I4 p q l=true): ∀ (k:Nat) (x:α),l[k]? =some x->p x=true /\ ∀ (j:Nat) (y:α),j<k->l[j]? =some y->q y x=false:=by
 have r:∀(n i:Nat),l.length - i=n->JE p q l i (l.drop i)=true -> ∀(k:Nat) (x:α),i<=k->l[k]? =some x->p x=true /\ ∀(j:Nat) (y:α),j<k->l[j]? =some y->q y x=false:=by
  intro n;induction n with
  |zero =>
   intro i I _ k x o hx;have:=(AD.1 hx).1;omega
  | succ n J =>
   intro i I t k x o hx;have g:i<l.length:=Fj;rw[BI g,JE]at t;simp only[AQ,Bf]at t;obtain⟨⟨O,C⟩,h3⟩:=t;rcases Nat.eq_or_lt_of_le o with rfl|o
   ·rw[AL g]at hx;cases hx;refine⟨O,λj y P R=>?_⟩;rw[List.any_eq_false]at C;have hm:y∈l.take i:=AB (i:=j) (by rw[Ak,iP P];exact R);simpa using C y hm
   ·exact J (i+1) Fj h3 k x o hx
 intro k x hx;exact r l.length 0 Fj (by rw[BE];exact h) k x (BS _) hx
section
variable{s:E3}{t:Ez}{h:E4}
end
end Go.AI
