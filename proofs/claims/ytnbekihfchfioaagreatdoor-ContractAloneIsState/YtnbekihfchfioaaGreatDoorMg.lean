/- What the functions of the layers field,graph,token,syntax compute,in plain Lean. -/
import Derived.Test.YtnbekihfchfioaaGreatDoorQd
import Derived.Test.YtnbekihfchfioaaGreatDoorLi
import Derived.Test.YtnbekihfchfioaaGreatDoorMf
import Derived.Test.YtnbekihfchfioaaGreatDoorMe
set_option linter.unusedSimpArgs false
set_option linter.unusedVariables false
open Go.Proofs.Tryz
open Bool renaming and_eq_true->AR,false_or->BL,not_eq_false'->CW,not_eq_true'->BX,not_false->Av,true_or->BM
open Int renaming lt_irrefl->AX
open List renaming all_cons->Ak,all_nil->Aw,any_cons->Au,append_assoc->AF,append_nil->Ah,drop_eq_getElem_cons->BJ,drop_zero->BN,getElem?_eq_getElem->AL,getElem?_eq_some_iff->AD,getElem?_take->Aj,length_append->AE,length_cons->AC,length_map->Aq,map_cons->AT,mem_cons->AZ,mem_map->AO,mem_of_find?_eq_some->DG,mem_of_getElem?->AB,nil_append->AN
open Nat renaming le_trans->AK,sub_self->AQ
open Go.Proofs.Tryz renaming prog->AA
namespace Go.AI
def i64(n:Int):Int:=IntKind.i64.wrap n
def bz(c:UInt8):Int:=c.toNat
def loB(c:UInt8):Bool:=decide (97<=bz c)&&decide (bz c<=122)
def dgB(c:UInt8):Bool:=decide (48<=bz c)&&decide (bz c<=57)
def wdB(c:UInt8):Bool:=loB c||dgB c||bz c==95
def tc:Nat->List UInt8->Bool
 | _,[]=>true
 | i,c::l=>(loB c||((dgB c||bz c==95)&&i !=0))&&tc (i+1) l
def nmB(s:ByteArray):Bool:=tc 0 s.data.toList&&(decide (1<=(s.size:Int))&&decide ((s.size:Int)<=24))
def LS:List UInt8->Nat
 | []=>0
 | c::l=>if wdB c then LS l+1 else 0
def Sp(s:ByteArray):Bool:=Fv.any (λy=>decide (y=s))
def tnB(s:ByteArray):Bool :=
 (decide (1<=(s.size:Int))&&decide ((s.size:Int)<=24))&&((match s.data.toList with|c::_=>loB c|[]=>false)&&(((LS s.data.toList:Int)==(s.size:Int)) && !Sp s))
def Eu:ByteArray:=⟨#[112,111,114,116]⟩
def UR(s:ByteArray):Bool:=tnB s||decide (s=Eu)
def Vm(a b:Int):Int:=if a<b then b else a
def Sizes.more(a b:Sizes):Sizes:=⟨i64 (a.nodes+b.nodes),Vm a.depth (i64 (b.depth+1))⟩
mutual
def lH:Pred->Sizes
 | ⟨_,_,_,_,args⟩=>Ug args ⟨1,1⟩
def Ug:List Pred->Sizes->Sizes
 | [],o=>o
 | x::l,o=>Ug l (o.more (lH x))
end
mutual
def lI:Policy->Sizes
 | ⟨k,p,_,_,args⟩=>Ox args (if k=1 then Sizes.more ⟨1,1⟩ (lH p) else ⟨1,1⟩)
def Ox:List Policy->Sizes->Sizes
 | [],o=>o
 | x::l,o=>Ox l (o.more (lI x))
end
mutual
def szR:Regex->Sizes
 | ⟨_,_,args⟩=>ZV args ⟨1,1⟩
def ZV:List Regex->Sizes->Sizes
 | [],o=>o
 | x::l,o=>ZV l (o.more (szR x))
end
theorem xE(x:Pred):lH x=Ug x.args ⟨1,1⟩:=by cases x;rw [lH]
theorem YU(x:Pred)(l:List Pred)(o:Sizes):Ug (x::l) o=Ug l (o.more (lH x)):=by rw [Ug]
theorem cq(o:Sizes):Ug [] o=o:=by rw [Ug]
theorem ZW(x:Policy):lI x=Ox x.args (if x.kind=1 then Sizes.more ⟨1,1⟩ (lH x.pred) else ⟨1,1⟩):=by cases x;rw [lI]
theorem Lo(x:Policy)(l:List Policy)(o:Sizes):Ox (x::l) o=Ox l (o.more (lI x)):=by rw [Ox]
theorem NV(o:Sizes):Ox [] o=o:=by rw [Ox]
theorem AFu(x:Regex):szR x=ZV x.args ⟨1,1⟩:=by cases x;rw [szR]
theorem sY(x:Regex)(l:List Regex)(o:Sizes):ZV (x::l) o=ZV l (o.more (szR x)):=by rw [ZV]
theorem xD(o:Sizes):ZV [] o=o:=by rw [ZV]
mutual
def rY:Pred->Pred->Bool
 | ⟨k,f,n,m,xs⟩,⟨k',f',n',m',ys⟩=>(k==k'&&(decide (f=f')&&(n==n'&&(m==m'&&xs.length==ys.length))))&&Tp xs ys
def Tp:List Pred->List Pred->Bool
 | [],_=>true
 | x::l,y::r=>rY x y&&Tp l r
 | _::_,[]=>false
end
mutual
def eqO:Policy->Policy->Bool
 | ⟨k,p,f,n,xs⟩,⟨k',p',f',n',ys⟩=>rY p p'&&((k==k'&&(decide (f=f')&&(n==n'&&xs.length==ys.length)))&&AWR xs ys)
def AWR:List Policy->List Policy->Bool
 | [],_=>true
 | x::l,y::r=>eqO x y&&AWR l r
 | _::_,[]=>false
end
theorem Ha(x y:Pred):rY x y=((x.kind==y.kind&&(decide (x.field=y.field)&&(x.n==y.n&&(x.m==y.m&&x.args.length==y.args.length))))&&Tp x.args y.args):=by cases x;cases y;rw [rY]
theorem Hn(x y:Pred)(l r:List Pred):Tp (x::l) (y::r)=(rY x y&&Tp l r):=by rw [Tp]
theorem K0(l:List Pred):Tp [] l=true:=by rw [Tp]
def Np:List ByteArray->List ByteArray->Bool
 | [],_=>true
 | x::l,y::r=>decide (x=y)&&Np l r
 | _::_,[]=>false
theorem Ih(x y:ByteArray)(l r:List ByteArray):Np (x::l) (y::r)=(decide (x=y)&&Np l r):=by rw [Np]
theorem Kx(l:List ByteArray):Np [] l=true:=by rw [Np]
def cY(x y:Stp):Bool :=
 (x.kind==y.kind&&(decide (x.var=y.var)&&(decide (x.field=y.field)&&(x.n==y.n&&(x.m==y.m&&x.key.length==y.key.length)))))&&Np x.key y.key
def MO(n:Int):Bool:=decide (0<=n)&&decide (n<=65535)
def IF(x:Pred):Bool:=decide (x.field=⟨#[]⟩)&&(x.n==0&&x.m==0)
def R1(x:Pred):Bool×Nat :=
 if x.kind=1\/x.kind=2 then (IF x,0)
 else if x.kind=3 then (UR x.field&&(MO x.n&&x.m==0),0)
 else if x.kind=4 then (UR x.field&&(MO x.n&&(decide (0<=x.m)&&decide (x.m<=16))),0)
 else if x.kind=5 then (UR x.field&&(decide (0<=x.n)&&(decide (x.n<=x.m)&&decide (x.m<=65535))),0)
 else if x.kind=6 then (IF x,1)
 else if x.kind=7\/x.kind=8 then (IF x,2)
 else if x.kind=9 then (decide (x.field=⟨#[]⟩)&&(decide (0<=x.n)&&(decide (x.n<x.m)&&decide (x.m<=1073741824))),0)
 else (false,0)
mutual
def MP:Pred->Bool
 | ⟨k,f,n,m,xs⟩=>((R1 ⟨k,f,n,m,xs⟩).1&&xs.length==(R1 ⟨k,f,n,m,xs⟩).2)&&Vt xs
def Vt:List Pred->Bool
 | []=>true
 | x::l=>MP x&&Vt l
end
theorem GO(x:Pred):MP x=(((R1 x).1&&x.args.length==(R1 x).2)&&Vt x.args):=by cases x;rw [MP]
theorem Jb(x:Pred)(l:List Pred):Vt (x::l)=(MP x&&Vt l):=by rw [Vt]
theorem GN:Vt []=true:=by rw [Vt]
abbrev On:Pred:=Pred.z
def U7(x:Policy):Bool×Nat :=
 if x.kind=1 then (MP x.pred&&(decide (x.field=⟨#[]⟩)&&x.n==0),0)
 else if x.kind=2 then (UR x.field&&(rY x.pred On&&MO x.n),0)
 else if x.kind=3\/x.kind=4 then (rY x.pred On&&(decide (x.field=⟨#[]⟩)&&x.n==0),2)
 else if x.kind=5 then (rY x.pred On&&(decide (x.field=⟨#[]⟩)&&x.n==0),1)
 else (false,0)
mutual
def Qz:Policy->Bool
 | ⟨k,p,f,n,xs⟩=>((U7 ⟨k,p,f,n,xs⟩).1&&xs.length==(U7 ⟨k,p,f,n,xs⟩).2)&&Vu xs
def Vu:List Policy->Bool
 | []=>true
 | x::l=>Qz x&&Vu l
end
theorem G7(x:Policy):Qz x=(((U7 x).1&&x.args.length==(U7 x).2)&&Vu x.args):=by cases x;rw [Qz]
theorem Jc(x:Policy)(l:List Policy):Vu (x::l)=(Qz x&&Vu l):=by rw [Vu]
theorem HY:Vu []=true:=by rw [Vu]
def wV(x:Regex):Bool×Nat :=
 if x.kind=1\/x.kind=3 then (decide (x.node=⟨#[]⟩),0)
 else if x.kind=2 then (tnB x.node,0)
 else if x.kind=4\/x.kind=5 then (decide (x.node=⟨#[]⟩),2)
 else if x.kind=6 then (decide (x.node=⟨#[]⟩),1)
 else (false,0)
mutual
def fmR:Regex->Bool
 | ⟨k,n,xs⟩=>((wV ⟨k,n,xs⟩).1&&xs.length==(wV ⟨k,n,xs⟩).2)&&aX xs
def aX:List Regex->Bool
 | []=>true
 | x::l=>fmR x&&aX l
end
theorem Pz(x:Regex):fmR x=(((wV x).1&&x.args.length==(wV x).2)&&aX x.args):=by cases x;rw [fmR]
theorem Y4(x:Regex)(l:List Regex):aX (x::l)=(fmR x&&aX l):=by rw [aX]
theorem z7:aX []=true:=by rw [aX]
def Pk(z:Sizes):Int:=if z.nodes>200\/z.depth>20 then 2 else 0
def rU(z:Sizes)(b:Bool):Int:=if Pk z=0 then (if b then 0 else 1) else Pk z
def ckP(x:Pred):Int:=rU (lH x) (MP x)
def UW(x:Policy):Int:=rU (lI x) (Qz x)
def ckR(x:Regex):Int:=rU (szR x) (fmR x)
abbrev ut:Stp:=Stp.z
def Y3(x:Stp):Bool :=
 if cY x ut then true
 else if !tnB x.var\/x.key.length<1\/4<x.key.length \/ !x.key.all UR then false
 else if x.kind=1 then (UR x.field||decide (x.field=⟨#[]⟩))&&(x.n==0&&x.m==0)
 else if x.kind=2 then decide (x.field=⟨#[]⟩)&&(x.n==0&&x.m==0)
 else if x.kind=3 then decide (x.field=⟨#[]⟩)&&(decide (0<=x.n)&&(decide (x.n<=1073741824)&&x.m==0))
 else if x.kind=4 then UR x.field&&(decide (0<=x.n)&&(decide (x.n<=x.m)&&decide (x.m<=65535)))
 else if x.kind=5 then UR x.field&&(x.n==0&&x.m==0)
 else if x.kind=6 then decide (x.field=⟨#[]⟩)&&(decide (1<=x.n)&&(decide (x.n<=65535)&&(decide (1<=x.m)&&decide (x.m<=1073741824))))
 else false
def cZ(x:Stp):Int:=if Y3 x then 0 else 1
def O3:List Stage->Int
 | []=>0
 | x::l=>if UW x.policy=0 then (if cZ x.step=0 then O3 l else cZ x.step) else UW x.policy
def W2(l:List Stage):Int:=if 8<l.length then 2 else O3 l
mutual
def NW:Policy->Int
 | ⟨k,_,_,_,args⟩=>if k=5 then i64 (Ip args 0+1) else Ip args 0
def Ip:List Policy->Int->Int
 | [],o=>o
 | x::l,o=>Ip l (Vm o (NW x))
end
mutual
def Yc:Policy->Int
 | ⟨k,_,_,_,args⟩=>if k=2 then i64 (Kq args 0+1) else Kq args 0
def Kq:List Policy->Int->Int
 | [],o=>o
 | x::l,o=>Kq l (i64 (o+Yc x))
end
theorem Lp(x:Policy):NW x=if x.kind=5 then i64 (Ip x.args 0+1) else Ip x.args 0:=by cases x;rw [NW]
theorem Za(x:Policy)(l:List Policy)(o:Int):Ip (x::l) o=Ip l (Vm o (NW x)):=by rw [Ip]
theorem cr(o:Int):Ip [] o=o:=by rw [Ip]
theorem Na(x:Policy):Yc x=if x.kind=2 then i64 (Kq x.args 0+1) else Kq x.args 0:=by cases x;rw [Yc]
theorem dU(x:Policy)(l:List Policy)(o:Int):Kq (x::l) o=Kq l (i64 (o+Yc x)):=by rw [Kq]
theorem lU(o:Int):Kq [] o=o:=by rw [Kq]
def Ni(x:Policy):Bool :=
 let n:=NW x
 let k:=Yc x
 n==0||(n==1&&decide (k<=8)||(n==2&&decide (k<=4)||(n==3&&decide (k<=3)||n==4&&decide (k<=2))))
def Xd(x:Pred):Bool:=decide ((lH x).nodes<=400)&&decide ((lH x).depth<=60)
def oV(x:Policy):Bool:=decide ((lI x).nodes<=400)&&(decide ((lI x).depth<=60)&&decide ((lH x.pred).nodes<=400))
def iD(x:Regex):Bool:=decide ((szR x).nodes<=400)&&decide ((szR x).depth<=60)
def J7(l:List Stage):Bool:=l.all λx=>oV x.policy&&decide ((x.step.key.length:Int)<=20)
def Ny(l:List Stage):Bool:=J7 (l.take 12)&&decide ((l.length:Int)<=12)
def oW(n:Network)(a b c:Int):Bool:=decide ((n.nodes.length:Int)<=a)&&(decide ((n.links.length:Int)<=b)&&decide ((n.edges.length:Int)<=c))
def Kz(t:Tenant):Bool :=
 (Ny t.program&&(decide ((t.ports.length:Int)<=80)&&(decide ((t.wires.length:Int)<=80)&&(decide ((t.routes.length:Int)<=20)&&decide ((t.demands.length:Int)<=80))))) &&
  ((t.program.all λx=>decide (NW x.policy<=2)&&Ni x.policy)&&(t.routes.all λx=>Xd x.pred&&iD x.path))
def Rt(f:Fld):Bool :=
 decide (1<=f.width)&&(decide (f.width<=16)&&(decide (16<=f.at_)&&(decide (f.at_<=143)&&decide (f.at_ % 16+f.width<=16))))
def Jt(a b:Fld):Bool:=decide (a.at_<i64 (b.at_+b.width))&&decide (b.at_<i64 (a.at_+a.width))
def HJ(l:List Fld):Nat->List Fld->Int
 | _,[]=>0
 | i,x::r=>if !nmB x.name\/x.name=Eu then 4 else if (l.take i).any (λy=>decide (y.name=x.name)) then 4
  else if !Rt x then 1 else if (l.take i).any (λy=>Jt y x) then 1 else HJ l (i+1) r
def N5(l:List Fld):Int:=if 16<l.length then 2 else HJ l 0 l
def HQ(n:Network)(k:Int):Bool:=decide (0<=k)&&decide (k<n.nodes.length)
def IO:Fld:=⟨Eu,0,16⟩
def EO(l:List Fld)(s:ByteArray):Fld×Bool :=
 if s=Eu then (IO,true) else match l.find? (λf=>decide (f.name=s)) with
  | some f=>(f,true)
  | none=>(Fld.z,false)
def W8:Nat->Int
 | 0=>1
 | n+1=>i64 (W8 n*2)
def JT(f:Fld):Int:=i64 (W8 f.width.toNat - 1)
mutual
def Rq:Pred->List Pred
 | ⟨k,f,n,m,xs⟩=>⟨k,f,n,m,xs⟩::Ls xs
def Ls:List Pred->List Pred
 | []=>[]
 | x::l=>Rq x++Ls l
end
mutual
def Lt:Policy->List Policy
 | ⟨k,p,f,n,xs⟩=>⟨k,p,f,n,xs⟩::LK xs
def LK:List Policy->List Policy
 | []=>[]
 | x::l=>Lt x++LK l
end
theorem KW(x:Pred):Rq x=x::Ls x.args:=by cases x;rw [Rq]
theorem IV(x:Pred)(l:List Pred):Ls (x::l)=Rq x++Ls l:=by rw [Ls]
theorem Kg:Ls []=[]:=by rw [Ls]
theorem Jo(x:Policy):Lt x=x::LK x.args:=by cases x;rw [Lt]
theorem HT(x:Policy)(l:List Policy):LK (x::l)=Lt x++LK l:=by rw [LK]
theorem JO:LK []=[]:=by rw [LK]
theorem Jl(x:Pred):DT x.c=x.field.size+5+DT (Ez x.args):=by
 show DT [_,_,_,_,_]=_
 simp only [DT,AV.bulk];omega
theorem He(x:Policy):DT x.c=DT x.pred.c+x.field.size+4+DT (Em x.args):=by
 show DT [_,_,_,_,_,_,_,_,_]=_
 rw [Jl]
 simp only [DT,AV.bulk];omega
theorem dY : ∀ x:Pred,(Rq x).length<=DT x.c:=by
 refine IK _ λx ih=>?_
 rw [KW,Jl,GG]
 have : ∀ l:List Pred,(∀ y∈l,(Rq y).length<=DT y.c)->(Ls l).length<=DT (l.map λx => .agg x.c):=by
  intro l
  induction l with
  | nil=>intro _;simp [Kg]
  | cons y l ihl =>
   intro h
   have h1:=h y sm
   have h2:=ihl λz hz=>h z (by simp [hz])
   rw [IV,AE]
   simp only [AT,DT,AV.bulk]
   omega
 have:=this x.args ih
 simp only [AC]
 omega
theorem QT : ∀ x:Policy,(Lt x).length<=DT x.c:=by
 refine GR _ λx ih=>?_
 rw [Jo,He,FO]
 have : ∀ l:List Policy,(∀ y∈l,(Lt y).length<=DT y.c)->(LK l).length<=DT (l.map λx => .agg x.c):=by
  intro l
  induction l with
  | nil=>intro _;simp [JO]
  | cons y l ihl =>
   intro h
   have h1:=h y sm
   have h2:=ihl λz hz=>h z (by simp [hz])
   rw [HT,AE]
   simp only [AT,DT,AV.bulk]
   omega
 have:=this x.args ih
 simp only [AC]
 omega
theorem sy : ∀ x:Policy,∀ y∈Lt x,DT y.c<=DT x.c:=by
 refine GR _ λx ih=>λy hy=>?_
 rw [Jo] at hy
 rcases AZ.1 hy with rfl|hy
 ·exact Nat.le_refl _
 have : ∀ l:List Policy,(∀ z∈l,∀ y∈Lt z,DT y.c<=DT z.c) -> ∀ y∈LK l,DT y.c<=DT (l.map λx => .agg x.c):=by
  intro l
  induction l with
  | nil=>intro _ y hy;rw [JO] at hy;cases hy
  | cons z l ihl =>
   intro h y hy
   rw [HT] at hy
   simp only [AT,DT,AV.bulk]
   rcases List.mem_append.1 hy with hy|hy
   ·have:=h z sm y hy;omega
   ·have:=ihl (λz hz=>h z (by simp [hz])) y hy;omega
 have:=this x.args ih y hy
 have h2:=He x
 rw [FO] at h2
 omega
def O1(l:List Fld)(x:Pred):Int :=
 if x.kind≠3/\x.kind≠4/\x.kind≠5 then 0
 else if (EO l x.field).2=false then 4
 else if JT (EO l x.field).1<(if x.kind=5 then x.m else x.n)\/(x.kind=4/\(EO l x.field).1.width<x.m) then 1 else 0
def KP(l:List Fld):List Pred->Int
 | []=>0
 | x::r=>if O1 l x=0 then KP l r else O1 l x
def Q0(l:List Fld)(x:Pred):Int:=KP l (Rq x)
def Tq(l:List Fld)(x:Pred):Int:=if ckP x=0 then Q0 l x else ckP x
def QU(l:List Fld)(x:Policy):Int :=
 if x.kind=1 then Q0 l x.pred
 else if x.kind=2 then (if (EO l x.field).2=false then 4 else if JT (EO l x.field).1<x.n then 1 else 0)
 else 0
def KM(l:List Fld):List Policy->Int
 | []=>0
 | x::r=>if QU l x=0 then KM l r else QU l x
def Jh(l:List Fld)(x:Policy):Int:=if UW x=0 then KM l (Lt x) else UW x
def IQ(l:List ByteArray):Nat->List ByteArray->Bool
 | _,[]=>true
 | i,x::r => !(l.take i).any (λy=>decide (y=x))&&IQ l (i+1) r
def Is(s:Stp):List ByteArray:=if s.field=⟨#[]⟩ then s.key else s.key++[s.field]
def LG(l:List Fld)(s:Stp):Int :=
 if cZ s≠0\/s.kind=0 then cZ s
 else if !(Is s).all (λy=>(EO l y).2) then 4
 else if !IQ s.key 0 s.key then 1
 else if s.kind=4/\JT (EO l s.field).1<s.m then 1 else 0
def KY(k:Int):Int:=if k=1 then 1 else if k=2\/k=3 then 2 else if k=4\/k=5 then 3 else 4
def Hh(l:List Fld)(key:List ByteArray):List Int:=key.map λy=>(EO l y).1.width
def Ks(s:Stp):Bool:=s.kind==4||s.kind==6
def Xe(a b:List Int):Bool:=decide (a=b)
def Tv(l:List Fld)(s t:Stp):Bool :=
 !((Ks s&&Ks t)&&(s.n !=t.n||s.m !=t.m))&&(Xe (Hh l s.key) (Hh l t.key)&&KY s.kind==KY t.kind)
def Lq(l:List Fld):List Stage->Int
 | []=>0
 | x::r=>if Jh l x.policy=0 then (if LG l x.step=0 then Lq l r else LG l x.step) else Jh l x.policy
def KQ(l:List Fld)(s t:Stp):Bool:=(s.kind !=0&&t.kind !=0)&&(decide (s.var=t.var) && !Tv l s t)
def Jw(l:List Fld)(p:List Stage):Nat->List Stage->Bool
 | _,[]=>true
 | i,x::r => !(p.take i).any (λy=>KQ l y.step x.step)&&Jw l p (i+1) r
def PN(l:List Fld)(p:List Stage):Int :=
 if W2 p≠0 then W2 p else if Lq l p≠0 then Lq l p else if Jw l p 0 p then 0 else 11
def IC(n:Int):Bool->List Int->List Int
 | d,[]=>if d then [] else [n]
 | d,x::r=>(if n<=x/\d=false then [n] else [])++((if x≠n then [x] else [])++IC n (d||decide (n<=x)) r)
def Rp(l:List Int)(n:Int):List Int:=IC n false l
def LT(o:List Int):List Policy->List Int
 | []=>o
 | y::r=>LT (if y.kind=2/\y.field=Eu then Rp o y.n else o) r
def MX(x:Policy):List Int:=LT [] (Lt x)
def HR{α:Type}(p:α->Bool)(q:α->α->Bool)(l:List α):Nat->List α->Bool
 | _,[]=>true
 | i,x::r=>(p x && !(l.take i).any (λy=>q y x))&&HR p q l (i+1) r
def HC{α:Type}(p:α->Bool)(q:α->α->Bool)(l:List α):Bool:=HR p q l 0 l
def uU(l:List ByteArray)(s:ByteArray):Bool:=l.any (λy=>decide (y=s))
def GB(t:Tenant)(n:Int):Bool:=decide (0<=n)&&decide (n<(t.ports.length:Int))
def N2(t:Tenant)(n:Int):Int:=(t.ports[n.toNat]?.getD Port.z).edge
def Iz(t:Tenant)(n:Int):Bool:=GB t n&&N2 t n == -1
def JQ(t:Tenant)(n:Int):Bool:=GB t n&&N2 t n != -1
def Rs(x:Port):Bool:=nmB x.name
def Rb(y x:Port):Bool:=decide (y.name=x.name)
def QH(m:Int)(x:Port):Bool:=decide (-1<=x.edge)&&decide (x.edge<m)
def QG(y x:Port):Bool:=x.edge != -1&&y.edge==x.edge
def QS(t:Tenant)(x:Wire):Bool:=Iz t x.src&&Iz t x.dst
def QR(y x:Wire):Bool:=y.src==x.src
def Hc(s:Setup)(t:Tenant):Int :=
 if nmB t.name=false then 4 else if HC Rs Rb t.ports=false then 4
 else if HC (QH s.network.edges.length) QG t.ports=false then 1 else if HC (QS t) QR t.wires=false then 1 else 0
def I1(t:Tenant):List Stage->Int
 | []=>0
 | x::r=>if (MX x.policy).all (GB t)=false then 1 else if x.step.field=Eu\/(x.step.kind=5/\uU x.step.key Eu=true) then 1 else I1 t r
def Le(s:Setup)(t:Tenant):Int:=if PN s.fields t.program≠0 then PN s.fields t.program else I1 t t.program
mutual
def knB(l:List ByteArray):Regex->Bool
 | ⟨k,n,xs⟩ => !(k==2 && !uU l n)&&aH l xs
def aH(l:List ByteArray):List Regex->Bool
 | []=>true
 | x::r=>knB l x&&aH l r
end
theorem IY(l:List ByteArray)(x:Regex):knB l x=(!(x.kind==2 && !uU l x.node)&&aH l x.args):=by cases x;rw [knB]
theorem L6(l:List ByteArray)(x:Regex)(r:List Regex):aH l (x::r)=(knB l x&&aH l r):=by rw [aH]
theorem No(l:List ByteArray):aH l []=true:=by rw [aH]
def Gp(n:Network):List ByteArray:=n.nodes.map (·.name)
def Jf(n:Network):List ByteArray:=n.edges.map (·.name)
def lP(s:Setup)(x:Route):Int :=
 if Tq s.fields x.pred≠0 then Tq s.fields x.pred else if ckR x.path≠0 then ckR x.path else if knB (Gp s.network) x.path=false then 4 else 0
def Id(s:Setup):List Route->Int
 | []=>0
 | x::r=>if lP s x=0 then Id s r else lP s x
def lX(t:Tenant)(d:Demand):Bool :=
 JQ t d.src&&(JQ t d.dst&&(d.src !=d.dst&&(decide (0<=d.floor)&&(decide (d.floor<=d.ceiling)&&decide (d.ceiling<=1048576)))))
def kZ(y x:Demand):Bool:=y.src==x.src&&y.dst==x.dst
def In(s:Setup)(t:Tenant):Int :=
 if 64<t.ports.length\/64<t.wires.length\/16<t.routes.length\/64<t.demands.length then 2
 else if Hc s t≠0 then Hc s t else if Le s t≠0 then Le s t
 else if Id s t.routes≠0 then Id s t.routes else if HC (lX t) kZ t.demands=false then 1 else 0
def de(x:ByteArray):Bool:=nmB x
def cU(y x:ByteArray):Bool:=decide (y=x)
def Sz(n:Network)(x:Node):Bool:=decide (0<=x.rules)&&(decide (x.rules<=4000)&&(decide (0<=x.entries)&&decide (x.entries<=100000)))
def S1(n:Network)(x:Link):Bool:=HQ n x.src&&(HQ n x.dst&&(x.src !=x.dst&&(decide (0<=x.capacity)&&decide (x.capacity<=1048576))))
def Hv(n:Network):Int :=
 if 200<n.nodes.length\/2000<n.links.length\/400<n.edges.length then 2
 else if HC de cU (Gp n)=false\/HC de cU (Jf n)=false then 4
 else if n.nodes.all (Sz n)=false then 1 else if n.links.all (S1 n)=false then 1 else if n.edges.all (λx=>HQ n x.node)=false then 1 else 0
def KS(n:Int):Bool:=decide (0<=n)&&decide (n<=65535)
theorem Yd(n:Int): ∀ (l:List Int) (d:Bool),(IC n d l).length<=l.length+(if d then 0 else 1)
 | [],d=>by cases d<;>simp [IC]
 | x::r,d=>by
  have ih:=Yd n r (d||decide (n<=x))
  have g1:(if x≠n then [x] else []).length<=1:=by split<;>simp
  simp only [IC,AE,AC]
  cases d<;>by_cases hx:n<=x<;>simp [hx] at ih g1 ⊢ <;> omega
theorem xi(o:List Int)(n:Int):(Rp o n).length<=o.length+1:=by
 have:=Yd n o false
 simpa [Rp] using this
theorem lW(x:Policy):(MX x).length<=(Lt x).length:=by
 have h1 : ∀ (n:Int) (l:List Int) (d:Bool),(IC n d l).length<=l.length+1:=by
  have h2 : ∀ (n:Int) (l:List Int),(IC n true l).length<=l.length:=by
   intro n l
   induction l with
   | nil=>simp [IC]
   | cons x r ih =>
    simp only [IC,BM,Bool.true_eq_false,and_false,if_false,AN,AE,AC]
    have:(if x≠n then [x] else []).length<=1:=by split<;>simp
    omega
  intro n l
  induction l with
  | nil=>intro d;cases d<;>simp [IC]
  | cons x r ih =>
   intro d
   cases d with
   | true=>have:=h2 n (x::r);simp at this ⊢;omega
   | false =>
    simp only [IC,AE,AC]
    have g1:(if x≠n then [x] else []).length<=1:=by split<;>simp
    by_cases hx:n<=x
    ·have:=h2 n r
     simp [hx]
     simp at this g1
     omega
    ·have:=ih false
     simp [hx]
     simp at this g1
     omega
 have h3 : ∀ (l:List Policy) (o:List Int),(LT o l).length<=o.length+l.length:=by
  intro l
  induction l with
  | nil=>intro o;simp [LT]
  | cons y r ih =>
   intro o
   rw [LT]
   refine AK (ih _) ?_
   have:=h1 y.n o false
   simp only [AC]
   split
   ·unfold Rp;omega
   ·omega
 have:=h3 (Lt x) []
 simpa [MX] using this
theorem ZC{l:List Fld}(h:N5 l=0): ∀ f∈l,f.width<=16:=by
 have : ∀ (r:List Fld) (i:Nat),HJ l i r=0 -> ∀ f∈r,f.width<=16:=by
  intro r
  induction r with
  | nil=>intro i _ f hf;cases hf
  | cons x r ih =>
   intro i h f hf
   rw [HJ] at h
   split at h
   ·cases h
   split at h
   ·cases h
   split at h
   ·cases h
   split at h
   ·cases h
   rename_i hp _
   rcases AZ.1 hf with rfl|hf
   ·simp only [Rt,BX,Bool.and_eq_false_iff,not_or,Bool.not_eq_false,decide_eq_true_eq] at hp
    omega
   ·exact ih _ h f hf
 unfold N5 at h
 split at h
 ·cases h
 ·exact this l 0 h
open Go.Proofs
@[go_sem] theorem sD(x:Pred)(v:Int)(o0:Option Nat):GT (x.cf o0) [.int .i64 v]=({ x with kind:=v }:Pred).cf o0:=rfl
@[go_sem] theorem sC(x:Pred)(v:ByteArray)(o0:Option Nat):splice (x.cf o0) 1 [.str v]=({ x with field:=v }:Pred).cf o0:=rfl
@[go_sem] theorem ACA(x:Pred)(v:Int)(o0:Option Nat):splice (x.cf o0) 2 [.int .i64 v]=({ x with n:=v }:Pred).cf o0:=rfl
@[go_sem] theorem wN(x:Pred)(v:List Pred)(o0:Option Nat)(p:Option Nat):splice (x.cf o0) 4 [.sl p (Ez v)]=({ x with args:=v }:Pred).cf p:=rfl
@[go_sem] theorem ko(x:Policy)(v:Int)(o0 o1:Option Nat):GT (x.cf o0 o1) [.int .i64 v]=({ x with kind:=v }:Policy).cf o0 o1:=rfl
@[go_sem] theorem qS(x:Policy)(v:Pred)(o0 o1:Option Nat)(p0:Option Nat):splice (x.cf o0 o1) 1 (v.cf p0)=({ x with pred:=v }:Policy).cf p0 o1:=rfl
@[go_sem] theorem kl(x:Policy)(v:ByteArray)(o0 o1:Option Nat):splice (x.cf o0 o1) 6 [.str v]=({ x with field:=v }:Policy).cf o0 o1:=rfl
@[go_sem] theorem wa(x:Policy)(v:Int)(o0 o1:Option Nat):splice (x.cf o0 o1) 7 [.int .i64 v]=({ x with n:=v }:Policy).cf o0 o1:=rfl
@[go_sem] theorem qT(x:Policy)(v:List Policy)(o0 o1:Option Nat)(p:Option Nat):splice (x.cf o0 o1) 8 [.sl p (Em v)]=({ x with args:=v }:Policy).cf o0 p:=rfl
@[ext] structure Pat where
 mask:Head
 bits:Head
 deriving DecidableEq,Inhabited
def Pat.c(x:Pat):List AV:=[.int .i64 x.mask.h0,.int .i64 x.mask.h1,.int .i64 x.mask.h2,.int .i64 x.mask.h3,.int .i64 x.mask.h4,.int .i64 x.mask.h5,.int .i64 x.mask.h6,.int .i64 x.mask.h7,.int .i64 x.mask.h8,.int .i64 x.mask.h9,.int .i64 x.bits.h0,.int .i64 x.bits.h1,.int .i64 x.bits.h2,.int .i64 x.bits.h3,.int .i64 x.bits.h4,.int .i64 x.bits.h5,.int .i64 x.bits.h6,.int .i64 x.bits.h7,.int .i64 x.bits.h8,.int .i64 x.bits.h9]
@[go_sem] theorem ARU(x:Pat):x.c.length=20:=rfl
@[go_sem] theorem ARV(x:Pat):x.c.map borrow1=x.c:=rfl
@[go_sem] theorem ART(x:Pat):x.c.any Ew=false:=by
 rfl
@[go_sem] theorem AFb(x:Pat):x.c.take 20=x.c:=rfl
@[go_sem] theorem Pat.cf_pure(x:Pat):DY x.c=true:=by
 simp [Pat.c,DY,AV.pure]
@[go_sem] theorem qV(k:Nat)(x:Pat):EZ k x.c=true:=by
 simp [Pat.c,EZ,AV.bnd]
theorem Pat.c_bnd(k:Nat)(x:Pat):EZ k x.c=true:=qV k x
@[go_sem] theorem wO(x:Pat)(v:Head):GT x.c v.c=({ x with mask:=v }:Pat).c:=rfl
@[go_sem] theorem wb(x:Pat)(v:Head):splice x.c 10 v.c=({ x with bits:=v }:Pat).c:=rfl
def Pat.z:Pat:=⟨⟨0,0,0,0,0,0,0,0,0,0⟩,⟨0,0,0,0,0,0,0,0,0,0⟩⟩
@[go_sem] theorem Pat.zero:EW AA 225=some (.agg Pat.z.c):=kr
def Pat.ok(x:Pat):Prop:=(x.mask.ok)/\(x.bits.ok)
theorem Pat.rd{a:AV}(h:Rd AA 225 a): ∃ x:Pat,a = .agg x.c/\x.ok:=by
 obtain ⟨ps,rfl,hp⟩:=E3 (ts:=[34,34]) kr h
 obtain ⟨a0,a1,rfl,g0,g1⟩:=Ge hp
 obtain ⟨v0,rfl,k0⟩:=Head.rd g0
 obtain ⟨v1,rfl,k1⟩:=Head.rd g1
 exact ⟨⟨v0,v1⟩,rfl,⟨k0,k1⟩⟩
def En(l:List Head):List AV:=l.map λx => .agg x.c
@[go_sem] theorem ARy(l:List Head):(En l).length=l.length:=by simp [En]
theorem F0{l:List Head}{i:Nat}{x:Head}(h:l[i]? =some x):(En l)[i]? =some (.agg x.c):=by simp [En,h]
theorem fZ(l:List Head): ∀ x∈En l,x.cells.length=10:=by
 intro x hx;obtain ⟨y,_,rfl⟩:=AO.1 hx;rfl
@[go_sem] theorem ADF(l:List Head):(∀ x∈En l,x.cells.length=10)=True:=eq_true (fZ l)
@[go_sem] theorem ARx:En []=[]:=rfl
@[go_sem] theorem AEz(l:List Head)(k:Nat):(En l).take k=En (l.take k):=by simp [En]
@[go_sem] theorem ARz(a b:List Head):En a++En b=En (a++b):=by simp [En]
@[go_sem] theorem AGV(a:List Head)(x:Head):En a++[.agg x.c]=En (a++[x]):=by simp [En]
@[go_sem] theorem mZ(l:List Head):DY (En l)=true:=by
 induction l with
 | nil=>rfl
 | cons x xs ih=>simpa [En,DY,AV.pure] using ⟨kP x,ih⟩
set_option maxRecDepth 50000
theorem iZ(c:UInt8):DR AA 348 [.int .u8 c.toNat] (.bool (loB c)):=by
 refine pC AG9 rfl ?_
 simp only [f348,go_sem]
 repeat' (first
  | ((first|apply cS|apply gS)<;>(intro hc;simp only [go_sem,hc])))
 all_goals (simp only [loB,bz];grind)
theorem ADx(c:UInt8):DR AA 374 [.int .u8 c.toNat] (.bool (dgB c)):=by
 refine pC AGw rfl ?_
 simp only [f374,go_sem]
 repeat' (first
  | ((first|apply cS|apply gS)<;>(intro hc;simp only [go_sem,hc])))
 all_goals (simp only [dgB,bz];grind)
theorem pP(c:UInt8):DR AA 366 [.int .u8 c.toNat] (.bool (wdB c)):=by
 refine pC AGz rfl ?_
 simp only [f366,go_sem]
 repeat' (first
  | ((first|refine pK (iZ _) ?_|refine pK (ADx _) ?_);simp only [go_sem])
  | ((first|apply cS|apply gS)<;>(intro hc;simp only [go_sem,hc])))
 all_goals (simp only [wdB,bz];grind)
theorem AYv(s:ByteArray)(hs:s.size<=1073741824):DR AA 350 [.str s] (.int .i64 (LS s.data.toList)):=by
 refine pC AG3 rfl ?_
 simp only [f350,go_sem]
 refine WM s (λl=>s.size - l.length+LS l) (λk=>[(0,.str s),(3,.int .i64 k)]) DF rfl ?_ ?_
 ·intro k x xs hd hx hF h0 h1 hw hl
  rw [SY] at hF
  simp only [AC,LS] at hF
  simp only [go_sem,h0,h1,hx]
  repeat' (first
   | (refine pK (pP _) ?_;simp only [go_sem,hw])
   | ((first|apply cS|apply gS)<;>(intro hc;simp only [go_sem,hc,hw])))
  ·simp only [BX] at hc
   rw [hc] at hF
   have:LS s.data.toList=k:=by simp at hF;omega
   rw [this]
  ·simp only [CW] at hc
   simp only [LS,hc]
   simp;omega
 ·intro hF hlt
  simp only [go_sem,hlt,decide_false]
  rw [SY] at hF
  simp [LS] at hF
  rw [hF]
theorem AAM:EvOk AA (ab.evt [] AEu):=ETree.ok yg (λ_ h=>by cases h) (yb _) Vy
theorem kv:DY (Fv.map AV.str)=true:=kr
theorem AD0:DR AA 365 [] (.sl (some 1) (Fv.map AV.str)):=DR.run AAM 100 rfl kv kr
theorem AAg(s:ByteArray):DR AA 349 [.str s] (.bool (Sp s)):=by
 refine pC AG6 rfl ?_
 simp only [f349,go_sem]
 repeat' (first
  | (refine pK (AD0) ?_;simp only [go_sem])
  | ((first|apply cS|apply gS)<;>(intro hc;simp only [go_sem,hc])))
 refine EP Fv (λl=>l.any (λy=>decide (y=s))) (λk=>[(0,.str s),(3,.sl (some 1) (Fv.map AV.str)),(4,.int .i64 k)]) dc rfl ?_ ?_
 ·intro k x xs hd hx hF h0 h1 hw
  have hg:(Fv.map AV.str)[k]? =some (.str x):=by simp [hx]
  simp only [go_sem,h0,h1,hg,Aq,By]
  repeat' (first
   | ((first|apply cS|apply gS)<;>(intro hc;simp only [go_sem,hc,h0,h1,hg,hw,Aq,By])))
  ·simp only [Sp,hF,Au,hc,BM]
 ·intro hF hlt
  simp only [go_sem,hlt,decide_false,Aq]
  rw [Sp,hF];rfl
theorem AAq(s:ByteArray)(hs:s.size<=1073741824):DR AA 340 [.str s] (.bool (tnB s)):=by
 refine pC AHC rfl ?_
 by_cases hz:s.size=0
 ·have hz2:((s.size:Int)==0)=true:=by simp [hz]
  simp only [f340,go_sem,hz2]
  simp [tnB,hz]
 ·have h0:(0:Int)<(s.size:Int):=DF
  obtain ⟨x,xs,hx⟩ : ∃ x xs,s.data.toList=x::xs:=by
   cases h:s.data.toList with
   | nil=>rw [<- SY,h] at hz;simp at hz
   | cons x xs=>exact ⟨x,xs,rfl⟩
  have hx0:(s.data[0]?).getD 0=x:=by rw [<- Array.getElem?_toList,hx];rfl
  have hne:((s.size:Int)==0)=false:=by simp [hz]
  simp only [f340,go_sem,hne]
  repeat' (first
   | ((first|refine pK (iZ _) ?_|refine pK (AAg _) ?_|refine pK (AYv _ hs) ?_);simp only [go_sem,h0,hx0,hx])
   | ((first|apply cS|apply gS)<;>(intro hc;simp only [go_sem,hc,h0,hx0,hx])))
  all_goals (simp only [tnB,hx];grind)
theorem aq(s:ByteArray)(hs:s.size<=1073741824):DR AA 316 [.str s] (.bool (tnB s)):=by
 refine pC AHk rfl ?_
 simp only [f316,go_sem]
 repeat' (first
  | (refine pK (AAq _ hs) ?_;simp only [go_sem])
  | ((first|apply cS|apply gS)<;>(intro hc;simp only [go_sem,hc])))
theorem UX(s:ByteArray)(hs:s.size<=1073741824):DR AA 321 [.str s] (.bool (UR s)):=by
 refine pC AHV rfl ?_
 simp only [f321,go_sem]
 repeat' (first
  | (refine pK (aq _ hs) ?_;simp only [go_sem])
  | ((first|apply cS|apply gS)<;>(intro hc;simp only [go_sem,hc])))
 all_goals first
  | rfl
  | (simp only [By,UR,Eu,hc,BL,BM,Av];rfl)
  | grind [By,UR,Eu,BL,BM,Av]
  | (simp only [By,UR,Eu,hc,BL,BM,Av];grind)
  | (simp [By,UR,Eu,hc,BL,BM,Av, *];done)
  | (simp_all [By,UR,Eu,hc,BL,BM,Av];done)
  | skip
theorem UY(s:ByteArray)(hs:s.size<=1073741824):DR AA 159 [.str s] (.bool (nmB s)):=by
 refine pC AM0 rfl ?_
 simp only [f159,go_sem]
 refine WM s (λl=>tc (s.size - l.length) l) (λk=>[(0,.str s),(3,.int .i64 k)]) DF rfl ?_ ?_
 ·intro k x xs hd hx hF h0 h1 hw hl
  have e1:s.size - (x::xs).length=k:=by simp;omega
  have e2:s.size - xs.length=k+1:=DF
  rw [e1,SY,AQ] at hF
  simp only [go_sem,h0,h1,hx,e2]
  repeat' (first
   | ((first|apply cS|apply gS)<;>(intro hc;simp only [go_sem,hc,h0,h1,hx,hw,e1,e2])))
  all_goals first|(simp only [nmB,hF,tc,loB,dgB,bz];grind)|(simp only [tc,loB,dgB,bz];grind)|skip
 ·intro hF hlt
  simp only [go_sem,hlt,decide_false]
  rw [SY,AQ] at hF
  repeat' (first
   | ((first|apply cS|apply gS)<;>(intro hc;simp only [go_sem,hc])))
  all_goals (simp only [nmB,hF,tc];grind)
theorem Q1{cs:List AV}{l:List AV}(h:F8 (.agg cs::l)):F8 cs:=h.1
theorem fits{o:Option Nat}{es:List AV}{l:List AV}(h:F8 (.sl o es::l)):es.length<=9223372036854775807:=h.1.1
theorem WE(a b:Sizes):DR AA 217 [.agg a.c,.agg b.c] (.agg (a.more b).c):=by
 refine pB AKU rfl ?_
 simp only [f217,go_sem]
 rfl
theorem rn : ∀ x:Pred,DR AA 155 [.agg x.c] (.agg (lH x).c):=by
 refine IK _ λx ih=>?_
 refine DR.fit zi.c λhf=>?_
 have hl:=Jv (Q1 hf)
 refine pB zi rfl ?_
 simp only [f155,go_sem]
 refine Ed x.args (λo l=>Ug l o) (λ_ _=>True) (λk o=>[(1,.ptr 0 0),(2,.ptr 1 0),(3,.ptr 2 0),(4,.int .i64 k)]) (λk o=>[some x.c,some Sizes.z.c,some o.c]) ⟨1,1⟩ hl trivial rfl rfl ?_ ?_
 ·intro k o y ys hd hx _ hF h0 h1 hw
  have hm:=AB hx
  simp only [go_sem,h0,h1,Ea hx]
  repeat' (first
   | ((first|refine pK (ih _ hm) ?_|refine pK (WE _ _) ?_);simp only [go_sem,h0,h1,hw,Ea hx])
   | ((first|apply cS|apply gS)<;>(intro hc;simp only [go_sem,hc,h0,h1,hw,Ea hx])))
  exact ⟨_,YU _ _ _,rfl,rfl⟩
 ·intro o _ hF
  simp only [go_sem,AX,decide_false]
  rw [xE,hF,cq]
theorem AFE : ∀ x:Regex,DR AA 216 [.agg x.c] (.agg (szR x).c):=by
 refine Sg _ λx ih=>?_
 refine DR.fit ze.c λhf=>?_
 have hl:=OI (Q1 hf)
 refine pB ze rfl ?_
 simp only [f216,go_sem]
 refine Ed x.args (λo l=>ZV l o) (λ_ _=>True) (λk o=>[(1,.ptr 0 0),(2,.ptr 1 0),(3,.ptr 2 0),(4,.int .i64 k)]) (λk o=>[some x.c,some Sizes.z.c,some o.c]) ⟨1,1⟩ hl trivial rfl rfl ?_ ?_
 ·intro k o y ys hd hx _ hF h0 h1 hw
  have hm:=AB hx
  simp only [go_sem,h0,h1,G5 hx]
  repeat' (first
   | ((first|refine pK (ih _ hm) ?_|refine pK (WE _ _) ?_);simp only [go_sem,h0,h1,hw,G5 hx])
   | ((first|apply cS|apply gS)<;>(intro hc;simp only [go_sem,hc,h0,h1,hw,G5 hx])))
  exact ⟨_,sY _ _ _,rfl,rfl⟩
 ·intro o _ hF
  simp only [go_sem,AX,decide_false]
  rw [AFu,hF,xD]
theorem AFF : ∀ x:Policy,DR AA 269 [.agg x.c] (.agg (lI x).c):=by
 refine GR _ λx ih=>?_
 refine DR.fit zW.c λhf=>?_
 have hl:=IR (Q1 hf)
 refine pB zW rfl ?_
 simp only [f269,go_sem]
 repeat' (first
  | ((first|refine pK (rn _) ?_|refine pK (WE _ _) ?_);simp only [go_sem])
  | ((first|apply cS|apply gS)<;>(intro hc;simp only [go_sem,hc])))
 ·have hs:lI x=Ox x.args (Sizes.more ⟨1,1⟩ (lH x.pred)):=by rw [ZW,if_pos (by simpa using hc)]
  refine Ed x.args (λo l=>Ox l o) (λ_ _=>True) (λk o=>[(1,.ptr 0 0),(2,.ptr 1 0),(3,.ptr 2 0),(4,.int .i64 k)]) (λk o=>[some x.c,some Sizes.z.c,some o.c]) (Sizes.more ⟨1,1⟩ (lH x.pred)) hl trivial rfl rfl ?_ ?_
  ·intro k o y ys hd hx _ hF h0 h1 hw
   have hm:=AB hx
   simp only [go_sem,h0,h1,EQ hx]
   repeat' (first
    | ((first|refine pK (ih _ hm) ?_|refine pK (WE _ _) ?_);simp only [go_sem,h0,h1,hw,EQ hx])
    | ((first|apply cS|apply gS)<;>(intro hc;simp only [go_sem,hc,h0,h1,hw,EQ hx])))
   exact ⟨_,Lo _ _ _,rfl,rfl⟩
  ·intro o _ hF
   rw [NV] at hF
   simp only [go_sem,AX,decide_false]
   rw [hs,hF]
 ·have hs:lI x=Ox x.args ⟨1,1⟩:=by rw [ZW,if_neg (by simpa using hc)]
  refine Ed x.args (λo l=>Ox l o) (λ_ _=>True) (λk o=>[(1,.ptr 0 0),(2,.ptr 1 0),(3,.ptr 2 0),(4,.int .i64 k)]) (λk o=>[some x.c,some Sizes.z.c,some o.c]) (⟨1,1⟩) hl trivial rfl rfl ?_ ?_
  ·intro k o y ys hd hx _ hF h0 h1 hw
   have hm:=AB hx
   simp only [go_sem,h0,h1,EQ hx]
   repeat' (first
    | ((first|refine pK (ih _ hm) ?_|refine pK (WE _ _) ?_);simp only [go_sem,h0,h1,hw,EQ hx])
    | ((first|apply cS|apply gS)<;>(intro hc;simp only [go_sem,hc,h0,h1,hw,EQ hx])))
   exact ⟨_,Lo _ _ _,rfl,rfl⟩
  ·intro o _ hF
   rw [NV] at hF
   simp only [go_sem,AX,decide_false]
   rw [hs,hF]
theorem iY : ∀ x:Policy,DR AA 152 [.agg x.c] (.int .i64 (NW x)):=by
 refine GR _ λx ih=>?_
 refine DR.fit zj.c λhf=>?_
 have hl:=IR (Q1 hf)
 refine pC zj rfl ?_
 simp only [f152,go_sem]
 refine Ed x.args (λo l=>Ip l o) (λ_ _=>True) (λk o=>[(1,.ptr 0 0),(3,.int .i64 o),(4,.int .i64 k)]) (λk o=>[some x.c]) 0 hl trivial rfl rfl ?_ ?_
 ·intro k o y ys hd hx _ hF h0 h1 hw
  have hm:=AB hx
  simp only [go_sem,h0,h1,EQ hx]
  repeat' (first
   | (refine pK (ih _ hm) ?_;simp only [go_sem,h0,h1,hw,EQ hx])
   | ((first|apply cS|apply gS)<;>(intro hc;simp only [go_sem,hc,h0,h1,hw,EQ hx])))
  exact ⟨_,Za _ _ _,rfl,rfl⟩
 ·intro o _ hF
  rw [cr] at hF
  simp only [go_sem,AX,decide_false]
  repeat' (first
   | ((first|apply cS|apply gS)<;>(intro hc;simp only [go_sem,hc])))
  all_goals first
   | rfl
   | (simp only [Lp,hF,i64];rfl)
   | grind [Lp,i64]
   | (simp only [Lp,hF,i64];grind)
   | (simp [Lp,hF,i64, *];done)
   | (simp_all [Lp,hF,i64];done)
   | skip
theorem ADp : ∀ x:Policy,DR AA 215 [.agg x.c] (.int .i64 (Yc x)):=by
 refine GR _ λx ih=>?_
 refine DR.fit zf.c λhf=>?_
 have hl:=IR (Q1 hf)
 refine pC zf rfl ?_
 simp only [f215,go_sem]
 refine Ed x.args (λo l=>Kq l o) (λ_ _=>True) (λk o=>[(1,.ptr 0 0),(3,.int .i64 o),(4,.int .i64 k)]) (λk o=>[some x.c]) 0 hl trivial rfl rfl ?_ ?_
 ·intro k o y ys hd hx _ hF h0 h1 hw
  have hm:=AB hx
  simp only [go_sem,h0,h1,EQ hx]
  repeat' (first
   | (refine pK (ih _ hm) ?_;simp only [go_sem,h0,h1,hw,EQ hx])
   | ((first|apply cS|apply gS)<;>(intro hc;simp only [go_sem,hc,h0,h1,hw,EQ hx])))
  exact ⟨_,dU _ _ _,rfl,rfl⟩
 ·intro o _ hF
  rw [lU] at hF
  simp only [go_sem,AX,decide_false]
  repeat' (first
   | ((first|apply cS|apply gS)<;>(intro hc;simp only [go_sem,hc])))
  all_goals first
   | rfl
   | (simp only [Na,hF,i64];rfl)
   | grind [Na,i64]
   | (simp only [Na,hF,i64];grind)
   | (simp [Na,hF,i64, *];done)
   | (simp_all [Na,hF,i64];done)
   | skip
theorem AAf(x:Policy):DR AA 153 [.agg x.c] (.bool (Ni x)):=by
 refine pC ANH rfl ?_
 simp only [f153,go_sem]
 repeat' (first
  | ((first|refine pK (iY _) ?_|refine pK (ADp _) ?_);simp only [go_sem])
  | ((first|apply cS|apply gS)<;>(intro hc;simp only [go_sem,hc])))
 all_goals first
  | rfl
  | (simp only [Ni];rfl)
  | grind [Ni]
  | (simp only [Ni];grind)
  | (simp [Ni, *];done)
  | (simp_all [Ni];done)
  | skip
theorem AAi(x:Pred):DR AA 87 [.agg x.c] (.bool (Xd x)):=by
 refine pC ATm rfl ?_
 simp only [f87,go_sem]
 repeat' (first
  | (refine pK (rn _) ?_;simp only [go_sem])
  | ((first|apply cS|apply gS)<;>(intro hc;simp only [go_sem,hc])))
 all_goals first
  | rfl
  | (simp only [Xd];rfl)
  | grind [Xd]
  | (simp only [Xd];grind)
  | (simp [Xd, *];done)
  | (simp_all [Xd];done)
  | skip
theorem AQw(x:Regex):DR AA 154 [.agg x.c] (.bool (iD x)):=by
 refine pC ANE rfl ?_
 simp only [f154,go_sem]
 repeat' (first
  | (refine pK (AFE _) ?_;simp only [go_sem])
  | ((first|apply cS|apply gS)<;>(intro hc;simp only [go_sem,hc])))
 all_goals first
  | rfl
  | (simp only [iD];rfl)
  | grind [iD]
  | (simp only [iD];grind)
  | (simp [iD, *];done)
  | (simp_all [iD];done)
  | skip
theorem AAj(x:Policy):DR AA 214 [.agg x.c] (.bool (oV x)):=by
 refine pC AKb rfl ?_
 simp only [f214,go_sem]
 repeat' (first
  | ((first|refine pK (AFF _) ?_|refine pK (rn _) ?_);simp only [go_sem])
  | ((first|apply cS|apply gS)<;>(intro hc;simp only [go_sem,hc])))
 all_goals first
  | rfl
  | (simp only [oV];rfl)
  | grind [oV]
  | (simp only [oV];grind)
  | (simp [oV, *];done)
  | (simp_all [oV];done)
  | skip
theorem AQy(x:List Stage):DR AA 151 [.sl none (Es x)] (.bool (Ny x)):=by
 refine DR.fit zm.c λhf=>?_
 have hl:=fits hf
 rw [Mf] at hl
 refine pC zm rfl ?_
 simp only [f151,go_sem]
 refine EP x (λr=>J7 (r.take (12 - (x.length - r.length)))) (λk=>[(0,.sl none (Es x)),(3,.int .i64 k)]) hl rfl ?_ ?_
 ·intro k y ys hd hx hF h0 h1 hw
  have hk:=Eb hd
  have e1:x.length - (ys.length+1)=k:=DF
  have e2:x.length - ys.length=k+1:=DF
  simp only [AC,e1,AQ,Nat.sub_zero] at hF
  simp only [go_sem,h0,h1,EU hx,e1,e2]
  rcases Nat.lt_or_ge k 12 with oH|oH
  ·have e3:12 - k=(12 - (k+1))+1:=DF
   rw [e3,List.take_succ_cons] at hF
   repeat' (first
    | (refine pK (AAj _) ?_;simp only [go_sem,h0,h1,hw,EU hx,e1,e2])
    | ((first|apply cS|apply gS)<;>(intro hc;simp only [go_sem,hc,h0,h1,hw,EU hx,e1,e2])))
   all_goals first
    | rfl
    | (simp only [Ny,J7,e3];rfl)
    | grind [Ny,J7]
    | (simp only [Ny,J7,e3];grind)
    | (simp [Ny,J7,e3, *];done)
    | (simp_all [Ny,J7,e3];done)
    | skip
  ·have e3:12 - k=0:=DF
   rw [e3,List.take_zero] at hF
   have JA : ¬ (k:Int)<12:=DF
   simp only [go_sem,JA,decide_false]
   repeat' (first
    | (refine pK (AAj _) ?_;simp only [go_sem,h0,h1,hw,EU hx,e1,e2])
    | ((first|apply cS|apply gS)<;>(intro hc;simp only [go_sem,hc,h0,h1,hw,EU hx,e1,e2])))
   all_goals first
    | rfl
    | (simp only [Ny,J7];rfl)
    | grind [Ny,J7]
    | (simp only [Ny,J7];grind)
    | (simp [Ny,J7, *];done)
    | (simp_all [Ny,J7];done)
    | skip
 ·intro hF hlt
  simp only [go_sem,hlt,decide_false]
  repeat' (first
   | ((first|apply cS|apply gS)<;>(intro hc;simp only [go_sem,hc])))
  all_goals first
   | rfl
   | (simp only [Ny,J7];rfl)
   | grind [Ny,J7]
   | (simp only [Ny,J7];grind)
   | (simp [Ny,J7, *];done)
   | (simp_all [Ny,J7];done)
   | skip
theorem AQv(t:Tenant):DR AA 86 [.agg t.c] (.bool (Kz t)):=by
 refine DR.fit AE2.c λhf=>?_
 have hl1:=P6 (Q1 hf)
 have hl2:=RH (Q1 hf)
 refine pC AE2 rfl ?_
 simp only [f86,go_sem]
 repeat' (first
  | (refine pK (AQy _) ?_;simp only [go_sem])
  | ((first|apply cS|apply gS)<;>(intro hc;simp only [go_sem,hc])))
 all_goals first
  | rfl
  | (simp only [Kz];rfl)
  | grind [Kz]
  | (simp only [Kz];grind)
  | (simp [Kz, *];done)
  | (simp_all [Kz];done)
  | skip
 refine EP t.program (λr=>r.all λx=>decide (NW x.policy<=2)&&Ni x.policy) (λk=>[(1,.ptr 0 0),(4,.int .i64 k)]) hl1 rfl ?_ ?_
 ·intro k y ys hd hx hF h0 h1 hw
  simp only [go_sem,h0,h1,EU hx]
  repeat' (first
   | ((first|refine pK (iY _) ?_|refine pK (AAf _) ?_);simp only [go_sem,h0,h1,hw,EU hx])
   | ((first|apply cS|apply gS)<;>(intro hc;simp only [go_sem,hc,h0,h1,hw,EU hx])))
  all_goals first
   | rfl
   | (simp only [Kz,Ak,Aw];rfl)
   | grind [Kz]
   | (simp only [Kz,Ak,Aw];grind)
   | (simp [Kz,Ak,Aw, *];done)
   | (simp_all [Kz,Ak,Aw];done)
   | skip
  skip
 ·intro hF hlt
  simp only [go_sem,hlt,decide_false]
  refine EP t.routes (λr=>r.all λx=>Xd x.pred&&iD x.path) (λk=>[(1,.ptr 0 0),(5,.int .i64 k)]) hl2 rfl ?_ ?_
  ·intro k y ys hd hx hF h0 h1 hw
   simp only [go_sem,h0,h1,JV hx]
   repeat' (first
    | ((first|refine pK (AAi _) ?_|refine pK (AQw _) ?_);simp only [go_sem,h0,h1,hw,JV hx])
    | ((first|apply cS|apply gS)<;>(intro hc;simp only [go_sem,hc,h0,h1,hw,JV hx])))
   all_goals first
    | rfl
    | (simp only [Kz,Ak,Aw];rfl)
    | grind [Kz]
    | (simp only [Kz,Ak,Aw];grind)
    | (simp [Kz,Ak,Aw, *];done)
    | (simp_all [Kz,Ak,Aw];done)
    | skip
   skip
  ·intro hF2 hlt2
   simp only [go_sem,hlt2,decide_false]
   repeat' (first
    | ((first|apply cS|apply gS)<;>(intro hc;simp only [go_sem,hc])))
   all_goals first
    | rfl
    | (simp only [Kz,Ak,Aw];rfl)
    | grind [Kz]
    | (simp only [Kz,Ak,Aw];grind)
    | (simp [Kz,Ak,Aw, *];done)
    | (simp_all [Kz,Ak,Aw];done)
    | skip
   skip
theorem AY1 : ∀ x y:Pred,DR AA 322 [.agg x.c,.agg y.c] (.bool (rY x y)):=by
 refine IK _ λx ih=>λy=>?_
 refine DR.fit zU.c λhf=>?_
 have hl:=Jv (Q1 hf)
 refine pC zU rfl ?_
 simp only [f322,go_sem,By]
 repeat' (first
  | ((first|apply cS|apply gS)<;>(intro hc;simp only [go_sem,hc,By])))
 all_goals first
  | rfl
  | (simp only [Ha];rfl)
  | grind [Ha]
  | (simp only [Ha];grind)
  | (simp [Ha, *];done)
  | (simp_all [Ha];done)
  | skip
 have hll:x.args.length=y.args.length:=by grind
 refine EP x.args (λr=>Tp r (y.args.drop (x.args.length - r.length))) (λk=>[(2,.ptr 0 0),(3,.ptr 1 0),(5,.int .i64 k)]) hl rfl ?_ ?_
 ·intro k z zs hd hx hF h0 h1 hw
  have hk:=Eb hd
  obtain ⟨w,hy⟩ : ∃ w,y.args[k]? =some w:=⟨_,AL DF⟩
  have e1:x.args.length - (z::zs).length=k:=by simp;omega
  have e2:x.args.length - zs.length=k+1:=DF
  have e3:y.args.drop k=w::y.args.drop (k+1):=by rw [BJ DF];congr 1;grind
  have h2:(k:Int)<(y.args.length:Int):=DF
  rw [e1,e3,AQ,BN,Hn] at hF
  have hm:=AB hx
  simp only [go_sem,h0,h1,h2,Ea hx,Ea hy,e1,e2,e3]
  repeat' (first
   | (refine pK (ih _ hm _) ?_;simp only [go_sem,h0,h1,h2,hw,Ea hx,Ea hy,e1,e2,e3])
   | ((first|apply cS|apply gS)<;>(intro hc;simp only [go_sem,hc,h0,h1,h2,hw,Ea hx,Ea hy,e1,e2,e3])))
  all_goals first
   | rfl
   | (simp only [Ha,Hn,hF];rfl)
   | grind [Ha,Hn]
   | (simp only [Ha,Hn,hF];grind)
   | (simp [Ha,Hn,hF, *];done)
   | (simp_all [Ha,Hn,hF];done)
   | skip
 ·intro hF hlt
  simp only [go_sem,hlt,decide_false]
  all_goals first
   | rfl
   | (simp only [Ha,K0];rfl)
   | grind [Ha,K0]
   | (simp only [Ha,K0];grind)
   | (simp [Ha,K0, *];done)
   | (simp_all [Ha,K0];done)
   | skip
theorem AY0(x y:Stp):DR AA 323 [.agg x.c,.agg y.c] (.bool (cY x y)):=by
 refine DR.fit zT.c λhf=>?_
 have hl:=jb (Q1 hf)
 refine pC zT rfl ?_
 simp only [f323,go_sem,By]
 repeat' (first
  | ((first|apply cS|apply gS)<;>(intro hc;simp only [go_sem,hc,By])))
 all_goals first
  | rfl
  | (simp only [cY];rfl)
  | grind [cY]
  | (simp only [cY];grind)
  | (simp [cY, *];done)
  | (simp_all [cY];done)
  | skip
 have hll:x.key.length=y.key.length:=by grind
 refine EP x.key (λr=>Np r (y.key.drop (x.key.length - r.length))) (λk=>[(2,.ptr 0 0),(3,.ptr 1 0),(5,.int .i64 k)]) hl rfl ?_ ?_
 ·intro k z zs hd hx hF h0 h1 hw
  have hk:=Eb hd
  obtain ⟨w,hy⟩ : ∃ w,y.key[k]? =some w:=⟨_,AL DF⟩
  have e1:x.key.length - (z::zs).length=k:=by simp;omega
  have e2:x.key.length - zs.length=k+1:=DF
  have e3:y.key.drop k=w::y.key.drop (k+1):=by rw [BJ DF];congr 1;grind
  have h2:(k:Int)<(y.key.length:Int):=DF
  rw [e1,e3,AQ,BN,Ih] at hF
  have hm:=AB hx
  simp only [go_sem,h0,h1,h2,Ei hx,Ei hy,e1,e2,e3,By]
  repeat' (first
   | ((first|apply cS|apply gS)<;>(intro hc;simp only [go_sem,hc,h0,h1,h2,hw,Ei hx,Ei hy,e1,e2,e3,By])))
  all_goals first
   | rfl
   | (simp only [cY,Ih,hF];rfl)
   | grind [cY,Ih]
   | (simp only [cY,Ih,hF];grind)
   | (simp [cY,Ih,hF, *];done)
   | (simp_all [cY,Ih,hF];done)
   | skip
 ·intro hF hlt
  simp only [go_sem,hlt,decide_false]
  all_goals first
   | rfl
   | (simp only [cY,Kx];rfl)
   | grind [cY,Kx]
   | (simp only [cY,Kx];grind)
   | (simp [cY,Kx, *];done)
   | (simp_all [cY,Kx];done)
   | skip
set_option maxHeartbeats 8000000 in
theorem AFH : ∀ x:Pred,DT x.c<=1073741824->DR AA 282 [.agg x.c] (.bool (MP x)):=by
 refine IK _ λx ih=>λhb=>?_
 have hl:x.args.length<=9223372036854775807:=AK (VO (Hs hb)) dc
 refine pC AIQ rfl ?_
 simp only [f282,go_sem,By]
 repeat' (first
  | (refine pK (UX _ (PS hb)) ?_;simp only [go_sem,By])
  | ((first|apply cS|apply gS)<;>(intro hc;simp only [go_sem,hc,By])))
 all_goals first
  | rfl
  | (simp only [GO,R1,IF,MO];rfl)
  | grind [GO,R1,IF,MO]
  | (simp only [GO,R1,IF,MO];grind)
  | (simp [GO,R1,IF,MO, *];done)
  | (simp_all [GO,R1,IF,MO];done)
  | skip
 all_goals
  have ho:((R1 x).1&&x.args.length==(R1 x).2)=true:=by grind [R1,IF,MO]
  refine EP x.args (λr=>Vt r) (λk=>[(1,.ptr 0 0),(6,.int .i64 x.args.length),(8,.int .i64 k)]) hl (by grind) ?_ ?_
  ·intro k y ys hd hx hF h0 h1 hw
   have hm:=AB hx
   have hby:DT y.c<=1073741824:=by have:=VP (Hs hb) hm;simpa only [AV.bulk] using this
   simp only [go_sem,h0,h1,Ea hx]
   repeat' (first
    | (refine pK (ih _ hm hby) ?_;simp only [go_sem,h0,h1,hw,Ea hx])
    | ((first|apply cS|apply gS)<;>(intro hc;simp only [go_sem,hc,h0,h1,hw,Ea hx])))
   ·rw [GO,ho,hF,Jb]
    simp only [BX] at hc
    rw [hc];rfl
   ·rw [Jb]
    simp only [CW] at hc
    rw [hc];rfl
  ·intro hF hlt
   simp only [go_sem,hlt,decide_false]
   rw [GO,ho,hF,GN];rfl
set_option maxHeartbeats 8000000 in
theorem AYz : ∀ x:Policy,DT x.c<=1073741824->DR AA 281 [.agg x.c] (.bool (Qz x)):=by
 refine GR _ λx ih=>λhb=>?_
 have hl:x.args.length<=9223372036854775807:=AK (Pn (Gt hb)) dc
 refine pC AIU rfl ?_
 simp only [f281,go_sem,By]
 repeat' (first
  | ((first|refine pK (UX _ (NC hb)) ?_|refine pK (DR.lend (AY1 x.pred Pred.z)) ?_|refine pK (AFH _ (LB hb)) ?_);simp only [go_sem,By])
  | ((first|apply cS|apply gS)<;>(intro hc;simp only [go_sem,hc,By])))
 all_goals first
  | rfl
  | (simp only [G7,U7,MO];rfl)
  | grind [G7,U7,MO]
  | (simp only [G7,U7,MO];grind)
  | (simp [G7,U7,MO, *];done)
  | (simp_all [G7,U7,MO];done)
  | skip
 all_goals
  have ho:((U7 x).1&&x.args.length==(U7 x).2)=true:=by grind [U7,MO]
  refine EP x.args (λr=>Vu r) (λk=>[(1,.ptr 0 0),(6,.int .i64 x.args.length),(8,.int .i64 k)]) hl (by grind) ?_ ?_
  ·intro k y ys hd hx hF h0 h1 hw
   have hm:=AB hx
   have hby:DT y.c<=1073741824:=by have:=Po (Gt hb) hm;simpa only [AV.bulk] using this
   simp only [go_sem,h0,h1,EQ hx]
   repeat' (first
    | (refine pK (ih _ hm hby) ?_;simp only [go_sem,h0,h1,hw,EQ hx])
    | ((first|apply cS|apply gS)<;>(intro hc;simp only [go_sem,hc,h0,h1,hw,EQ hx])))
   ·rw [G7,ho,hF,Jc]
    simp only [BX] at hc
    rw [hc];rfl
   ·rw [Jc]
    simp only [CW] at hc
    rw [hc];rfl
  ·intro hF hlt
   simp only [go_sem,hlt,decide_false]
   rw [G7,ho,hF,HY];rfl
set_option maxHeartbeats 8000000 in
theorem AYy : ∀ x:Regex,DT x.c<=1073741824->DR AA 275 [.agg x.c] (.bool (fmR x)):=by
 refine Sg _ λx ih=>λhb=>?_
 have hl:x.args.length<=9223372036854775807:=AK (tx (PR hb)) dc
 refine pC AIq rfl ?_
 simp only [f275,go_sem,By]
 repeat' (first
  | (refine pK (aq _ (X8 hb)) ?_;simp only [go_sem,By])
  | ((first|apply cS|apply gS)<;>(intro hc;simp only [go_sem,hc,By])))
 all_goals first
  | rfl
  | (simp only [Pz,wV];rfl)
  | grind [Pz,wV]
  | (simp only [Pz,wV];grind)
  | (simp [Pz,wV, *];done)
  | (simp_all [Pz,wV];done)
  | skip
 all_goals
  have ho:((wV x).1&&x.args.length==(wV x).2)=true:=by grind [wV]
  refine EP x.args (λr=>aX r) (λk=>[(1,.ptr 0 0),(4,.int .i64 x.args.length),(6,.int .i64 k)]) hl (by grind) ?_ ?_
  ·intro k y ys hd hx hF h0 h1 hw
   have hm:=AB hx
   have hby:DT y.c<=1073741824:=by have:=tz (PR hb) hm;simpa only [AV.bulk] using this
   simp only [go_sem,h0,h1,G5 hx]
   repeat' (first
    | (refine pK (ih _ hm hby) ?_;simp only [go_sem,h0,h1,hw,G5 hx])
    | ((first|apply cS|apply gS)<;>(intro hc;simp only [go_sem,hc,h0,h1,hw,G5 hx])))
   ·rw [Pz,ho,hF,Y4]
    simp only [BX] at hc
    rw [hc];rfl
   ·rw [Y4]
    simp only [CW] at hc
    rw [hc];rfl
  ·intro hF hlt
   simp only [go_sem,hlt,decide_false]
   rw [Pz,ho,hF,z7];rfl
theorem ADt(z:Sizes):DR AA 315 [.agg z.c] (.int .i64 (Pk z)):=by
 refine pC AHn rfl ?_
 simp only [f315,go_sem]
 repeat' (first
  | ((first|apply cS|apply gS)<;>(intro hc;simp only [go_sem,hc])))
 all_goals first
  | rfl
  | (simp only [Pk];rfl)
  | grind [Pk]
  | (simp only [Pk];grind)
  | (simp [Pk, *];done)
  | (simp_all [Pk];done)
  | skip
theorem WF(z:Sizes)(b:Bool):DR AA 274 [.agg z.c,.bool b] (.int .i64 (rU z b)):=by
 refine pC AIt rfl ?_
 simp only [f274,go_sem]
 repeat' (first
  | (refine pK (ADt _) ?_;simp only [go_sem])
  | ((first|apply cS|apply gS)<;>(intro hc;simp only [go_sem,hc])))
 all_goals first
  | rfl
  | (simp only [rU];rfl)
  | grind [rU]
  | (simp only [rU];grind)
  | (simp [rU, *];done)
  | (simp_all [rU];done)
  | skip
theorem AY4(x:Pred)(hb:DT x.c<=1073741824):DR AA 225 [.agg x.c] (.int .i64 (ckP x)):=by
 refine pC AJ3 rfl ?_
 simp only [f225,go_sem]
 repeat' (first
  | ((first|refine pK (rn _) ?_|refine pK (AFH _ hb) ?_|refine pK (WF _ _) ?_);simp only [go_sem])
  | ((first|apply cS|apply gS)<;>(intro hc;simp only [go_sem,hc])))
 all_goals first
  | rfl
  | (simp only [ckP];rfl)
  | grind [ckP]
  | (simp only [ckP];grind)
  | (simp [ckP, *];done)
  | (simp_all [ckP];done)
  | skip
theorem AAn(x:Policy)(hb:DT x.c<=1073741824):DR AA 224 [.agg x.c] (.int .i64 (UW x)):=by
 refine pC AJ6 rfl ?_
 simp only [f224,go_sem]
 repeat' (first
  | ((first|refine pK (AFF _) ?_|refine pK (AYz _ hb) ?_|refine pK (WF _ _) ?_);simp only [go_sem])
  | ((first|apply cS|apply gS)<;>(intro hc;simp only [go_sem,hc])))
 all_goals first
  | rfl
  | (simp only [UW];rfl)
  | grind [UW]
  | (simp only [UW];grind)
  | (simp [UW, *];done)
  | (simp_all [UW];done)
  | skip
theorem AY3(x:Regex)(hb:DT x.c<=1073741824):DR AA 220 [.agg x.c] (.int .i64 (ckR x)):=by
 refine pC AKH rfl ?_
 simp only [f220,go_sem]
 repeat' (first
  | ((first|refine pK (AFE _) ?_|refine pK (AYy _ hb) ?_|refine pK (WF _ _) ?_);simp only [go_sem])
  | ((first|apply cS|apply gS)<;>(intro hc;simp only [go_sem,hc])))
 all_goals first
  | rfl
  | (simp only [ckR];rfl)
  | grind [ckR]
  | (simp only [ckR];grind)
  | (simp [ckR, *];done)
  | (simp_all [ckR];done)
  | skip
set_option maxHeartbeats 8000000 in
theorem AYx(x:Stp)(hb:DT x.c<=1073741824):DR AA 285 [.agg x.c] (.bool (Y3 x)):=by
 have hl:x.key.length<=9223372036854775807:=AK (UN (K8 hb)) dc
 refine pC AIG rfl ?_
 simp only [f285,go_sem,By]
 repeat' (first
  | ((first|refine pK (DR.lend (AY0 x Stp.z)) ?_|refine pK (aq _ (qL hb)) ?_);simp only [go_sem,By])
  | ((first|apply cS|apply gS)<;>(intro hc;simp only [go_sem,hc,By])))
 all_goals first
  | rfl
  | (simp only [Y3];rfl)
  | grind [Y3]
  | (simp only [Y3];grind)
  | (simp [Y3, *];done)
  | (simp_all [Y3];done)
  | skip
 refine EP x.key (λr=>r.all UR) (λk=>[(1,.ptr 0 0),(5,.int .i64 k)]) hl rfl ?_ ?_
 ·intro k y ys hd hx hF h0 h1 hw
  have hm:=AB hx
  have hby:y.size<=1073741824:=by have:=ADD (K8 hb) hm;simp only [AV.bulk] at this;omega
  simp only [go_sem,h0,h1,Ei hx]
  repeat' (first
   | (refine pK (UX _ hby) ?_;simp only [go_sem,h0,h1,hw,Ei hx])
   | ((first|apply cS|apply gS)<;>(intro hc;simp only [go_sem,hc,h0,h1,hw,Ei hx])))
  all_goals first
   | rfl
   | (simp only [Y3,Ak];rfl)
   | grind [Y3]
   | (simp only [Y3,Ak];grind)
   | (simp [Y3,Ak, *];done)
   | (simp_all [Y3,Ak];done)
   | skip
 ·intro hF hlt
  simp only [go_sem,hlt,decide_false]
  repeat' (first
   | (refine pK (UX _ (bR hb)) ?_;simp only [go_sem,By])
   | ((first|apply cS|apply gS)<;>(intro hc;simp only [go_sem,hc,By])))
  all_goals first
   | rfl
   | (simp only [Y3,Aw];rfl)
   | grind [Y3]
   | (simp only [Y3,Aw];grind)
   | (simp [Y3,Aw, *];done)
   | (simp_all [Y3,Aw];done)
   | skip
theorem AFJ(x:Stp)(hb:DT x.c<=1073741824):DR AA 227 [.agg x.c] (.int .i64 (cZ x)):=by
 refine pC AJx rfl ?_
 simp only [f227,go_sem]
 repeat' (first
  | (refine pK (AYx _ hb) ?_;simp only [go_sem])
  | ((first|apply cS|apply gS)<;>(intro hc;simp only [go_sem,hc])))
 all_goals first
  | rfl
  | (simp only [cZ];rfl)
  | grind [cZ]
  | (simp only [cZ];grind)
  | (simp [cZ, *];done)
  | (simp_all [cZ];done)
  | skip
theorem AY5(x:List Stage)(hb:DT (Es x)<=1073741824):DR AA 168 [.sl none (Es x)] (.int .i64 (W2 x)):=by
 have hl:x.length<=9223372036854775807:=AK (Lx hb) dc
 refine pC AMV rfl ?_
 simp only [f168,go_sem]
 repeat' (first
  | ((first|apply cS|apply gS)<;>(intro hc;simp only [go_sem,hc])))
 all_goals first
  | rfl
  | (simp only [W2];rfl)
  | grind [W2]
  | (simp only [W2];grind)
  | (simp [W2, *];done)
  | (simp_all [W2];done)
  | skip
 refine EP x (λr=>O3 r) (λk=>[(0,.sl none (Es x)),(3,.int .i64 k)]) hl rfl ?_ ?_
 ·intro k y ys hd hx hF h0 h1 hw
  have hm:=AB hx
  have hby:DT y.c<=1073741824:=by have:=JU hb hm;simpa only [AV.bulk] using this
  simp only [go_sem,h0,h1,EU hx]
  repeat' (first
   | ((first|refine pK (AAn _ (GW hby)) ?_|refine pK (AFJ _ (Ju hby)) ?_);simp only [go_sem,h0,h1,hw,EU hx])
   | ((first|apply cS|apply gS)<;>(intro hc;simp only [go_sem,hc,h0,h1,hw,EU hx])))
  all_goals first
   | rfl
   | (simp only [W2,O3];rfl)
   | grind [W2,O3]
   | (simp only [W2,O3];grind)
   | (simp [W2,O3, *];done)
   | (simp_all [W2,O3];done)
   | skip
 ·intro hF hlt
  simp only [go_sem,hlt,decide_false]
  all_goals first
   | rfl
   | (simp only [W2,O3];rfl)
   | grind [W2,O3]
   | (simp only [W2,O3];grind)
   | (simp [W2,O3, *];done)
   | (simp_all [W2,O3];done)
   | skip
theorem AD1:DR AA 286 [] (.agg IO.c):=by
 have h:DR AA 286 [] (.agg IO.c):=DR.run AAM 100 rfl kr kr
 exact h
theorem P2(l:List Fld)(s:ByteArray):DR AA 229 [.sl none (E8 l),.str s] (.tup [.agg (EO l s).1.c,.bool (EO l s).2]):=by
 refine DR.fit zb.c λhf=>?_
 have hl:=fits hf
 rw [Qf] at hl
 refine pB zb rfl ?_
 simp only [f229,go_sem,By]
 repeat' (first
  | (refine pK (AD1) ?_;simp only [go_sem,By])
  | ((first|apply cS|apply gS)<;>(intro hc;simp only [go_sem,hc,By])))
 all_goals first
  | rfl
  | (simp only [EO,Eu];rfl)
  | grind [EO,Eu]
  | (simp only [EO,Eu];grind)
  | (simp [EO,Eu, *];done)
  | (simp_all [EO,Eu];done)
  | skip
 ·refine EP l (λr=>r.find? (λf=>decide (f.name=s))) (λk=>[(0,.sl none (E8 l)),(1,.str s),(4,.ptr 0 0),(6,.int .i64 k)]) hl rfl ?_ ?_
  ·intro k y ys hd hx hF h0 h1 hw
   simp only [go_sem,h0,h1,FP hx,By]
   repeat' (first
    | ((first|apply cS|apply gS)<;>(intro hc;simp only [go_sem,hc,h0,h1,hw,FP hx,By])))
   all_goals first
    | rfl
    | (simp only [EO,Eu];rfl)
    | grind [EO,Eu]
    | (simp only [EO,Eu];grind)
    | (simp [EO,Eu, *];done)
    | (simp_all [EO,Eu];done)
    | skip
  ·intro hF hlt
   simp only [go_sem,hlt,decide_false]
   all_goals first
    | rfl
    | (simp only [EO,Eu];rfl)
    | grind [EO,Eu]
    | (simp only [EO,Eu];grind)
    | (simp [EO,Eu, *];done)
    | (simp_all [EO,Eu];done)
    | skip
theorem ADq(n:Int)(hn:n<9223372036854775807):DR AA 287 [.int .i64 n] (.int .i64 (W8 n.toNat)):=by
 refine pC AIC rfl ?_
 simp only [f287,go_sem]
 refine bC n.toNat (λk=>[(0,.int .i64 n),(3,.int .i64 (W8 k)),(4,.int .i64 k)]) (λ_=>[]) rfl rfl ?_
 intro k hk
 by_cases h:(k:Int)<n
 ·have hw:=Ln (k:=k) DF
  simp only [go_sem,h,decide_true,hw]
  exact ⟨DF,rfl,rfl⟩
 ·have:k=n.toNat:=DF
  subst this
  simp only [go_sem,h,decide_false]
theorem ap(f:Fld)(hn:f.width<9223372036854775807):DR AA 230 [.agg f.c] (.int .i64 (JT f)):=by
 refine pC AJp rfl ?_
 simp only [f230,go_sem]
 repeat' (first
  | (refine pK (ADq _ hn) ?_;simp only [go_sem])
  | ((first|apply cS|apply gS)<;>(intro hc;simp only [go_sem,hc])))
 all_goals first
  | rfl
  | (simp only [JT];rfl)
  | grind [JT]
  | (simp only [JT];grind)
  | (simp [JT, *];done)
  | (simp_all [JT];done)
  | skip
theorem AQt : ∀ x:Pred,DT x.c<=1073741824->DR AA 283 [.agg x.c] (.sl none (Ez (Rq x))):=by
 refine IK _ λx ih=>λhb=>?_
 have hl:x.args.length<=9223372036854775807:=AK (VO (Hs hb)) dc
 have hn:=AK (dY x) hb
 refine pB AIM rfl ?_
 simp only [f283,go_sem]
 refine Ed x.args (λo l=>o++Ls l) (λ_ _=>True) (λk o=>[(1,.ptr 0 0),(3,.sl (some 5) (Ez o)),(4,.int .i64 k)]) (λk o=>[some x.c]) [x] hl trivial (by rw [GG];rfl) rfl ?_ ?_
 ·intro k o y ys hd hx _ hF h0 h1 hw
  have hm:=AB hx
  have hby:DT y.c<=1073741824:=by have:=VP (Hs hb) hm;simpa only [AV.bulk] using this
  have hlen:o.length+(Rq y).length<=1073741824:=by
   have:=congrArg List.length hF
   rw [IV] at this
   rw [KW] at hn
   simp at this hn
   omega
  simp only [go_sem,h0,h1,Ea hx]
  repeat' (first
   | (refine pK (ih _ hm hby) ?_;simp only [go_sem,h0,h1,hw,Ea hx])
   | ((first|apply cS|apply gS)<;>(intro hc;simp only [go_sem,hc,h0,h1,hw,Ea hx])))
  exact ⟨DF,DF,o++Rq y,by rw [IV,AF],rfl,rfl⟩
 ·intro o _ hF
  simp only [go_sem,AX,decide_false]
  rw [KW]
  simp only [Kg,Ah] at hF
  rw [<- hF];rfl
theorem AAb : ∀ x:Policy,DT x.c<=1073741824->DR AA 228 [.agg x.c] (.sl none (Em (Lt x))):=by
 refine GR _ λx ih=>λhb=>?_
 have hl:x.args.length<=9223372036854775807:=AK (Pn (Gt hb)) dc
 have hn:=AK (QT x) hb
 refine pB AJu rfl ?_
 simp only [f228,go_sem]
 refine Ed x.args (λo l=>o++LK l) (λ_ _=>True) (λk o=>[(1,.ptr 0 0),(3,.sl (some 9) (Em o)),(4,.int .i64 k)]) (λk o=>[some x.c]) [x] hl trivial (by rw [FO];rfl) rfl ?_ ?_
 ·intro k o y ys hd hx _ hF h0 h1 hw
  have hm:=AB hx
  have hby:DT y.c<=1073741824:=by have:=Po (Gt hb) hm;simpa only [AV.bulk] using this
  have hlen:o.length+(Lt y).length<=1073741824:=by
   have:=congrArg List.length hF
   rw [HT] at this
   rw [Jo] at hn
   simp at this hn
   omega
  simp only [go_sem,h0,h1,EQ hx]
  repeat' (first
   | (refine pK (ih _ hm hby) ?_;simp only [go_sem,h0,h1,hw,EQ hx])
   | ((first|apply cS|apply gS)<;>(intro hc;simp only [go_sem,hc,h0,h1,hw,EQ hx])))
  exact ⟨DF,DF,o++Lt y,by rw [HT,AF],rfl,rfl⟩
 ·intro o _ hF
  simp only [go_sem,AX,decide_false]
  rw [Jo]
  simp only [JO,Ah] at hF
  rw [<- hF];rfl
theorem AQu(l:List Fld)(x:Pred)(hl : ∀ f∈l,f.width<=9000000000000000000):DR AA 284 [.sl none (E8 l),.agg x.c] (.int .i64 (O1 l x)):=by
 have hw:(EO l x.field).1.width<9223372036854775807:=by
  unfold EO
  split
  ·decide
  ·split
   ·rename_i f hf
    have:=hl f (DG hf)
    show f.width<_
    omega
   ·decide
 refine pC AIJ rfl ?_
 simp only [f284,go_sem]
 repeat' (first
  | ((first|refine pK (P2 _ _) ?_|refine pK (ap _ hw) ?_);simp only [go_sem])
  | ((first|apply cS|apply gS)<;>(intro hc;simp only [go_sem,hc])))
 all_goals first
  | rfl
  | (simp only [O1];rfl)
  | grind [O1]
  | (simp only [O1];grind)
  | (simp [O1, *];done)
  | (simp_all [O1];done)
  | skip
theorem AAh(l:List Fld)(x:Pred)(hl : ∀ f∈l,f.width<=9000000000000000000)(hb:DT x.c<=1073741824):DR AA 226 [.sl none (E8 l),.agg x.c] (.int .i64 (Q0 l x)):=by
 have hn:=AK (dY x) hb
 refine pC AJ0 rfl ?_
 simp only [f226,go_sem]
 repeat' (first
  | (refine pK (AQt _ hb) ?_;simp only [go_sem])
  | ((first|apply cS|apply gS)<;>(intro hc;simp only [go_sem,hc])))
 refine EP (Rq x) (λr=>KP l r) (λk=>[(0,.sl none (E8 l)),(5,.sl none (Ez (Rq x))),(6,.int .i64 k)]) DF rfl ?_ ?_
 ·intro k y ys hd hx hF h0 h1 hw
  simp only [go_sem,h0,h1,Ea hx]
  repeat' (first
   | (refine pK (AQu _ _ hl) ?_;simp only [go_sem,h0,h1,hw,Ea hx])
   | ((first|apply cS|apply gS)<;>(intro hc;simp only [go_sem,hc,h0,h1,hw,Ea hx])))
  all_goals first
   | rfl
   | (simp only [Q0,KP];rfl)
   | grind [Q0,KP]
   | (simp only [Q0,KP];grind)
   | (simp [Q0,KP, *];done)
   | (simp_all [Q0,KP];done)
   | skip
 ·intro hF hlt
  simp only [go_sem,hlt,decide_false]
  all_goals first
   | rfl
   | (simp only [Q0,KP];rfl)
   | grind [Q0,KP]
   | (simp only [Q0,KP];grind)
   | (simp [Q0,KP, *];done)
   | (simp_all [Q0,KP];done)
   | skip
abbrev wW(l:List Fld):Prop:=∀ f∈l,f.width<=9000000000000000000
theorem aZ{l:List Fld}(hl:wW l)(s:ByteArray):(EO l s).1.width<9223372036854775807:=by
 unfold EO
 split
 ·decide
 ·split
  ·rename_i f hf
   have:=hl f (DG hf)
   show f.width<_
   omega
  ·decide
theorem AAe(s:Stp):DR AA 179 [.agg s.c] (.bool (Ks s)):=by
 refine pC ALq rfl ?_
 simp only [f179,go_sem]
 repeat' (first
  | ((first|apply cS|apply gS)<;>(intro hc;simp only [go_sem,hc])))
 all_goals first
  | rfl
  | (simp only [Ks];rfl)
  | grind [Ks]
  | (simp only [Ks];grind)
  | (simp [Ks, *];done)
  | (simp_all [Ks];done)
  | skip
theorem AAk(k:Int):DR AA 177 [.int .i64 k] (.int .i64 (KY k)):=by
 refine pC ALx rfl ?_
 simp only [f177,go_sem]
 repeat' (first
  | ((first|apply cS|apply gS)<;>(intro hc;simp only [go_sem,hc])))
 all_goals first
  | rfl
  | (simp only [KY];rfl)
  | grind [KY]
  | (simp only [KY];grind)
  | (simp [KY, *];done)
  | (simp_all [KY];done)
  | skip
theorem pQ(l:List Fld)(key:List ByteArray)(hk:key.length<=1073741824):DR AA 178 [.sl none (E8 l),.sl none (Fq key)] (.sl none (E4 (Hh l key))):=by
 refine pB ALu rfl ?_
 simp only [f178,go_sem]
 refine Ed key (λo r=>o++Hh l r) (λk o=>o.length=k) (λk o=>[(0,.sl none (E8 l)),(1,.sl none (Fq key)),(5,.sl (some 1) (E4 o)),(6,.int .i64 k)]) (λk o=>[]) [] DF rfl rfl rfl ?_ ?_
 ·intro k o y ys hd hx hI hF h0 h1 hw
  have hk2:=Eb hd
  simp only [go_sem,h0,h1,Ei hx]
  repeat' (first
   | (refine pK (P2 _ _) ?_;simp only [go_sem,h0,h1,hw,Ei hx])
   | ((first|apply cS|apply gS)<;>(intro hc;simp only [go_sem,hc,h0,h1,hw,Ei hx])))
  exact ⟨DF,DF,o++[(EO l y).1.width],by simp [Hh],by simp [hI],rfl,rfl⟩
 ·intro o hI hF
  simp only [go_sem,AX,decide_false]
  simp only [Hh,List.map_nil,Ah,AN] at hF
  rw [Hh,hF]
theorem AY2(a b:List Int):DR AA 231 [.sl none (E4 a),.sl none (E4 b)] (.bool (Xe a b)):=by
 refine DR.fit za.c λhf=>?_
 have hl:=fits hf
 rw [F6] at hl
 refine pC za rfl ?_
 simp only [f231,go_sem]
 repeat' (first
  | ((first|apply cS|apply gS)<;>(intro hc;simp only [go_sem,hc])))
 all_goals first
  | rfl
  | (simp only [Xe];rfl)
  | grind [Xe]
  | (simp only [Xe];grind)
  | (simp [Xe, *];done)
  | (simp_all [Xe];done)
  | skip
 have hll:a.length=b.length:=by grind
 refine EP a (λr=>decide (r=b.drop (a.length - r.length))) (λk=>[(0,.sl none (E4 a)),(1,.sl none (E4 b)),(5,.int .i64 k)]) hl rfl ?_ ?_
 ·intro k z zs hd hx hF h0 h1 hw
  have hk:=Eb hd
  obtain ⟨w,hy⟩ : ∃ w,b[k]? =some w:=⟨_,AL DF⟩
  have e1:a.length - (zs.length+1)=k:=DF
  have e2:a.length - zs.length=k+1:=DF
  have e3:b.drop k=w::b.drop (k+1):=by rw [BJ DF];congr 1;grind
  have h2:(k:Int)<(b.length:Int):=DF
  simp only [AC,e1,AQ,BN,e3] at hF
  simp only [go_sem,h0,h1,h2,E1 hx,E1 hy,e1,e2,e3]
  repeat' (first
   | ((first|apply cS|apply gS)<;>(intro hc;simp only [go_sem,hc,h0,h1,h2,hw,E1 hx,E1 hy,e1,e2,e3])))
  all_goals first
   | rfl
   | (simp only [Xe,hF,List.cons.injEq];rfl)
   | grind [Xe,List.cons.injEq]
   | (simp only [Xe,hF,List.cons.injEq];grind)
   | (simp [Xe,hF,List.cons.injEq, *];done)
   | (simp_all [Xe,hF,List.cons.injEq];done)
   | skip
 ·intro hF hlt
  simp only [go_sem,hlt,decide_false]
  simp only [AQ,BN,List.length_nil,Nat.sub_zero] at hF
  have h3:b.drop a.length=[]:=by rw [hll];simp
  simp only [h3] at hF
  rw [Xe,hF];rfl
theorem AQ6(l:List Fld)(s t:Stp)(h1:s.key.length<=1073741824)(h2:t.key.length<=1073741824):DR AA 171 [.sl none (E8 l),.agg s.c,.agg t.c] (.bool (Tv l s t)):=by
 refine pC AMG rfl ?_
 simp only [f171,go_sem]
 repeat' (first
  | ((first|refine pK (AAe _) ?_|refine pK (pQ _ _ h1) ?_|refine pK (pQ _ _ h2) ?_|refine pK (AY2 _ _) ?_|refine pK (AAk _) ?_);simp only [go_sem])
  | ((first|apply cS|apply gS)<;>(intro hc;simp only [go_sem,hc])))
 all_goals first
  | rfl
  | (simp only [Tv];rfl)
  | grind [Tv]
  | (simp only [Tv];grind)
  | (simp [Tv, *];done)
  | (simp_all [Tv];done)
  | skip
theorem AAm(l:List Fld)(x:Pred)(hl:wW l)(hb:DT x.c<=1073741824):DR AA 167 [.sl none (E8 l),.agg x.c] (.int .i64 (Tq l x)):=by
 refine pC AMY rfl ?_
 simp only [f167,go_sem]
 repeat' (first
  | ((first|refine pK (AY4 _ hb) ?_|refine pK (AAh _ _ hl hb) ?_);simp only [go_sem])
  | ((first|apply cS|apply gS)<;>(intro hc;simp only [go_sem,hc])))
 all_goals first
  | rfl
  | (simp only [Tq];rfl)
  | grind [Tq]
  | (simp only [Tq];grind)
  | (simp [Tq, *];done)
  | (simp_all [Tq];done)
  | skip
theorem AQ1(l:List Fld)(x:Policy)(hl:wW l)(hb:DT x.c<=1073741824):DR AA 169 [.sl none (E8 l),.agg x.c] (.int .i64 (Jh l x)):=by
 have hn:=AK (QT x) hb
 refine pC AMR rfl ?_
 simp only [f169,go_sem]
 repeat' (first
  | ((first|refine pK (AAn _ hb) ?_|refine pK (AAb _ hb) ?_);simp only [go_sem])
  | ((first|apply cS|apply gS)<;>(intro hc;simp only [go_sem,hc])))
 all_goals first
  | rfl
  | (simp only [Jh];rfl)
  | grind [Jh]
  | (simp only [Jh];grind)
  | (simp [Jh, *];done)
  | (simp_all [Jh];done)
  | skip
 refine EP (Lt x) (λr=>KM l r) (λk=>[(0,.sl none (E8 l)),(5,.int .i64 0),(6,.sl none (Em (Lt x))),(7,.int .i64 k)]) DF (by grind) ?_ ?_
 ·intro k y ys hd hx hF h0 h1 hw
  have hm:=AB hx
  have hby:=AK (sy x y hm) hb
  simp only [go_sem,h0,h1,EQ hx]
  repeat' (first
   | ((first|refine pK (AAh _ _ hl (LB hby)) ?_|refine pK (P2 _ _) ?_|refine pK (ap _ (aZ hl _)) ?_);simp only [go_sem,h0,h1,hw,EQ hx])
   | ((first|apply cS|apply gS)<;>(intro hc;simp only [go_sem,hc,h0,h1,hw,EQ hx])))
  all_goals first
   | rfl
   | (simp only [Jh,KM,QU,At];rfl)
   | grind [Jh,KM,QU,At]
   | (simp only [Jh,KM,QU,At];grind)
   | (simp [Jh,KM,QU,At, *];done)
   | (simp_all [Jh,KM,QU,At];done)
   | skip
 ·intro hF hlt
  simp only [go_sem,hlt,decide_false]
  all_goals first
   | rfl
   | (simp only [Jh,KM];rfl)
   | grind [Jh,KM]
   | (simp only [Jh,KM];grind)
   | (simp [Jh,KM, *];done)
   | (simp_all [Jh,KM];done)
   | skip
theorem H8{α:Type}{l:List α}{i k:Nat}{x:α}(h:(l.take i)[k]? =some x):l[k]? =some x:=by
 rw [Aj] at h
 split at h
 ·exact h
 ·cases h
theorem Io{α:Type}{l:List α}{i:Nat}(h:i<=l.length):(l.take i).length=i:=by simp;omega
set_option maxHeartbeats 2000000 in
theorem AQ0(l:List Fld)(s:Stp)(hl:wW l)(hb:DT s.c<=1073741824):DR AA 170 [.sl none (E8 l),.agg s.c] (.int .i64 (LG l s)) := by
  have hk:s.key.length<=1073741824 := UN (K8 hb)
  have g0:s.key.length*16<=140737488355328 := by omega
  have g1:s.key.length<=9223372036854775807 := by omega
  have g2:(s.key.length+1)*16<=140737488355328 := by omega
  have g3:s.key.length<=9223372036854775806 := by omega
  refine pC AML rfl ?_
  simp only [f170,go_sem,By]
  repeat' (first
    | (refine pK (AFJ _ hb) ?_;simp only [go_sem,By,g0,g1,g2,g3])
    | ((first|apply cS|apply gS)<;>(intro hc;simp only [go_sem,hc,By,g0,g1,g2,g3])))
  all_goals first
    | rfl
    | (simp only [LG];rfl)
    | grind [LG]
    | (simp only [LG];grind)
    | (simp [LG, *];done)
    | (simp_all [LG];done)
    | skip
  · have hnm:Is s=s.key++[s.field] := by grind [Is]
    have hnl:(s.key++[s.field]).length<=1073741825 := by first|omega|(simp;omega)
    refine EP (s.key++[s.field]) (λr=>r.all (λy=>(EO l y).2)) (λk=>[(0,.sl none (E8 l)),(3,.ptr 0 0),(6,.sl (some 1) (Fq (s.key++[s.field]))),(7,.int .i64 k)]) DF rfl ?_ ?_
    · intro k y ys hd hx hF h0 h1 hw
      simp only [go_sem,h0,h1,Ei hx]
      repeat' (first
        | (refine pK (P2 _ _) ?_;simp only [go_sem,h0,h1,hw,Ei hx])
        | ((first|apply cS|apply gS)<;>(intro hc;simp only [go_sem,hc,h0,h1,hw,Ei hx])))
      all_goals first
        | (have h5 : (Is s).all (fun y => (EO l y).2) = false := by rw [hnm, hF]; simp_all
           grind [LG])
        | simp_all
    · intro hF hlt
      simp only [go_sem,hlt,decide_false]
      refine EP s.key (λr=>IQ s.key (s.key.length - r.length) r) (λk=>[(0,.sl none (E8 l)),(3,.ptr 0 0),(10,.int .i64 k)]) DF rfl ?_ ?_
      · intro k y ys hd hx hF2 h0 h1 hw
        have hk2 := Eb hd
        have e1:s.key.length - (ys.length+1)=k := by omega
        have e2:s.key.length - ys.length=k+1 := by omega
        have ht:(s.key.take k).length=k := Io DF
        simp only [AC,e1,AQ] at hF2
        simp only [go_sem,h0,h1,e1,e2]
        refine EP (s.key.take k) (λr=>r.any (λz=>decide (z=y))) (λi=>[(0,.sl none (E8 l)),(3,.ptr 0 0),(10,.int .i64 k),(11,.int .i64 i)]) DF rfl ?_ ?_
        · intro i z zs hd3 hx3 hF3 h03 JA hw3
          rw [ht] at JA
          have hx4 := H8 hx3
          have Mo:(i:Int)<(s.key.length:Int) := by omega
          simp only [go_sem,h03,JA,Mo,h0,h1,Ei hx4,Ei hx,By]
          repeat' (first
            | ((first|apply cS|apply gS)<;>(intro hc;simp only [go_sem,hc,h03,JA,Mo,hw3,h0,h1,Ei hx4,Ei hx,By])))
          all_goals first
            | (have h5 : IQ s.key 0 s.key = false := by rw [hF2, IQ, hF3, Au, hc]; rfl
               have h6:(Is s).all (λy=>(EO l y).2)=true := by rw [hnm,hF];rfl
               grind [LG])
            | (rw [Au,hc];rfl)
        · intro hF3 hlt3
          rw [ht] at hlt3
          simp only [go_sem,ht,hlt3,decide_false,hw]
          rw [e1,e2,IQ,hF3];rfl
      · intro hF2 hlt2
        have h5:IQ s.key 0 s.key=true := by simp only [AQ] at hF2;rw [hF2];rfl
        have h6:(Is s).all (λy=>(EO l y).2)=true := by rw [hnm,hF];rfl
        simp only [go_sem,hlt2,decide_false]
        repeat' (first
          | ((first|refine pK (P2 _ _) ?_|refine pK (ap _ (aZ hl _)) ?_);simp only [go_sem])
          | ((first|apply cS|apply gS)<;>(intro hc;simp only [go_sem,hc])))
        all_goals grind [LG]
  · have hnm:Is s=s.key := by grind [Is]
    have hnl:(s.key).length<=1073741825 := by first|omega|(simp;omega)
    refine EP (s.key) (λr=>r.all (λy=>(EO l y).2)) (λk=>[(0,.sl none (E8 l)),(3,.ptr 0 0),(6,.sl (some 1) (Fq (s.key))),(7,.int .i64 k)]) DF rfl ?_ ?_
    · intro k y ys hd hx hF h0 h1 hw
      simp only [go_sem,h0,h1,Ei hx]
      repeat' (first
        | (refine pK (P2 _ _) ?_;simp only [go_sem,h0,h1,hw,Ei hx])
        | ((first|apply cS|apply gS)<;>(intro hc;simp only [go_sem,hc,h0,h1,hw,Ei hx])))
      all_goals first
        | (have h5 : (Is s).all (fun y => (EO l y).2) = false := by rw [hnm, hF]; simp_all
           grind [LG])
        | simp_all
    · intro hF hlt
      simp only [go_sem,hlt,decide_false]
      refine EP s.key (λr=>IQ s.key (s.key.length - r.length) r) (λk=>[(0,.sl none (E8 l)),(3,.ptr 0 0),(10,.int .i64 k)]) DF rfl ?_ ?_
      · intro k y ys hd hx hF2 h0 h1 hw
        have hk2 := Eb hd
        have e1:s.key.length - (ys.length+1)=k := by omega
        have e2:s.key.length - ys.length=k+1 := by omega
        have ht:(s.key.take k).length=k := Io DF
        simp only [AC,e1,AQ] at hF2
        simp only [go_sem,h0,h1,e1,e2]
        refine EP (s.key.take k) (λr=>r.any (λz=>decide (z=y))) (λi=>[(0,.sl none (E8 l)),(3,.ptr 0 0),(10,.int .i64 k),(11,.int .i64 i)]) DF rfl ?_ ?_
        · intro i z zs hd3 hx3 hF3 h03 JA hw3
          rw [ht] at JA
          have hx4 := H8 hx3
          have Mo:(i:Int)<(s.key.length:Int) := by omega
          simp only [go_sem,h03,JA,Mo,h0,h1,Ei hx4,Ei hx,By]
          repeat' (first
            | ((first|apply cS|apply gS)<;>(intro hc;simp only [go_sem,hc,h03,JA,Mo,hw3,h0,h1,Ei hx4,Ei hx,By])))
          all_goals first
            | (have h5 : IQ s.key 0 s.key = false := by rw [hF2, IQ, hF3, Au, hc]; rfl
               have h6:(Is s).all (λy=>(EO l y).2)=true := by rw [hnm,hF];rfl
               grind [LG])
            | (rw [Au,hc];rfl)
        · intro hF3 hlt3
          rw [ht] at hlt3
          simp only [go_sem,ht,hlt3,decide_false,hw]
          rw [e1,e2,IQ,hF3];rfl
      · intro hF2 hlt2
        have h5:IQ s.key 0 s.key=true := by simp only [AQ] at hF2;rw [hF2];rfl
        have h6:(Is s).all (λy=>(EO l y).2)=true := by rw [hnm,hF];rfl
        simp only [go_sem,hlt2,decide_false]
        repeat' (first
          | ((first|refine pK (P2 _ _) ?_|refine pK (ap _ (aZ hl _)) ?_);simp only [go_sem])
          | ((first|apply cS|apply gS)<;>(intro hc;simp only [go_sem,hc])))
        all_goals grind [LG]
theorem AFI(l:List Fld)(p:List Stage)(hl:wW l)(hb:DT (Es p)<=1073741824):DR AA 93 [.sl none (E8 l),.sl none (Es p)] (.int .i64 (PN l p)) := by
  have hn := Lx hb
  refine pC ATL rfl ?_
  simp only [f93,go_sem]
  repeat' (first
    | (refine pK (AY5 _ hb) ?_;simp only [go_sem])
    | ((first|apply cS|apply gS)<;>(intro hc;simp only [go_sem,hc])))
  all_goals first
    | rfl
    | (simp only [PN];rfl)
    | grind [PN]
    | (simp only [PN];grind)
    | (simp [PN, *];done)
    | (simp_all [PN];done)
    | skip
  refine EP p (λr=>Lq l r) (λk=>[(0,.sl none (E8 l)),(1,.sl none (Es p)),(6,.int .i64 k)]) DF rfl ?_ ?_
  · intro k y ys hd hx hF h0 h1 hw
    have hby:DT y.c<=1073741824 := by have := JU hb (AB hx);simpa only [AV.bulk] using this
    simp only [go_sem,h0,h1,EU hx]
    repeat' (first
      | ((first|refine pK (AQ1 _ _ hl (GW hby)) ?_|refine pK (AQ0 _ _ hl (Ju hby)) ?_);simp only [go_sem,h0,h1,hw,EU hx])
      | ((first|apply cS|apply gS)<;>(intro hc;simp only [go_sem,hc,h0,h1,hw,EU hx])))
    all_goals first
      | rfl
      | (simp only [PN,Lq];rfl)
      | grind [PN,Lq]
      | (simp only [PN,Lq];grind)
      | (simp [PN,Lq, *];done)
      | (simp_all [PN,Lq];done)
      | skip
  · intro hF hlt
    simp only [go_sem,hlt,decide_false]
    refine EP p (λr=>Jw l p (p.length - r.length) r) (λk=>[(0,.sl none (E8 l)),(1,.sl none (Es p)),(9,.int .i64 k)]) DF rfl ?_ ?_
    · intro k y ys hd hx hF2 h0 h1 hw
      have hk := Eb hd
      have e1:p.length - (ys.length+1)=k := by omega
      have e2:p.length - ys.length=k+1 := by omega
      have hby:DT y.c<=1073741824 := by have := JU hb (AB hx);simpa only [AV.bulk] using this
      have hy := UN (K8 (Ju hby))
      have ht:(p.take k).length=k := Io DF
      simp only [AC,e1,AQ] at hF2
      simp only [go_sem,h0,h1,EU hx,e1,e2]
      refine EP (p.take k) (λr=>r.any (λz=>KQ l z.step y.step)) (λi=>[(0,.sl none (E8 l)),(1,.sl none (Es p)),(9,.int .i64 k),(10,.int .i64 i)]) DF rfl ?_ ?_
      · intro i z zs hd3 hx3 hF3 h03 JA hw3
        rw [ht] at JA
        have hx4 := H8 hx3
        have Mo:(i:Int)<(p.length:Int) := by omega
        have hbz:DT z.c<=1073741824 := by have := JU hb (AB hx4);simpa only [AV.bulk] using this
        have hz := UN (K8 (Ju hbz))
        simp only [go_sem,h03,JA,Mo,h0,h1,EU hx4,EU hx,By]
        repeat' (first
          | (refine pK (AQ6 _ _ _ hz hy) ?_;simp only [go_sem,h03,JA,Mo,hw3,h0,h1,EU hx4,EU hx,By])
          | ((first|apply cS|apply gS)<;>(intro hc;simp only [go_sem,hc,h03,JA,Mo,hw3,h0,h1,EU hx4,EU hx,By])))
        all_goals first
          | (have hcl : KQ l z.step y.step = true := by grind [KQ]
             have h5:Jw l p 0 p=false := by rw [hF2,Jw,hF3,Au,hcl];rfl
             grind [PN,Lq])
          | grind [KQ]
      · intro hF3 hlt3
        rw [ht] at hlt3
        simp only [go_sem,ht,hlt3,decide_false,hw]
        rw [e1,e2,Jw,hF3];rfl
    · intro hF2 hlt2
      simp only [go_sem,hlt2,decide_false]
      all_goals first
        | rfl
        | (simp only [PN,Jw,Lq];rfl)
        | grind [PN,Jw,Lq]
        | (simp only [PN,Jw,Lq];grind)
        | (simp [PN,Jw,Lq, *];done)
        | (simp_all [PN,Jw,Lq];done)
        | skip
theorem AQs(l:List Int)(n:Int)(hl:l.length<=1073741824):DR AA 314 [.sl none (E4 l),.int .i64 n] (.sl none (E4 (Rp l n))):=by
 refine pB AHq rfl ?_
 simp only [f314,go_sem]
 refine Ed l (λ(s:List Int×Bool) r=>s.1++IC n s.2 r) (λk s=>s.1.length<=2*k) (λk s=>[(0,.sl none (E4 l)),(1,.int .i64 n),(5,.sl (some 1) (E4 s.1)),(6,.bool s.2),(7,.int .i64 k)]) (λk o=>[]) ([],false) DF sm rfl rfl ?_ ?_
 ·intro k s y ys hd hx hI hF h0 h1 hw
  have hk2:=Eb hd
  have g1:(s.1.length+1)*8<=140737488355328:=DF
  have g2:s.1.length<=9223372036854775806:=DF
  have g3:(s.1.length+1+1)*8<=140737488355328:=DF
  have g4:s.1.length+1<=9223372036854775806:=DF
  have g5:s.1.length<=9223372036854775805:=DF
  simp only [go_sem,h0,h1,E1 hx]
  repeat' (first
   | ((first|apply cS|apply gS)<;>(intro hc;simp only [go_sem,hc,h0,h1,hw,E1 hx,AE,List.length_singleton,g1,g2,g3,g4,g5])))
  all_goals first
   | exact ⟨(s.1++[n,y],true),by grind [IC],by simp;omega,rfl,rfl⟩
   | exact ⟨(s.1++[n],true),by grind [IC],by simp;omega,rfl,rfl⟩
   | exact ⟨(s.1++[y],s.2),by grind [IC],by simp;omega,rfl,rfl⟩
   | exact ⟨(s.1,s.2),by grind [IC],by simp;omega,rfl,rfl⟩
   | skip
 ·intro s hI hF
  have g1:(s.1.length+1)*8<=140737488355328:=DF
  have g2:s.1.length<=9223372036854775806:=DF
  simp only [go_sem,AX,decide_false]
  repeat' (first
   | ((first|apply cS|apply gS)<;>(intro hc;simp only [go_sem,hc,g1,g2])))
  all_goals first
   | rfl
   | (simp only [Rp,IC];rfl)
   | grind [Rp,IC]
   | (simp only [Rp,IC];grind)
   | (simp [Rp,IC, *];done)
   | (simp_all [Rp,IC];done)
   | skip
theorem N8(t:Tenant)(n:Int):DR AA 272 [.agg t.c,.int .i64 n] (.bool (GB t n)):=by
 refine pC AIy rfl ?_
 simp only [f272,go_sem]
 repeat' (first
  | ((first|apply cS|apply gS)<;>(intro hc;simp only [go_sem,hc])))
 all_goals first
  | rfl
  | (simp only [GB];rfl)
  | grind [GB]
  | (simp only [GB];grind)
  | (simp [GB, *];done)
  | (simp_all [GB];done)
  | skip
theorem Ut{t:Tenant}{n:Int}(h:GB t n=true):0<=n/\n<(t.ports.length:Int) /\ ∃ p,t.ports[n.toNat]? =some p/\N2 t n=p.edge/\(JG t.ports)[n.toNat]? =some (.agg p.c):=by
 simp only [GB,AR,decide_eq_true_eq] at h
 have hg:=AL (l:=t.ports) (i:=n.toNat) DF
 exact ⟨h.1,h.2,_,hg,by simp [N2,hg],FD hg⟩
theorem ADv(t:Tenant)(n:Int):DR AA 270 [.agg t.c,.int .i64 n] (.bool (Iz t n)):=by
 refine pC AI4 rfl ?_
 cases hp:GB t n with
 | false =>
  simp only [f270,go_sem]
  repeat' (first
   | (refine pK (N8 _ _) ?_;simp only [go_sem,hp])
   | ((first|apply cS|apply gS)<;>(intro hc;simp only [go_sem,hc,hp])))
  all_goals first
   | rfl
   | (simp only [Iz];rfl)
   | grind [Iz]
   | (simp only [Iz];grind)
   | (simp [Iz, *];done)
   | (simp_all [Iz];done)
   | skip
 | true =>
  obtain ⟨h1,h2,p,h3,h4,h5⟩:=Ut hp
  simp only [f270,go_sem]
  repeat' (first
   | (refine pK (N8 _ _) ?_;simp only [go_sem,hp,h1,h2,h5])
   | ((first|apply cS|apply gS)<;>(intro hc;simp only [go_sem,hc,hp,h1,h2,h5])))
  all_goals first
   | rfl
   | (simp only [Iz];rfl)
   | grind [Iz]
   | (simp only [Iz];grind)
   | (simp [Iz, *];done)
   | (simp_all [Iz];done)
   | skip
theorem ADs(t:Tenant)(n:Int):DR AA 222 [.agg t.c,.int .i64 n] (.bool (JQ t n)):=by
 refine pC AKC rfl ?_
 cases hp:GB t n with
 | false =>
  simp only [f222,go_sem]
  repeat' (first
   | (refine pK (N8 _ _) ?_;simp only [go_sem,hp])
   | ((first|apply cS|apply gS)<;>(intro hc;simp only [go_sem,hc,hp])))
  all_goals first
   | rfl
   | (simp only [JQ];rfl)
   | grind [JQ]
   | (simp only [JQ];grind)
   | (simp [JQ, *];done)
   | (simp_all [JQ];done)
   | skip
 | true =>
  obtain ⟨h1,h2,p,h3,h4,h5⟩:=Ut hp
  simp only [f222,go_sem]
  repeat' (first
   | (refine pK (N8 _ _) ?_;simp only [go_sem,hp,h1,h2,h5])
   | ((first|apply cS|apply gS)<;>(intro hc;simp only [go_sem,hc,hp,h1,h2,h5])))
  all_goals first
   | rfl
   | (simp only [JQ];rfl)
   | grind [JQ]
   | (simp only [JQ];grind)
   | (simp [JQ, *];done)
   | (simp_all [JQ];done)
   | skip
theorem AFG(l:List ByteArray)(s:ByteArray):DR AA 273 [.sl none (Fq l),.str s] (.bool (uU l s)):=by
 refine DR.fit zV.c λhf=>?_
 have hl:=fits hf
 rw [Kw] at hl
 refine pC zV rfl ?_
 simp only [f273,go_sem]
 refine EP l (λr=>r.any (λy=>decide (y=s))) (λk=>[(0,.sl none (Fq l)),(1,.str s),(5,.int .i64 k)]) hl rfl ?_ ?_
 ·intro k y ys hd hx hF h0 h1 hw
  simp only [go_sem,h0,h1,Ei hx,By]
  repeat' (first
   | ((first|apply cS|apply gS)<;>(intro hc;simp only [go_sem,hc,h0,h1,hw,Ei hx,By])))
  all_goals first
   | (rw [uU,hF,Au,hc];rfl)
   | (rw [Au,hc];rfl)
 ·intro hF hlt
  simp only [go_sem,hlt,decide_false]
  rw [uU,hF];rfl
theorem AAc(x:Policy)(hb:DT x.c<=1073741824):DR AA 271 [.agg x.c] (.sl none (E4 (MX x))):=by
 have hn:=AK (QT x) hb
 refine pB AI1 rfl ?_
 simp only [f271,go_sem]
 repeat' (first
  | (refine pK (AAb _ hb) ?_;simp only [go_sem])
  | ((first|apply cS|apply gS)<;>(intro hc;simp only [go_sem,hc])))
 have step : ∀ (y:Policy) (ys:List Policy) (o:List Int),LT o (y::ys)=LT (if y.kind=2/\y.field=Eu then Rp o y.n else o) ys:=λy ys o=>by rw [LT]
 have len1 : ∀ (o:List Int) (n:Int),(Rp o n).length<=o.length+1:=λo n=>xi o n
 refine Ed (Lt x) (λ(o:Option Nat×List Int) r=>LT o.2 r) (λk o=>o.2.length<=k) (λk o=>[(3,.sl o.1 (E4 o.2)),(4,.sl none (Em (Lt x))),(5,.int .i64 k)]) (λk o=>[some x.c]) (some 1,[]) DF sm rfl rfl ?_ ?_
 ·intro k o y ys hd hx hI hF h0 h1 hw
  have hk2:=Eb hd
  simp only [go_sem,h0,h1,EQ hx,By]
  repeat' (first
   | (refine pK (AQs o.2 y.n (show o.2.length<=1073741824 by omega)) ?_;simp only [go_sem,h0,h1,hw,EQ hx,By])
   | ((first|apply cS|apply gS)<;>(intro hc;simp only [go_sem,hc,h0,h1,hw,EQ hx,By])))
  all_goals first
   | exact ⟨(none,Rp o.2 y.n),by rw [step,if_pos (by simp_all [Eu])],by have:=len1 o.2 y.n;simp only;omega,rfl,rfl⟩
   | exact ⟨o,by rw [step,if_neg (by simp_all [Eu])],DF,rfl,rfl⟩
   | skip
 ·intro o hI hF
  simp only [go_sem,AX,decide_false]
  rw [MX,hF,LT]
theorem AQ2(s:Setup)(t:Tenant)(hl:wW s.fields)(hb:DT t.c<=1073741824):DR AA 219 [.agg s.c,.agg t.c] (.int .i64 (Le s t)) := by
  have hbp := GC hb
  have hn := Lx hbp
  refine pC AKM rfl ?_
  simp only [f219,go_sem,By]
  repeat' (first
    | (refine pK (AFI _ _ hl hbp) ?_;simp only [go_sem,By])
    | ((first|apply cS|apply gS)<;>(intro hc;simp only [go_sem,hc,By])))
  all_goals first
    | rfl
    | (simp only [Le];rfl)
    | grind [Le]
    | (simp only [Le];grind)
    | (simp [Le, *];done)
    | (simp_all [Le];done)
    | skip
  refine EP t.program (λr=>I1 t r) (λk=>[(3,.ptr 1 0),(6,.int .i64 k)]) DF rfl ?_ ?_
  · intro k y ys hd hx hF h0 h1 hw
    have hby:DT y.c<=1073741824 := by have := JU hbp (AB hx);simpa only [AV.bulk] using this
    have hp1 := lW y.policy
    have hp2 := AK (QT y.policy) (GW hby)
    simp only [go_sem,h0,h1,EU hx,By]
    repeat' (first
      | (refine pK (AAc _ (GW hby)) ?_;simp only [go_sem,h0,h1,hw,EU hx,By])
      | ((first|apply cS|apply gS)<;>(intro hc;simp only [go_sem,hc,h0,h1,hw,EU hx,By])))
    refine EP (MX y.policy) (λr=>r.all (GB t)) (λi=>[(3,.ptr 1 0),(6,.int .i64 k),(7,.sl none (E4 (MX y.policy))),(8,.int .i64 i)]) DF rfl ?_ ?_
    · intro i z zs hd3 hx3 hF3 h03 JA hw3
      simp only [go_sem,h03,JA,E1 hx3]
      repeat' (first
        | (refine pK (N8 _ _) ?_;simp only [go_sem,h03,JA,hw3,E1 hx3])
        | ((first|apply cS|apply gS)<;>(intro hc;simp only [go_sem,hc,h03,JA,hw3,E1 hx3])))
      all_goals first
        | (have h5 : (MX y.policy).all (GB t) = false := by rw [hF3, Ak]; simp_all
           grind [Le,I1])
        | simp_all
    · intro hF3 hlt3
      have h5:(MX y.policy).all (GB t)=true := by rw [hF3];rfl
      simp only [go_sem,hlt3,decide_false,h0,h1,EU hx,By]
      repeat' (first
        | (refine pK (AFG _ _) ?_;simp only [go_sem,h0,h1,hw,EU hx,By])
        | ((first|apply cS|apply gS)<;>(intro hc;simp only [go_sem,hc,h0,h1,hw,EU hx,By])))
      all_goals first
        | rfl
        | (simp only [Le,I1,Eu];rfl)
        | grind [Le,I1,Eu]
        | (simp only [Le,I1,Eu];grind)
        | (simp [Le,I1,Eu, *];done)
        | (simp_all [Le,I1,Eu];done)
        | skip
  · intro hF hlt
    simp only [go_sem,hlt,decide_false]
    all_goals first
      | rfl
      | (simp only [Le,I1];rfl)
      | grind [Le,I1]
      | (simp only [Le,I1];grind)
      | (simp [Le,I1, *];done)
      | (simp_all [Le,I1];done)
      | skip
theorem ru(n:Network)(h1:n.nodes.length<=1073741824)(h2:n.edges.length<=1073741824):DR AA 156 [.agg n.c] (.tup [.sl none (Fq (Gp n)),.sl none (Fq (Jf n))]):=by
 refine pB AM9 rfl ?_
 simp only [f156,go_sem]
 refine Ed n.nodes (λo r=>o++r.map (·.name)) (λk o=>o.length=k) (λk o=>[(1,.ptr 0 0),(4,.sl (some 1) (Fq o)),(5,.sl (some 1) (Fq [])),(6,.int .i64 k)]) (λk o=>[some n.c]) [] DF rfl rfl rfl ?_ ?_
 ·intro k o y ys hd hx hI hF h0 h1 hw
  have hk2:=Eb hd
  simp only [go_sem,h0,h1,hw,L1 hx]
  repeat' (first
   | ((first|apply cS|apply gS)<;>(intro hc;simp only [go_sem,hc,h0,h1,hw,L1 hx])))
  exact ⟨DF,DF,o++[y.name],sm,by simp [hI],rfl,rfl⟩
 ·intro o hI hF
  simp only [go_sem,AX,decide_false]
  have ho:o=Gp n:=by simpa [Gp] using hF.symm
  subst ho
  refine Ed n.edges (λo r=>o++r.map (·.name)) (λk o=>o.length=k) (λk o=>[(1,.ptr 0 0),(4,.sl (some 1) (Fq (Gp n))),(5,.sl (some 1) (Fq o)),(7,.int .i64 k)]) (λk o=>[some n.c]) [] DF rfl rfl rfl ?_ ?_
  ·intro k o y ys hd hx hI hF h0 h1 hw
   have hk2:=Eb hd
   simp only [go_sem,h0,h1,hw,L5 hx]
   repeat' (first
    | ((first|apply cS|apply gS)<;>(intro hc;simp only [go_sem,hc,h0,h1,hw,L5 hx])))
   exact ⟨DF,DF,o++[y.name],sm,by simp [hI],rfl,rfl⟩
  ·intro o hI hF
   simp only [go_sem,AX,decide_false]
   have ho:o=Jf n:=by simpa [Jf] using hF.symm
   subst ho
   rfl
theorem AYw(n:Network)(h1:n.nodes.length<=1073741824)(h2:n.edges.length<=1073741824): ∀ x:Regex,DR AA 221 [.agg n.c,.agg x.c] (.bool (knB (Gp n) x)):=by
 refine Sg _ λx ih=>?_
 refine DR.fit zd.c λhf=>?_
 have hl:x.args.length<=9223372036854775807:=OI (Q1 (show F8 [.agg x.c] from hf.2))
 refine pC zd rfl ?_
 simp only [f221,go_sem]
 repeat' (first
  | ((first|refine pK (ru n h1 h2) ?_|refine pK (AFG _ _) ?_);simp only [go_sem])
  | ((first|apply cS|apply gS)<;>(intro hc;simp only [go_sem,hc])))
 all_goals first
  | rfl
  | (simp only [IY];rfl)
  | grind [IY]
  | (simp only [IY];grind)
  | (simp [IY, *];done)
  | (simp_all [IY];done)
  | skip
 all_goals
  refine EP x.args (λr=>aH (Gp n) r) (λk=>[(2,.ptr 0 0),(3,.ptr 1 0),(7,.int .i64 k)]) hl rfl ?_ ?_
  ·intro k y ys hd hx hF h0 h1 hw
   have hm:=AB hx
   simp only [go_sem,h0,h1,G5 hx]
   repeat' (first
    | (refine pK (ih _ hm) ?_;simp only [go_sem,h0,h1,hw,G5 hx])
    | ((first|apply cS|apply gS)<;>(intro hc;simp only [go_sem,hc,h0,h1,hw,G5 hx])))
   all_goals first
    | rfl
    | (simp only [IY,L6];rfl)
    | grind [IY,L6]
    | (simp only [IY,L6];grind)
    | (simp [IY,L6, *];done)
    | (simp_all [IY,L6];done)
    | skip
  ·intro hF hlt
   simp only [go_sem,hlt,decide_false]
   all_goals first
    | rfl
    | (simp only [IY,No];rfl)
    | grind [IY,No]
    | (simp only [IY,No];grind)
    | (simp [IY,No, *];done)
    | (simp_all [IY,No];done)
    | skip
set_option maxHeartbeats 2000000 in
theorem AQ3(s:Setup)(t:Tenant)(hb:DT t.c<=1073741824):DR AA 218 [.agg s.c,.agg t.c] (.int .i64 (Hc s t)) := by
  have hbp := NB hb
  have hn := fQ hbp
  have hn2 := Nj (HL hb)
  refine pC AKR rfl ?_
  simp only [f218,go_sem,By]
  repeat' (first
    | (refine pK (UY _ (WZ hb)) ?_;simp only [go_sem,By])
    | ((first|apply cS|apply gS)<;>(intro hc;simp only [go_sem,hc,By])))
  all_goals first
    | rfl
    | (simp only [Hc];rfl)
    | grind [Hc]
    | (simp only [Hc];grind)
    | (simp [Hc, *];done)
    | (simp_all [Hc];done)
    | skip
  refine EP t.ports (λr=>HR Rs Rb t.ports (t.ports.length - r.length) r) (λk=>[(2,.ptr 0 0),(3,.ptr 1 0),(6,.int .i64 k)]) DF rfl ?_ ?_
  · intro k y ys hd hx hF2 h0 h1 hw
    have hk2 := Eb hd
    have hmy := AB hx
    have e1:t.ports.length - (ys.length+1)=k := by omega
    have e2:t.ports.length - ys.length=k+1 := by omega
    have ht:(t.ports.take k).length=k := Io DF
    have hby:DT y.c<=1073741824 := by have := zA hbp hmy;simpa only [AV.bulk] using this
    simp only [AC,e1,AQ] at hF2
    simp only [go_sem,h0,h1,FD hx,By]
    repeat' (first
      | (refine pK (UY _ (b6 hby)) ?_;simp only [go_sem,h0,h1,hw,FD hx,By])
      | ((first|apply cS|apply gS)<;>(intro hc;simp only [go_sem,hc,h0,h1,hw,FD hx,By])))
    all_goals first
      | (have hp : Rs y = false := by grind [Hc, Rs, Rb, QH, QG, QS, QR]
         have h5:HR Rs Rb t.ports 0 t.ports=false := by rw [hF2,HR,hp];rfl
         have h6:HC Rs Rb t.ports=false := h5
         grind [Hc,Rs,Rb,QH,QG,QS,QR])
      | skip
    have hp:Rs y=true := by grind [Hc,Rs,Rb,QH,QG,QS,QR]
    refine EP (t.ports.take k) (λr=>r.any (λz=>Rb z y)) (λi=>[(2,.ptr 0 0),(3,.ptr 1 0),(6,.int .i64 k),(8,.int .i64 i)]) DF rfl ?_ ?_
    · intro i z zs hd3 hx3 hF3 h03 JA hw3
      rw [ht] at JA
      have hx4 := H8 hx3
      have Mo:(i:Int)<(t.ports.length:Int) := by omega
      have hmz := AB hx4
      simp only [go_sem,h03,JA,Mo,h0,h1,FD hx4,FD hx,By]
      repeat' (first
        | ((first|apply cS|apply gS)<;>(intro hc;simp only [go_sem,hc,h03,JA,Mo,hw3,h0,h1,FD hx4,FD hx,By])))
      all_goals first
        | (have hq : Rb z y = true := by grind [Hc, Rs, Rb, QH, QG, QS, QR]
           have h5:HR Rs Rb t.ports 0 t.ports=false := by rw [hF2,HR,hF3,Au,hq];simp
           have h6:HC Rs Rb t.ports=false := h5
           grind [Hc,Rs,Rb,QH,QG,QS,QR])
        | (have hq : Rb z y = false := by grind [Hc, Rs, Rb, QH, QG, QS, QR]
           first|(rw [Au,hq];rfl)|(rw [hq];rfl))
        | skip
    · intro hF3 hlt3
      rw [ht] at hlt3
      simp only [go_sem,ht,hlt3,decide_false,hw]
      rw [e1,e2,HR,hF3,hp];rfl
  · intro hF2 hlt2
    have hok:HC Rs Rb t.ports=true := by simp only [AQ] at hF2;exact hF2
    simp only [go_sem,hlt2,decide_false]
    refine EP t.ports (λr=>HR (QH s.network.edges.length) QG t.ports (t.ports.length - r.length) r) (λk=>[(2,.ptr 0 0),(3,.ptr 1 0),(9,.int .i64 k)]) DF rfl ?_ ?_
    · intro k y ys hd hx hF2 h0 h1 hw
      have hk2 := Eb hd
      have hmy := AB hx
      have e1:t.ports.length - (ys.length+1)=k := by omega
      have e2:t.ports.length - ys.length=k+1 := by omega
      have ht:(t.ports.take k).length=k := Io DF
      simp only [AC,e1,AQ] at hF2
      simp only [go_sem,h0,h1,FD hx,By]
      repeat' (first
        | ((first|apply cS|apply gS)<;>(intro hc;simp only [go_sem,hc,h0,h1,hw,FD hx,By])))
      all_goals first
        | (have hp : (QH s.network.edges.length) y = false := by grind [Hc, Rs, Rb, QH, QG, QS, QR]
           have h5:HR (QH s.network.edges.length) QG t.ports 0 t.ports=false := by rw [hF2,HR,hp];rfl
           have h6:HC (QH s.network.edges.length) QG t.ports=false := h5
           grind [Hc,Rs,Rb,QH,QG,QS,QR])
        | skip
      have hp:(QH s.network.edges.length) y=true := by grind [Hc,Rs,Rb,QH,QG,QS,QR]
      refine EP (t.ports.take k) (λr=>r.any (λz=>QG z y)) (λi=>[(2,.ptr 0 0),(3,.ptr 1 0),(9,.int .i64 k),(10,.int .i64 y.edge),(11,.int .i64 i)]) DF rfl ?_ ?_
      · intro i z zs hd3 hx3 hF3 h03 JA hw3
        rw [ht] at JA
        have hx4 := H8 hx3
        have Mo:(i:Int)<(t.ports.length:Int) := by omega
        have hmz := AB hx4
        simp only [go_sem,h03,JA,Mo,h0,h1,FD hx4,FD hx,By]
        repeat' (first
          | ((first|apply cS|apply gS)<;>(intro hc;simp only [go_sem,hc,h03,JA,Mo,hw3,h0,h1,FD hx4,FD hx,By])))
        all_goals first
          | (have hq : QG z y = true := by grind [Hc, Rs, Rb, QH, QG, QS, QR]
             have h5:HR (QH s.network.edges.length) QG t.ports 0 t.ports=false := by rw [hF2,HR,hF3,Au,hq];simp
             have h6:HC (QH s.network.edges.length) QG t.ports=false := h5
             grind [Hc,Rs,Rb,QH,QG,QS,QR])
          | (have hq : QG z y = false := by grind [Hc, Rs, Rb, QH, QG, QS, QR]
             first|(rw [Au,hq];rfl)|(rw [hq];rfl))
          | skip
      · intro hF3 hlt3
        rw [ht] at hlt3
        simp only [go_sem,ht,hlt3,decide_false,hw]
        rw [e1,e2,HR,hF3,hp];rfl
    · intro hF2b hlt2
      have hokb:HC (QH s.network.edges.length) QG t.ports=true := by simp only [AQ] at hF2b;exact hF2b
      simp only [go_sem,hlt2,decide_false]
      refine EP t.wires (λr=>HR (QS t) QR t.wires (t.wires.length - r.length) r) (λk=>[(3,.ptr 1 0),(12,.int .i64 k)]) DF rfl ?_ ?_
      · intro k y ys hd hx hF2 h0 h1 hw
        have hk2 := Eb hd
        have hmy := AB hx
        have e1:t.wires.length - (ys.length+1)=k := by omega
        have e2:t.wires.length - ys.length=k+1 := by omega
        have ht:(t.wires.take k).length=k := Io DF
        simp only [AC,e1,AQ] at hF2
        simp only [go_sem,h0,h1,FZ hx,By]
        repeat' (first
          | (refine pK (ADv _ _) ?_;simp only [go_sem,h0,h1,hw,FZ hx,By])
          | ((first|apply cS|apply gS)<;>(intro hc;simp only [go_sem,hc,h0,h1,hw,FZ hx,By])))
        all_goals first
          | (have hp : (QS t) y = false := by grind [Hc, Rs, Rb, QH, QG, QS, QR]
             have h5:HR (QS t) QR t.wires 0 t.wires=false := by rw [hF2,HR,hp];rfl
             have h6:HC (QS t) QR t.wires=false := h5
             grind [Hc,Rs,Rb,QH,QG,QS,QR])
          | skip
        have hp:(QS t) y=true := by grind [Hc,Rs,Rb,QH,QG,QS,QR]
        refine EP (t.wires.take k) (λr=>r.any (λz=>QR z y)) (λi=>[(3,.ptr 1 0),(12,.int .i64 k),(13,.int .i64 i)]) DF rfl ?_ ?_
        · intro i z zs hd3 hx3 hF3 h03 JA hw3
          rw [ht] at JA
          have hx4 := H8 hx3
          have Mo:(i:Int)<(t.wires.length:Int) := by omega
          have hmz := AB hx4
          simp only [go_sem,h03,JA,Mo,h0,h1,FZ hx4,FZ hx,By]
          repeat' (first
            | ((first|apply cS|apply gS)<;>(intro hc;simp only [go_sem,hc,h03,JA,Mo,hw3,h0,h1,FZ hx4,FZ hx,By])))
          all_goals first
            | (have hq : QR z y = true := by grind [Hc, Rs, Rb, QH, QG, QS, QR]
               have h5:HR (QS t) QR t.wires 0 t.wires=false := by rw [hF2,HR,hF3,Au,hq];simp
               have h6:HC (QS t) QR t.wires=false := h5
               grind [Hc,Rs,Rb,QH,QG,QS,QR])
            | (have hq : QR z y = false := by grind [Hc, Rs, Rb, QH, QG, QS, QR]
               first|(rw [Au,hq];rfl)|(rw [hq];rfl))
            | skip
        · intro hF3 hlt3
          rw [ht] at hlt3
          simp only [go_sem,ht,hlt3,decide_false,hw]
          rw [e1,e2,HR,hF3,hp];rfl
      · intro hF2c hlt2
        have hokc:HC (QS t) QR t.wires=true := by simp only [AQ] at hF2c;exact hF2c
        simp only [go_sem,hlt2,decide_false]
        all_goals first
          | rfl
          | (simp only [Hc];rfl)
          | grind [Hc]
          | (simp only [Hc];grind)
          | (simp [Hc, *];done)
          | (simp_all [Hc];done)
          | skip
set_option maxHeartbeats 4000000 in
theorem AQ5(s:Setup)(t:Tenant)(hl:wW s.fields)(hs:DT s.c<=1073741824)(hb:DT t.c<=1073741824):DR AA 162 [.agg s.c,.agg t.c] (.int .i64 (In s t)) := by
  have hsn := MH hs
  have g1 := fV (MK hsn)
  have g2 := fe (ML hsn)
  have hbr := Sf hb
  have hn := tt hbr
  have hn2 := me (RI hb)
  refine pC AMq rfl ?_
  simp only [f162,go_sem]
  repeat' (first
    | ((first|refine pK (AQ3 _ _ hb) ?_|refine pK (AQ2 _ _ hl hb) ?_);simp only [go_sem])
    | ((first|apply cS|apply gS)<;>(intro hc;simp only [go_sem,hc])))
  all_goals first
    | rfl
    | (simp only [In];rfl)
    | grind [In]
    | (simp only [In];grind)
    | (simp [In, *];done)
    | (simp_all [In];done)
    | skip
  refine EP t.routes (λr=>Id s r) (λk=>[(2,.ptr 0 0),(3,.ptr 1 0),(6,.int .i64 k)]) DF rfl ?_ ?_
  · intro k y ys hd hx hF h0 h1 hw
    have hby:DT y.c<=1073741824 := by have := tw hbr (AB hx);simpa only [AV.bulk] using this
    simp only [go_sem,h0,h1,JV hx]
    repeat' (first
      | ((first|refine pK (AAm _ _ hl (Xz hby)) ?_|refine pK (AY3 _ (X5 hby)) ?_|refine pK (AYw _ g1 g2 _) ?_);simp only [go_sem,h0,h1,hw,JV hx])
      | ((first|apply cS|apply gS)<;>(intro hc;simp only [go_sem,hc,h0,h1,hw,JV hx])))
    all_goals first
      | rfl
      | (simp only [In,Id,lP];rfl)
      | grind [In,Id,lP]
      | (simp only [In,Id,lP];grind)
      | (simp [In,Id,lP, *];done)
      | (simp_all [In,Id,lP];done)
      | skip
  · intro hF hlt
    simp only [go_sem,hlt,decide_false]
    refine EP t.demands (λr=>HR (lX t) kZ t.demands (t.demands.length - r.length) r) (λk=>[(3,.ptr 1 0),(7,.int .i64 k)]) DF rfl ?_ ?_
    · intro k y ys hd hx hF2 h0 h1 hw
      have hk2 := Eb hd
      have hmy := AB hx
      have e1:t.demands.length - (ys.length+1)=k := by omega
      have e2:t.demands.length - ys.length=k+1 := by omega
      have ht:(t.demands.take k).length=k := Io DF
      simp only [AC,e1,AQ] at hF2
      simp only [go_sem,h0,h1,HW hx,By]
      repeat' (first
        | (refine pK (ADs _ _) ?_;simp only [go_sem,h0,h1,hw,HW hx,By])
        | ((first|apply cS|apply gS)<;>(intro hc;simp only [go_sem,hc,h0,h1,hw,HW hx,By])))
      all_goals first
        | (have hp : (lX t) y = false := by grind [In, lX, kZ, Id]
           have h5:HR (lX t) kZ t.demands 0 t.demands=false := by rw [hF2,HR,hp];rfl
           have h6:HC (lX t) kZ t.demands=false := h5
           grind [In,lX,kZ,Id])
        | skip
      have hp:(lX t) y=true := by grind [In,lX,kZ,Id]
      refine EP (t.demands.take k) (λr=>r.any (λz=>kZ z y)) (λi=>[(3,.ptr 1 0),(7,.int .i64 k),(8,.ptr 2 0),(9,.int .i64 i)]) DF rfl ?_ ?_
      · intro i z zs hd3 hx3 hF3 h03 JA hw3
        rw [ht] at JA
        have hx4 := H8 hx3
        have Mo:(i:Int)<(t.demands.length:Int) := by omega
        have hmz := AB hx4
        simp only [go_sem,h03,JA,Mo,h0,h1,HW hx4,HW hx,By]
        repeat' (first
          | ((first|apply cS|apply gS)<;>(intro hc;simp only [go_sem,hc,h03,JA,Mo,hw3,h0,h1,HW hx4,HW hx,By])))
        all_goals first
          | (have hq : kZ z y = true := by grind [In, lX, kZ, Id]
             have h5:HR (lX t) kZ t.demands 0 t.demands=false := by rw [hF2,HR,hF3,Au,hq];simp
             have h6:HC (lX t) kZ t.demands=false := h5
             grind [In,lX,kZ,Id])
          | (have hq : kZ z y = false := by grind [In, lX, kZ, Id]
             first|(rw [Au,hq];rfl)|(rw [hq];rfl))
          | skip
      · intro hF3 hlt3
        rw [ht] at hlt3
        simp only [go_sem,ht,hlt3,decide_false,hw]
        rw [e1,e2,HR,hF3,hp];rfl
    · intro hF2c hlt2
      have hokc:HC (lX t) kZ t.demands=true := by simp only [AQ] at hF2c;exact hF2c
      simp only [go_sem,hlt2,decide_false]
      all_goals first
        | rfl
        | (simp only [In,Id];rfl)
        | grind [In,Id]
        | (simp only [In,Id];grind)
        | (simp [In,Id, *];done)
        | (simp_all [In,Id];done)
        | skip
theorem rr(l:List ByteArray)(hn:l.length<=1073741824)(hl : ∀ y∈l,y.size<=1073741824):DR AA 157 [.sl none (Fq l)] (.bool (HC de cU l)) := by
  refine pC AM6 rfl ?_
  simp only [f157,go_sem]
  refine EP l (λr=>HR de cU l (l.length - r.length) r) (λk=>[(0,.sl none (Fq l)),(3,.int .i64 k)]) DF rfl ?_ ?_
  · intro k y ys hd hx hF2 h0 h1 hw
    have hk2 := Eb hd
    have hmy := AB hx
    have e1:l.length - (ys.length+1)=k := by omega
    have e2:l.length - ys.length=k+1 := by omega
    have ht:(l.take k).length=k := Io DF
    simp only [AC,e1,AQ] at hF2
    simp only [go_sem,h0,h1,Ei hx,By]
    repeat' (first
      | (refine pK (UY _ (hl y hmy)) ?_;simp only [go_sem,h0,h1,hw,Ei hx,By])
      | ((first|apply cS|apply gS)<;>(intro hc;simp only [go_sem,hc,h0,h1,hw,Ei hx,By])))
    all_goals first
      | (have hp : de y = false := by grind [de, cU]
         have h5:HR de cU l 0 l=false := by rw [hF2,HR,hp];rfl
         have h6:HC de cU l=false := h5
         grind [de,cU])
      | skip
    have hp:de y=true := by grind [de,cU]
    refine EP (l.take k) (λr=>r.any (λz=>cU z y)) (λi=>[(0,.sl none (Fq l)),(3,.int .i64 k),(5,.int .i64 i)]) DF rfl ?_ ?_
    · intro i z zs hd3 hx3 hF3 h03 JA hw3
      rw [ht] at JA
      have hx4 := H8 hx3
      have Mo:(i:Int)<(l.length:Int) := by omega
      have hmz := AB hx4
      simp only [go_sem,h03,JA,Mo,h0,h1,Ei hx4,Ei hx,By]
      repeat' (first
        | ((first|apply cS|apply gS)<;>(intro hc;simp only [go_sem,hc,h03,JA,Mo,hw3,h0,h1,Ei hx4,Ei hx,By])))
      all_goals first
        | (have hq : cU z y = true := by grind [de, cU]
           have h5:HR de cU l 0 l=false := by rw [hF2,HR,hF3,Au,hq];simp
           have h6:HC de cU l=false := h5
           grind [de,cU])
        | (have hq : cU z y = false := by grind [de, cU]
           first|(rw [Au,hq];rfl)|(rw [hq];rfl))
        | skip
    · intro hF3 hlt3
      rw [ht] at hlt3
      simp only [go_sem,ht,hlt3,decide_false,hw]
      rw [e1,e2,HR,hF3,hp];rfl
  · intro hF2c hlt2
    have hokc:HC de cU l=true := by simp only [AQ] at hF2c;exact hF2c
    simp only [go_sem,hlt2,decide_false]
    all_goals first
      | rfl
      | (simp only [hokc];rfl)
      | grind []
      | (simp only [hokc];grind)
      | (simp [hokc, *];done)
      | (simp_all [hokc];done)
      | skip
theorem ia(n:Network)(k:Int):DR AA 158 [.agg n.c,.int .i64 k] (.bool (HQ n k)):=by
 refine pC AM3 rfl ?_
 simp only [f158,go_sem]
 repeat' (first
  | ((first|apply cS|apply gS)<;>(intro hc;simp only [go_sem,hc])))
 all_goals first
  | rfl
  | (simp only [HQ];rfl)
  | grind [HQ]
  | (simp only [HQ];grind)
  | (simp [HQ, *];done)
  | (simp_all [HQ];done)
  | skip
set_option maxHeartbeats 2000000 in
theorem ADz(n:Network)(hb:DT n.c<=1073741824):DR AA 88 [.agg n.c] (.int .i64 (Hv n)) := by
  have b1 := MK hb
  have b2 := ML hb
  have g1 := fV b1
  have g2 := fe b2
  have g3 := zC (Si hb)
  have n1:(Gp n).length<=1073741824 := by simpa [Gp] using g1
  have n2:(Jf n).length<=1073741824 := by simpa [Jf] using g2
  have n3 : ∀ y∈Gp n,y.size<=1073741824 := by
    intro y hy
    obtain ⟨x,hx,rfl⟩ := AO.1 hy
    have := zB b1 hx
    exact b9 (by simpa only [AV.bulk] using this)
  have n4 : ∀ y∈Jf n,y.size<=1073741824 := by
    intro y hy
    obtain ⟨x,hx,rfl⟩ := AO.1 hy
    have := zD b2 hx
    exact cJ (by simpa only [AV.bulk] using this)
  refine pC ATi rfl ?_
  simp only [f88,go_sem]
  repeat' (first
    | ((first|refine pK (ru n g1 g2) ?_|refine pK (rr _ n1 n3) ?_|refine pK (rr _ n2 n4) ?_);simp only [go_sem])
    | ((first|apply cS|apply gS)<;>(intro hc;simp only [go_sem,hc])))
  all_goals first
    | rfl
    | (simp only [Hv];rfl)
    | grind [Hv]
    | (simp only [Hv];grind)
    | (simp [Hv, *];done)
    | (simp_all [Hv];done)
    | skip
  refine EP n.nodes (λr=>r.all (Sz n)) (λk=>[(1,.ptr 0 0),(7,.int .i64 k)]) DF rfl ?_ ?_
  · intro k y ys hd hx hF h0 h1 hw
    simp only [go_sem,h0,h1,L1 hx]
    repeat' (first
      | ((first|apply cS|apply gS)<;>(intro hc;simp only [go_sem,hc,h0,h1,hw,L1 hx])))
    all_goals first
      | (have hp : Sz n y = false := by grind [Sz]
         have h5:n.nodes.all (Sz n)=false := by rw [hF,Ak,hp];rfl
         grind [Hv])
      | (have hp : Sz n y = true := by grind [Sz]
         first|(rw [Ak,hp];rfl)|(rw [hp];rfl))
      | skip
  · intro hF hlt
    have k1:n.nodes.all (Sz n)=true := by rw [hF];rfl
    simp only [go_sem,hlt,decide_false]
    refine EP n.links (λr=>r.all (S1 n)) (λk=>[(1,.ptr 0 0),(9,.int .i64 k)]) DF rfl ?_ ?_
    · intro k y ys hd hx hF h0 h1 hw
      simp only [go_sem,h0,h1,R6 hx]
      repeat' (first
        | (refine pK (ia _ _) ?_;simp only [go_sem,h0,h1,hw,R6 hx])
        | ((first|apply cS|apply gS)<;>(intro hc;simp only [go_sem,hc,h0,h1,hw,R6 hx])))
      all_goals first
        | (have hp : S1 n y = false := by grind [S1]
           have h5:n.links.all (S1 n)=false := by rw [hF,Ak,hp];rfl
           grind [Hv])
        | (have hp : S1 n y = true := by grind [S1]
           first|(rw [Ak,hp];rfl)|(rw [hp];rfl))
        | skip
    · intro hF2 hlt2
      have k2:n.links.all (S1 n)=true := by rw [hF2];rfl
      simp only [go_sem,hlt2,decide_false]
      refine EP n.edges (λr=>r.all (λx=>HQ n x.node)) (λk=>[(1,.ptr 0 0),(11,.int .i64 k)]) DF rfl ?_ ?_
      · intro k y ys hd hx hF h0 h1 hw
        simp only [go_sem,h0,h1,L5 hx]
        repeat' (first
          | (refine pK (ia _ _) ?_;simp only [go_sem,h0,h1,hw,L5 hx])
          | ((first|apply cS|apply gS)<;>(intro hc;simp only [go_sem,hc,h0,h1,hw,L5 hx])))
        all_goals first
          | (have hp : HQ n y.node = false := by grind
             have h5:n.edges.all (λx=>HQ n x.node)=false := by rw [hF,Ak,hp];rfl
             grind [Hv])
          | (have hp : HQ n y.node = true := by grind
             first|(rw [Ak,hp];rfl)|(rw [hp];rfl))
          | skip
      · intro hF3 hlt3
        have k3:n.edges.all (λx=>HQ n x.node)=true := by rw [hF3];rfl
        simp only [go_sem,hlt3,decide_false]
        all_goals first
          | rfl
          | (simp only [Hv];rfl)
          | grind [Hv]
          | (simp only [Hv];grind)
          | (simp [Hv, *];done)
          | (simp_all [Hv];done)
          | skip
theorem AQx(n:Network)(a b c:Int):DR AA 85 [.agg n.c,.int .i64 a,.int .i64 b,.int .i64 c] (.bool (oW n a b c)):=by
 refine pC ATr rfl ?_
 simp only [f85,go_sem]
 repeat' (first
  | ((first|apply cS|apply gS)<;>(intro hc;simp only [go_sem,hc])))
 all_goals first
  | rfl
  | (simp only [oW];rfl)
  | grind [oW]
  | (simp only [oW];grind)
  | (simp [oW, *];done)
  | (simp_all [oW];done)
  | skip
theorem ADr(f:Fld):DR AA 160 [.agg f.c] (.bool (Rt f)) := by
  refine pC AMx rfl ?_
  simp only [f160,go_sem]
  repeat' (first
    | ((first|apply cS|apply gS)<;>(intro hc;simp only [go_sem,hc])))
  all_goals first
    | grind [Rt]
    | (simp only [decide_eq_true_eq] at *
       refine ⟨dc, ?_⟩
       rw [Int.tmod_eq_emod_of_nonneg DF,NT DF DF]
       grind [Rt])
theorem AAl(a b:Fld):DR AA 161 [.agg a.c,.agg b.c] (.bool (Jt a b)):=by
 refine pC AMu rfl ?_
 simp only [f161,go_sem]
 repeat' (first
  | ((first|apply cS|apply gS)<;>(intro hc;simp only [go_sem,hc])))
 all_goals first
  | rfl
  | (simp only [Jt,i64];rfl)
  | grind [Jt,i64]
  | (simp only [Jt,i64];grind)
  | (simp [Jt,i64, *];done)
  | (simp_all [Jt,i64];done)
  | skip
set_option maxHeartbeats 2000000 in
theorem AY6(l:List Fld)(hb:DT (E8 l)<=1073741824):DR AA 89 [.sl none (E8 l)] (.int .i64 (N5 l)) := by
  have hn := aA hb
  refine pC ATd rfl ?_
  simp only [f89,go_sem]
  repeat' (first
    | ((first|apply cS|apply gS)<;>(intro hc;simp only [go_sem,hc])))
  all_goals first
    | rfl
    | (simp only [N5];rfl)
    | grind [N5]
    | (simp only [N5];grind)
    | (simp [N5, *];done)
    | (simp_all [N5];done)
    | skip
  refine EP l (λr=>HJ l (l.length - r.length) r) (λk=>[(0,.sl none (E8 l)),(3,.int .i64 k)]) DF rfl ?_ ?_
  · intro k y ys hd hx hF2 h0 h1 hw
    have hk2 := Eb hd
    have e1:l.length - (ys.length+1)=k := by omega
    have e2:l.length - ys.length=k+1 := by omega
    have ht:(l.take k).length=k := Io DF
    have hby:DT y.c<=1073741824 := by have := ADG hb (AB hx);simpa only [AV.bulk] using this
    simp only [AC,e1,AQ] at hF2
    simp only [go_sem,h0,h1,FP hx,By]
    repeat' (first
      | (refine pK (UY _ (kR hby)) ?_;simp only [go_sem,h0,h1,hw,FP hx,By])
      | ((first|apply cS|apply gS)<;>(intro hc;simp only [go_sem,hc,h0,h1,hw,FP hx,By])))
    all_goals first
      | rfl
      | (simp only [N5,HJ,Eu];rfl)
      | grind [N5,HJ,Eu]
      | (simp only [N5,HJ,Eu];grind)
      | (simp [N5,HJ,Eu, *];done)
      | (simp_all [N5,HJ,Eu];done)
      | skip
    refine EP (l.take k) (λr=>r.any (λz=>decide (z.name=y.name))) (λi=>[(0,.sl none (E8 l)),(3,.int .i64 k),(5,.int .i64 i)]) DF rfl ?_ ?_
    · intro i z zs hd3 hx3 hF3 h03 JA hw3
      rw [ht] at JA
      have hx4 := H8 hx3
      have Mo:(i:Int)<(l.length:Int) := by omega
      simp only [go_sem,h03,JA,Mo,h0,h1,FP hx4,FP hx,By]
      repeat' (first
        | ((first|apply cS|apply gS)<;>(intro hc;simp only [go_sem,hc,h03,JA,Mo,hw3,h0,h1,FP hx4,FP hx,By])))
      all_goals first
        | (have h5 : (l.take k).any (fun z => decide (z.name = y.name)) = true := by rw [hF3, Au, hc]; rfl
           grind [N5,HJ,Eu])
        | (first|(rw [Au,hc];rfl)|(rw [hc];rfl))
        | skip
    · intro hF3 hlt3
      rw [ht] at hlt3
      have k1:(l.take k).any (λz=>decide (z.name=y.name))=false := by rw [hF3];rfl
      simp only [go_sem,ht,hlt3,decide_false,h0,h1,FP hx]
      repeat' (first
        | (refine pK (ADr _) ?_;simp only [go_sem,h0,h1,hw,FP hx])
        | ((first|apply cS|apply gS)<;>(intro hc;simp only [go_sem,hc,h0,h1,hw,FP hx])))
      all_goals first
        | rfl
        | (simp only [N5,HJ,Eu];rfl)
        | grind [N5,HJ,Eu]
        | (simp only [N5,HJ,Eu];grind)
        | (simp [N5,HJ,Eu, *];done)
        | (simp_all [N5,HJ,Eu];done)
        | skip
      refine EP (l.take k) (λr=>r.any (λz=>Jt z y)) (λi=>[(0,.sl none (E8 l)),(3,.int .i64 k),(7,.int .i64 i)]) DF rfl ?_ ?_
      · intro i z zs hd4 hx5 hF4 h04 kb hw4
        rw [ht] at kb
        have hx6 := H8 hx5
        have Mo:(i:Int)<(l.length:Int) := by omega
        simp only [go_sem,h04,kb,Mo,h0,h1,FP hx6,FP hx]
        repeat' (first
          | (refine pK (AAl _ _) ?_;simp only [go_sem,h04,kb,Mo,hw4,h0,h1,FP hx6,FP hx])
          | ((first|apply cS|apply gS)<;>(intro hc;simp only [go_sem,hc,h04,kb,Mo,hw4,h0,h1,FP hx6,FP hx])))
        all_goals first
          | (have h5 : (l.take k).any (fun z => Jt z y) = true := by rw [hF4, Au, hc]; rfl
             grind [N5,HJ,Eu])
          | (first|(rw [Au,hc];rfl)|(rw [hc];rfl))
          | skip
      · intro hF4 hlt4
        rw [ht] at hlt4
        have k2:(l.take k).any (λz=>Jt z y)=false := by rw [hF4];rfl
        simp only [go_sem,ht,hlt4,decide_false,hw]
        rw [e1,e2]
        grind [HJ,Eu]
  · intro hF2 hlt2
    simp only [go_sem,hlt2,decide_false]
    all_goals first
      | rfl
      | (simp only [N5,HJ];rfl)
      | grind [N5,HJ]
      | (simp only [N5,HJ];grind)
      | (simp [N5,HJ, *];done)
      | (simp_all [N5,HJ];done)
      | skip
def Head.l(h:Head):List Int:=[h.h0,h.h1,h.h2,h.h3,h.h4,h.h5,h.h6,h.h7,h.h8,h.h9]
theorem ABt(h:Head):h.c=h.l.map (.int .i64):=rfl
def EF(h:Head):Bool:=h.l.all KS
theorem vE(h:Head):DR AA 46 [.agg h.c] (.bool (EF h)):=by
 refine pC AU4 rfl ?_
 simp only [f46,go_sem]
 refine EP h.l (λr=>r.all KS) (λk=>[(1,.ptr 0 0),(3,.int .i64 k)]) (by simp [Head.l]) rfl ?_ ?_
 ·intro k y ys hd hx hF h0 h1 hw
  have h2:(k:Int)<10:=h1
  have h3:(k:Int)<((10:Nat):Int):=h1
  have hg:h.c[k]? =some (.int .i64 y):=by rw [ABt,List.getElem?_map,hx];rfl
  simp only [go_sem,h0,h2,h3,hg]
  repeat' (first
   | ((first|apply cS|apply gS)<;>(intro hc;simp only [go_sem,hc,h0,h2,h3,hg,hw])))
  all_goals first
   | rfl
   | (simp only [EF,KS];rfl)
   | grind [EF,KS]
   | (simp only [EF,KS];grind)
   | (simp [EF,KS, *];done)
   | (simp_all [EF,KS];done)
   | skip
 ·intro hF hlt
  have h2 : ¬ ((h.l.length:Nat):Int)<10:=by simp [Head.l]
  simp only [go_sem,h2,decide_false]
  rw [EF,hF];rfl
@[go_sem] theorem AbL:((0:Int)<((10:Nat):Int))=True:=dc
@[go_sem] theorem AbK:((9:Int)<((10:Nat):Int))=True:=dc
theorem UI(H:DM)(x y:Option (List AV)):(H++[x]).set H.length y=H++[y]:=sm
attribute [go_sem] UI List.getElem?_concat_length
def xX(n:Nat)(Q:Exit->Kt)(e:Ee)(H2:DM):Prop :=
 ∃ st av,H2[n]? =some (some (Fl st av))/\((st=0/\Q .normal e (H2.set n none))\/(st = -2/\Q .ret e (H2.set n none)) \/ ∃ k:Nat,st=(k:Int)+1/\Q (.exit k) e (H2.set n none))
theorem YY {P:Program} {n tag:Nat} {h:Hint} {g:Operand} {rs:Array Tmp} {assign body:Code} {Q:Exit->Kt} {e:Ee} {H:DM} {f:FuncId} {first captured:List AV}
  (hg:Fj P none e g = .fn (.func f) first captured)
  (hc:Dx P f (first.map AV.borrow++[.yld H.length ⟨tag,rs,assign,body⟩]++captured.map AV.borrow) (H++[some (Fl 0 (GK n e))]) (λ_ H2=>xX H.length Q e H2)):rfK P n h none g rs assign body Q e H :=
 ⟨trivial,tag,f,first,captured,hg,hc⟩
def Hz(t:Tenant)(n:Int):Int:=if GB t n=true then N2 t n else -1
def Gz(e:Int):Nat->List Port->Int
 | _,[] => -1
 | i,x::r=>if 0<=e/\x.edge=e then (i:Int) else Gz e (i+1) r
def Gy(t:Tenant)(e:Int):Int:=Gz e 0 t.ports
def ID(e:Int):Nat->List Port->Int
 | _,[] => -1
 | i,x::r=>if x.edge ≠ -1/\x.edge=e then (i:Int) else ID e (i+1) r
def GY(t:Tenant)(e:Int):Int:=ID e 0 t.ports
def Je(p:Int)(h:Head):Head×Bool:=if p<0 then (Head.z,false) else ({ { h with h0:=p } with h9:=0 },true)
def PM(e:Int)(h:Head):Head×Bool:=if e<0 then (Head.z,false) else ({ h with h0:=i64 (10000+e) },true)
theorem iX(n lo hi:Int):DR AA 81 [.int .i64 n,.int .i64 lo,.int .i64 hi] (.bool (decide (lo<=n)&&decide (n<=hi))):=by
 refine pC AT2 rfl ?_
 simp only [f81,go_sem]
 repeat' (first
  | ((first|apply cS|apply gS)<;>(intro hc;simp only [go_sem,hc])))
 all_goals grind
theorem AQ8(t:Tenant)(n:Int):DR AA 39 [.agg t.c,.int .i64 n] (.int .i64 (Hz t n)):=by
 refine DR.fit AE6.c λhf=>?_
 have hl:=MG (Q1 hf)
 have hw:IntKind.i64.wrap ((t.ports.length:Int) - 1)=(t.ports.length:Int) - 1:=NT DF DF
 refine pC AE6 rfl ?_
 cases hp:GB t n with
 | false =>
  have hq:(decide (0<=n)&&decide (n<=(t.ports.length:Int) - 1))=false:=by unfold GB at hp;grind
  simp only [f39,go_sem]
  repeat' (first
   | (refine pK (iX _ _ _) ?_;simp only [go_sem,hw,hq])
   | ((first|apply cS|apply gS)<;>(intro hc;simp only [go_sem,hc,hw,hq])))
  all_goals first
   | rfl
   | (simp only [Hz,hp];rfl)
   | grind [Hz]
   | (simp only [Hz,hp];grind)
   | (simp [Hz,hp, *];done)
   | (simp_all [Hz,hp];done)
   | skip
 | true =>
  obtain ⟨h1,h2,p,h3,h4,h5⟩:=Ut hp
  have hq:(decide (0<=n)&&decide (n<=(t.ports.length:Int) - 1))=true:=by grind
  simp only [f39,go_sem]
  repeat' (first
   | (refine pK (iX _ _ _) ?_;simp only [go_sem,hw,hq,h1,h2,h5])
   | ((first|apply cS|apply gS)<;>(intro hc;simp only [go_sem,hc,hw,hq,h1,h2,h5])))
  all_goals first
   | rfl
   | (simp only [Hz,hp];rfl)
   | grind [Hz]
   | (simp only [Hz,hp];grind)
   | (simp [Hz,hp, *];done)
   | (simp_all [Hz,hp];done)
   | skip
theorem ib(t:Tenant)(e:Int):DR AA 164 [.agg t.c,.int .i64 e] (.int .i64 (Gy t e)):=by
 refine DR.fit zh.c λhf=>?_
 have hl:=MG (Q1 hf)
 refine pC zh rfl ?_
 simp only [f164,go_sem]
 refine EP t.ports (λr=>Gz e (t.ports.length - r.length) r) (λk=>[(1,.int .i64 e),(2,.ptr 0 0),(5,.int .i64 k)]) hl rfl ?_ ?_
 ·intro k y ys hd hx hF h0 h1 hw
  have hk2:=Eb hd
  have e1:t.ports.length - (ys.length+1)=k:=DF
  have e2:t.ports.length - ys.length=k+1:=DF
  simp only [AC,e1,AQ] at hF
  simp only [go_sem,h0,h1,FD hx,e1,e2]
  repeat' (first
   | ((first|apply cS|apply gS)<;>(intro hc;simp only [go_sem,hc,h0,h1,hw,FD hx,e1,e2])))
  all_goals first
   | rfl
   | (simp only [Gy,Gz];rfl)
   | grind [Gy,Gz]
   | (simp only [Gy,Gz];grind)
   | (simp [Gy,Gz, *];done)
   | (simp_all [Gy,Gz];done)
   | skip
 ·intro hF hlt
  simp only [go_sem,hlt,decide_false]
  all_goals first
   | rfl
   | (simp only [Gy,Gz];rfl)
   | grind [Gy,Gz]
   | (simp only [Gy,Gz];grind)
   | (simp [Gy,Gz, *];done)
   | (simp_all [Gy,Gz];done)
   | skip
theorem AAs(t:Tenant)(h:Head):DR AA 12 [.agg t.c,.agg h.c] (.tup [.agg (PM (Hz t h.h0) h).1.c,.bool (PM (Hz t h.h0) h).2]):=by
 refine pB AWD rfl ?_
 simp only [f12,go_sem]
 repeat' (first
  | (refine pK (AQ8 _ _) ?_;simp only [go_sem])
  | ((first|apply cS|apply gS)<;>(intro hc;simp only [go_sem,hc])))
 all_goals first
  | rfl
  | (simp only [PM,i64];rfl)
  | grind [PM,i64]
  | (simp only [PM,i64];grind)
  | (simp [PM,i64, *];done)
  | (simp_all [PM,i64];done)
  | skip
theorem AAd(t:Tenant)(H:DM):Dx AA 62 [.agg t.c] H (λv H'=>v = .fn (.func 116) [] [.ptr H.length 0]/\H'=H++[some t.c]):=by
 refine aC AUi rfl ?_
 simp only [f62,go_sem]
theorem pT (t:Tenant) (hl:t.ports.length<=1073741824) (o p:Nat) (L:LoopRec) (H0:DM) (Inv:Nat->DM->Prop) (Q:DM->Prop)
  (hp : ∀ k H,Inv k H->H[p]? =some (some t.c)) (hg : ∀ k H x,Inv k H->Inv k (H++[x]))
  (round : ∀ k x H,t.ports[k]? =some x->x.edge ≠ -1->Inv k H->ME AA o L [.int .i64 k,.int .i64 x.edge] H (λv H'=>(v = .bool true/\Inv (k+1) H')\/(v = .bool false/\Q H')))
  (skip : ∀ k x H,t.ports[k]? =some x->x.edge = -1->Inv k H->Inv (k+1) H)
  (fin : ∀ H,Inv t.ports.length H->Q H) (h0:Inv 0 H0):Dx AA 116 [.yld o L,.ptr p 0] H0 (λ_ H'=>Q H'):=by
 refine aC AO7 rfl ?_
 have hp0:=hp 0 H0 h0
 simp only [f116,go_sem,hp0]
 refine Jn (σ:=Nat×DM) (λs=>[(0,.yld o L),(6,.sl none (JG t.ports)),(7,.int .i64 t.ports.length),(8,.int .i64 s.1)]) (λs=>s.2) (λs=>s.1<=t.ports.length/\Inv s.1 s.2) (λs=>t.ports.length - s.1) (0,H0) ⟨Nat.zero_le _,h0⟩ rfl rfl ?_
 rintro ⟨k,H⟩ ⟨hk,hI⟩
 by_cases hlt:k<t.ports.length
 ·obtain ⟨x,hx⟩ : ∃ x,t.ports[k]? =some x:=⟨_,AL hlt⟩
  have h0:(0:Int)<=(k:Int):=DF
  have h1:(k:Int)<(t.ports.length:Int):=DF
  have hw:=Ln (k:=k) DF
  simp only [go_sem,h0,h1,FD hx,decide_true]
  repeat' (first
   | ((first|apply cS|apply gS)<;>(intro hc;simp only [go_sem,hc,h0,h1,hw,FD hx])))
  ·refine M3.intro (round k x _ hx (by simpa using hc) (hg _ _ _ hI)) λv H' hr=>?_
   rcases hr with ⟨rfl,hi⟩|⟨rfl,hq⟩
   ·simp only [go_sem,hw,Bool.not_true]
    exact ⟨(k+1,H'),⟨DF,hi⟩,DF,rfl,rfl⟩
   ·simp only [go_sem,Av]
    exact hq
  ·exact ⟨(k+1,H++[some x.c]),⟨DF,hg _ _ _ (skip k x H hx (by simpa using hc) hI)⟩,DF,rfl,rfl⟩
 ·have h1 : ¬ (k:Int)<(t.ports.length:Int):=DF
  have hkl:k=t.ports.length:=DF
  simp only [go_sem,h1,decide_false]
  exact fin H (hkl▸hI)
theorem AQ7(t:Tenant)(hl:t.ports.length<=1073741824)(e:Int):DR AA 34 [.agg t.c,.int .i64 e] (.int .i64 (GY t e)):=by
 refine pC AVg rfl ?_
 simp only [f34,go_sem]
 refine Eh.intro (AAd t _) λv H' hr=>?_
 obtain ⟨rfl,rfl⟩:=hr
 simp only [go_sem]
 have step : ∀ (k:Nat) (x:Port),t.ports[k]? =some x->ID e k (t.ports.drop k)=if x.edge ≠ -1/\x.edge=e then (k:Int) else ID e (k+1) (t.ports.drop (k+1)):=λk x hx=>by
  obtain ⟨hlt,rfl⟩:=AD.1 hx
  rw [BJ hlt,ID]
 refine YY (tag:=34) rfl (Dx.mono (pT t hl 4 3 _ _
  (λk H => ∃ g,H=some t.c::some [.int .i64 e]::some [.int .i64 0]::some t.c::some (Fl 0 (GK 15 [(3,.ptr 1 0),(4,.ptr 2 0),(8,.fn (.func 116) [] [.ptr 3 0])]))::g/\GY t e=ID e k (t.ports.drop k))
  (λH=>(∃ g,H=some t.c::some [.int .i64 e]::some [.int .i64 0]::some t.c::some (Fl 0 (GK 15 [(3,.ptr 1 0),(4,.ptr 2 0),(8,.fn (.func 116) [] [.ptr 3 0])]))::g/\GY t e = -1)
   \/ ∃ g r,H=some t.c::some [.int .i64 e]::some [.int .i64 r]::some t.c::some (Fl (-2) (GK 15 [(3,.ptr 1 0),(4,.ptr 2 0),(8,.fn (.func 116) [] [.ptr 3 0])]))::g/\GY t e=r)
  ?_ ?_ ?_ ?_ ?_ ?_) λv H2 hq=>?_)
 ·rintro k H ⟨g,rfl,_⟩;rfl
 ·rintro k H x ⟨g,rfl,h⟩;exact ⟨g++[x],rfl,h⟩
 ·rintro k x H hx hne ⟨g,rfl,h⟩
  refine KR (h:=uZ) (n:=15) mixed rfl ⟨kr,kr⟩ dc _ _ _ _ rfl rfl rfl ?_
  show Hw _ _ _ _ _ _ [(10,.int .i64 x.edge),(9,.int .i64 k),(0,.undef),(1,.undef),(2,.undef),(3,.ptr 1 0),(4,.ptr 2 0),(5,.undef),(6,.undef),(7,.undef),(8,.fn (.func 116) [] [.ptr 3 0]),(9,.undef),(10,.undef),(11,.undef),(12,.undef),(13,.undef),(14,.undef)] _
  simp only [go_sem]
  refine ⟨_,rfl,TD _ _ _ (λhc=>?_) (λhc=>?_)⟩
  ·simp only [go_sem,hc]
   exact ⟨_,rfl,.inr (.inr ⟨g,(k:Int),rfl,by rw [h,step k x hx,if_pos ⟨hne,by simpa using hc⟩]⟩)⟩
  ·simp only [go_sem,hc]
   first
    | exact ⟨_,rfl,g,rfl,by rw [h,step k x hx,if_neg (λc=>by rw [c.2] at hc;simp at hc)]⟩
    | exact ⟨_,rfl,.inl ⟨g,rfl,by rw [h,step k x hx,if_neg (λc=>by rw [c.2] at hc;simp at hc)]⟩⟩
 ·rintro k x H hx hne ⟨g,rfl,h⟩
  exact ⟨g,rfl,by rw [h,step k x hx,if_neg (λc=>c.1 hne)]⟩
 ·rintro H ⟨g,rfl,h⟩
  exact .inl ⟨g,rfl,by rw [h,List.drop_length];rfl⟩
 ·exact ⟨[],rfl,rfl⟩
 ·rcases hq with ⟨g,rfl,h⟩|⟨g,r,rfl,h⟩
  ·refine ⟨0,_,rfl,.inl ⟨rfl, ?_⟩⟩
   show az 0 _ .normal _ (some t.c::some [.int .i64 e]::some [.int .i64 0]::some t.c::none::g)
   simp only [go_sem,h]
   all_goals skip
  ·refine ⟨-2,_,rfl,.inr (.inl ⟨rfl, ?_⟩)⟩
   show az 0 _ .ret _ (some t.c::some [.int .i64 e]::some [.int .i64 r]::some t.c::none::g)
   simp only [go_sem,h]
   all_goals skip
theorem au(t:Tenant)(hl:t.ports.length<=1073741824)(h:Head):DR AA 9 [.agg t.c,.agg h.c] (.tup [.agg (Je (GY t (i64 (h.h0 - 10000))) h).1.c,.bool (Je (GY t (i64 (h.h0 - 10000))) h).2]):=by
 refine pB Aa1 rfl ?_
 simp only [f9,go_sem]
 repeat' (first
  | (refine pK (AQ7 _ hl _) ?_;simp only [go_sem])
  | ((first|apply cS|apply gS)<;>(intro hc;simp only [go_sem,hc])))
 all_goals first
  | rfl
  | (simp only [Je,i64];rfl)
  | grind [Je,i64]
  | (simp only [Je,i64];grind)
  | (simp [Je,i64, *];done)
  | (simp_all [Je,i64];done)
  | skip
theorem mE{α:Type}{p:α->Bool}{q:α->α->Bool}{l:List α}(h:HC p q l=true): ∀ (k:Nat) (x:α),l[k]? =some x->p x=true /\ ∀ (j:Nat) (y:α),j<k->l[j]? =some y->q y x=false:=by
 have key : ∀ (n i:Nat),l.length - i=n->HR p q l i (l.drop i)=true -> ∀ (k:Nat) (x:α),i<=k->l[k]? =some x->p x=true /\ ∀ (j:Nat) (y:α),j<k->l[j]? =some y->q y x=false:=by
  intro n
  induction n with
  | zero =>
   intro i hi _ k x hk hx
   have:=(AD.1 hx).1
   omega
  | succ n ih =>
   intro i hi ho k x hk hx
   have hlt:i<l.length:=DF
   rw [BJ hlt,HR] at ho
   simp only [AR,BX] at ho
   obtain ⟨⟨h1,h2⟩,h3⟩:=ho
   rcases Nat.eq_or_lt_of_le hk with rfl|hk
   ·rw [AL hlt] at hx
    cases hx
    refine ⟨h1,λj y hj hy=>?_⟩
    rw [List.any_eq_false] at h2
    have hm:y∈l.take i:=AB (i:=j) (by rw [Aj,if_pos hj];exact hy)
    simpa using h2 y hm
   ·exact ih (i+1) DF h3 k x hk hx
 intro k x hx
 exact key l.length 0 DF (by rw [BN];exact h) k x (Nat.zero_le _) hx
section
variable {s:Setup} {t:Tenant} {h:Head}
end
end Go.AI
