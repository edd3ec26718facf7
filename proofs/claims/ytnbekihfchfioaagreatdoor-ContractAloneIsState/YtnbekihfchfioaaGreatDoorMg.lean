/- What the functions of the layers field,graph,token,syntax compute,in plain Lean. -/
import Derived.Test.YtnbekihfchfioaaGreatDoorQd
import Derived.Test.YtnbekihfchfioaaGreatDoorMf
import Derived.Test.YtnbekihfchfioaaGreatDoorMe
set_option linter.unusedSimpArgs false
set_option linter.unusedVariables false
set_option linter.defProp false
set_option maxHeartbeats 8000000
open Go.Proofs.Tryz
open Go.AI renaming Sizes->Ef,Pred->Eg,Policy->Eh,Regex->Ei,Stage->Ej,Network->Ek,Tenant->El,Setup->Em,Head->En
open Bool renaming and_eq_true->AR,false_or->BL,not_eq_false'->CW,not_eq_true'->BX,not_false->Av,true_or->BM
open Int renaming lt_irrefl->AY
open List renaming all_cons->Ak,all_nil->Aw,any_cons->Au,append_assoc->AF,append_nil->Ah,drop_eq_getElem_cons->BJ,drop_zero->BN,getElem?_eq_getElem->AL,getElem?_eq_some_iff->AD,getElem?_take->Aj,length_append->AE,length_cons->AC,length_map->Aq,map_cons->AT,mem_cons->AZ,mem_map->AO,mem_of_find?_eq_some->DG,mem_of_getElem?->AB,nil_append->AN
open Nat renaming le_trans->AK,sub_self->AQ,sub_zero->BS,zero_le->BY
open Go.Proofs.Tryz renaming prog->AA
namespace Go.AI
def i64(n:Int):Int:=IntKind.i64.wrap n
def bz(c:UInt8):Int:=c.toNat
def loB(c:UInt8):Bool:=decide (97<=bz c)&&decide (bz c<=122)
def dgB(c:UInt8):Bool:=decide (48<=bz c)&&decide (bz c<=57)
def wdB(c:UInt8):Bool:=loB c||dgB c||bz c==95
def rJ:Nat->List UInt8->Bool
 | _,[]=>true
 | i,c::l=>(loB c||((dgB c||bz c==95)&&i !=0))&&rJ (i+1) l
def nmB(s:ByteArray):Bool:=rJ 0 s.data.toList&&(decide (1<=(s.size:Int))&&decide ((s.size:Int)<=24))
def MG:List UInt8->Nat
 | []=>0
 | c::l=>if wdB c then MG l+1 else 0
def S3(s:ByteArray):Bool:=HE.any (λy=>decide (y=s))
def tnB(s:ByteArray):Bool :=
 (decide (1<=(s.size:Int))&&decide ((s.size:Int)<=24))&&((match s.data.toList with|c::_=>loB c|[]=>false)&&(((MG s.data.toList:Int)==(s.size:Int)) && !S3 s))
def F9:ByteArray:=⟨#[112,111,114,116]⟩
def UR(s:ByteArray):Bool:=tnB s||decide (s=F9)
def Vj(a b:Int):Int:=if a<b then b else a
def Sizes.more(a b:Ef):Ef:=⟨i64 (a.nodes+b.nodes),Vj a.depth (i64 (b.depth+1))⟩
mutual
def kJ:Eg->Ef
 | ⟨_,_,_,_,args⟩=>Ug args ⟨1,1⟩
def Ug:List Eg->Ef->Ef
 | [],o=>o
 | x::l,o=>Ug l (o.more (kJ x))
end
mutual
def kK:Eh->Ef
 | ⟨k,p,_,_,args⟩=>Pf args (if k=1 then Sizes.more ⟨1,1⟩ (kJ p) else ⟨1,1⟩)
def Pf:List Eh->Ef->Ef
 | [],o=>o
 | x::l,o=>Pf l (o.more (kK x))
end
mutual
def szR:Ei->Ef
 | ⟨_,_,args⟩=>Y9 args ⟨1,1⟩
def Y9:List Ei->Ef->Ef
 | [],o=>o
 | x::l,o=>Y9 l (o.more (szR x))
end
def xy(x:Eg):kJ x=Ug x.args ⟨1,1⟩:=by cases x;rw [kJ]
def YA(x:Eg)(l:List Eg)(o:Ef):Ug (x::l) o=Ug l (o.more (kJ x)):=by rw [Ug]
def b9(o:Ef):Ug [] o=o:=by rw [Ug]
def ZA(x:Eh):kK x=Pf x.args (if x.kind=1 then Sizes.more ⟨1,1⟩ (kJ x.pred) else ⟨1,1⟩):=by cases x;rw [kK]
def Md(x:Eh)(l:List Eh)(o:Ef):Pf (x::l) o=Pf l (o.more (kK x)):=by rw [Pf]
def OF(o:Ef):Pf [] o=o:=by rw [Pf]
def AGe(x:Ei):szR x=Y9 x.args ⟨1,1⟩:=by cases x;rw [szR]
def qT(x:Ei)(l:List Ei)(o:Ef):Y9 (x::l) o=Y9 l (o.more (szR x)):=by rw [Y9]
def xx(o:Ef):Y9 [] o=o:=by rw [Y9]
mutual
def pT:Eg->Eg->Bool
 | ⟨k,f,n,m,xs⟩,⟨k',f',n',m',ys⟩=>(k==k'&&(decide (f=f')&&(n==n'&&(m==m'&&xs.length==ys.length))))&&Tp xs ys
def Tp:List Eg->List Eg->Bool
 | [],_=>true
 | x::l,y::r=>pT x y&&Tp l r
 | _::_,[]=>false
end
mutual
def eqO:Eh->Eh->Bool
 | ⟨k,p,f,n,xs⟩,⟨k',p',f',n',ys⟩=>pT p p'&&((k==k'&&(decide (f=f')&&(n==n'&&xs.length==ys.length)))&&AX5 xs ys)
def AX5:List Eh->List Eh->Bool
 | [],_=>true
 | x::l,y::r=>eqO x y&&AX5 l r
 | _::_,[]=>false
end
theorem Im(x y:Eg):pT x y=((x.kind==y.kind&&(decide (x.field=y.field)&&(x.n==y.n&&(x.m==y.m&&x.args.length==y.args.length))))&&Tp x.args y.args):=by cases x;cases y;rw [pT]
theorem Iz(x y:Eg)(l r:List Eg):Tp (x::l) (y::r)=(pT x y&&Tp l r):=by rw [Tp]
theorem Lr(l:List Eg):Tp [] l=true:=by rw [Tp]
def OY:List ByteArray->List ByteArray->Bool
 | [],_=>true
 | x::l,y::r=>decide (x=y)&&OY l r
 | _::_,[]=>false
theorem Jm(x y:ByteArray)(l r:List ByteArray):OY (x::l) (y::r)=(decide (x=y)&&OY l r):=by rw [OY]
theorem Lo(l:List ByteArray):OY [] l=true:=by rw [OY]
def bt(x y:Stp):Bool :=
 (x.kind==y.kind&&(decide (x.var=y.var)&&(decide (x.field=y.field)&&(x.n==y.n&&(x.m==y.m&&x.key.length==y.key.length)))))&&OY x.key y.key
def NB(n:Int):Bool:=decide (0<=n)&&decide (n<=65535)
def JL(x:Eg):Bool:=decide (x.field=⟨#[]⟩)&&(x.n==0&&x.m==0)
def SR(x:Eg):Bool×Nat :=
 if x.kind=1\/x.kind=2 then (JL x,0)
 else if x.kind=3 then (UR x.field&&(NB x.n&&x.m==0),0)
 else if x.kind=4 then (UR x.field&&(NB x.n&&(decide (0<=x.m)&&decide (x.m<=16))),0)
 else if x.kind=5 then (UR x.field&&(decide (0<=x.n)&&(decide (x.n<=x.m)&&decide (x.m<=65535))),0)
 else if x.kind=6 then (JL x,1)
 else if x.kind=7\/x.kind=8 then (JL x,2)
 else if x.kind=9 then (decide (x.field=⟨#[]⟩)&&(decide (0<=x.n)&&(decide (x.n<x.m)&&decide (x.m<=1073741824))),0)
 else (false,0)
mutual
def NC:Eg->Bool
 | ⟨k,f,n,m,xs⟩=>((SR ⟨k,f,n,m,xs⟩).1&&xs.length==(SR ⟨k,f,n,m,xs⟩).2)&&Vn xs
def Vn:List Eg->Bool
 | []=>true
 | x::l=>NC x&&Vn l
end
theorem Hh(x:Eg):NC x=(((SR x).1&&x.args.length==(SR x).2)&&Vn x.args):=by cases x;rw [NC]
def KX(x:Eg)(l:List Eg):Vn (x::l)=(NC x&&Vn l):=by rw [Vn]
def Hg:Vn []=true:=by rw [Vn]
abbrev PY:Eg:=Pred.z
def U7(x:Eh):Bool×Nat :=
 if x.kind=1 then (NC x.pred&&(decide (x.field=⟨#[]⟩)&&x.n==0),0)
 else if x.kind=2 then (UR x.field&&(pT x.pred PY&&NB x.n),0)
 else if x.kind=3\/x.kind=4 then (pT x.pred PY&&(decide (x.field=⟨#[]⟩)&&x.n==0),2)
 else if x.kind=5 then (pT x.pred PY&&(decide (x.field=⟨#[]⟩)&&x.n==0),1)
 else (false,0)
mutual
def RQ:Eh->Bool
 | ⟨k,p,f,n,xs⟩=>((U7 ⟨k,p,f,n,xs⟩).1&&xs.length==(U7 ⟨k,p,f,n,xs⟩).2)&&Vo xs
def Vo:List Eh->Bool
 | []=>true
 | x::l=>RQ x&&Vo l
end
theorem IJ(x:Eh):RQ x=(((U7 x).1&&x.args.length==(U7 x).2)&&Vo x.args):=by cases x;rw [RQ]
def KY(x:Eh)(l:List Eh):Vo (x::l)=(RQ x&&Vo l):=by rw [Vo]
def Ik:Vo []=true:=by rw [Vo]
def xN(x:Ei):Bool×Nat :=
 if x.kind=1\/x.kind=3 then (decide (x.node=⟨#[]⟩),0)
 else if x.kind=2 then (tnB x.node,0)
 else if x.kind=4\/x.kind=5 then (decide (x.node=⟨#[]⟩),2)
 else if x.kind=6 then (decide (x.node=⟨#[]⟩),1)
 else (false,0)
mutual
def fmR:Ei->Bool
 | ⟨k,n,xs⟩=>((xN ⟨k,n,xs⟩).1&&xs.length==(xN ⟨k,n,xs⟩).2)&&Zz xs
def Zz:List Ei->Bool
 | []=>true
 | x::l=>fmR x&&Zz l
end
theorem Qi(x:Ei):fmR x=(((xN x).1&&x.args.length==(xN x).2)&&Zz x.args):=by cases x;rw [fmR]
def Yi(x:Ei)(l:List Ei):Zz (x::l)=(fmR x&&Zz l):=by rw [Zz]
def AAt:Zz []=true:=by rw [Zz]
def QR(z:Ef):Int:=if z.nodes>200\/z.depth>20 then 2 else 0
def pP(z:Ef)(b:Bool):Int:=if QR z=0 then (if b then 0 else 1) else QR z
def ckP(x:Eg):Int:=pP (kJ x) (NC x)
def UW(x:Eh):Int:=pP (kK x) (RQ x)
def ckR(x:Ei):Int:=pP (szR x) (fmR x)
abbrev vj:Stp:=Stp.z
def Yh(x:Stp):Bool :=
 if bt x vj then true
 else if !tnB x.var\/x.key.length<1\/4<x.key.length \/ !x.key.all UR then false
 else if x.kind=1 then (UR x.field||decide (x.field=⟨#[]⟩))&&(x.n==0&&x.m==0)
 else if x.kind=2 then decide (x.field=⟨#[]⟩)&&(x.n==0&&x.m==0)
 else if x.kind=3 then decide (x.field=⟨#[]⟩)&&(decide (0<=x.n)&&(decide (x.n<=1073741824)&&x.m==0))
 else if x.kind=4 then UR x.field&&(decide (0<=x.n)&&(decide (x.n<=x.m)&&decide (x.m<=65535)))
 else if x.kind=5 then UR x.field&&(x.n==0&&x.m==0)
 else if x.kind=6 then decide (x.field=⟨#[]⟩)&&(decide (1<=x.n)&&(decide (x.n<=65535)&&(decide (1<=x.m)&&decide (x.m<=1073741824))))
 else false
def bu(x:Stp):Int:=if Yh x then 0 else 1
def Pj:List Ej->Int
 | []=>0
 | x::l=>if UW x.policy=0 then (if bu x.step=0 then Pj l else bu x.step) else UW x.policy
def Wr(l:List Ej):Int:=if 8<l.length then 2 else Pj l
mutual
def OG:Eh->Int
 | ⟨k,_,_,_,args⟩=>if k=5 then i64 (Jt args 0+1) else Jt args 0
def Jt:List Eh->Int->Int
 | [],o=>o
 | x::l,o=>Jt l (Vj o (OG x))
end
mutual
def YI:Eh->Int
 | ⟨k,_,_,_,args⟩=>if k=2 then i64 (Li args 0+1) else Li args 0
def Li:List Eh->Int->Int
 | [],o=>o
 | x::l,o=>Li l (i64 (o+YI x))
end
theorem Me(x:Eh):OG x=if x.kind=5 then i64 (Jt x.args 0+1) else Jt x.args 0:=by cases x;rw [OG]
def ZE(x:Eh)(l:List Eh)(o:Int):Jt (x::l) o=Jt l (Vj o (OG x)):=by rw [Jt]
def cA(o:Int):Jt [] o=o:=by rw [Jt]
theorem OK(x:Eh):YI x=if x.kind=2 then i64 (Li x.args 0+1) else Li x.args 0:=by cases x;rw [YI]
def cX(x:Eh)(l:List Eh)(o:Int):Li (x::l) o=Li l (i64 (o+YI x)):=by rw [Li]
def kW(o:Int):Li [] o=o:=by rw [Li]
def OR(x:Eh):Bool :=
 let n:=OG x
 let k:=YI x
 n==0||(n==1&&decide (k<=8)||(n==2&&decide (k<=4)||(n==3&&decide (k<=3)||n==4&&decide (k<=2))))
def XL(x:Eg):Bool:=decide ((kJ x).nodes<=400)&&decide ((kJ x).depth<=60)
def mP(x:Eh):Bool:=decide ((kK x).nodes<=400)&&(decide ((kK x).depth<=60)&&decide ((kJ x.pred).nodes<=400))
def fj(x:Ei):Bool:=decide ((szR x).nodes<=400)&&decide ((szR x).depth<=60)
def Kz(l:List Ej):Bool:=l.all λx=>mP x.policy&&decide ((x.step.key.length:Int)<=20)
def Oi(l:List Ej):Bool:=Kz (l.take 12)&&decide ((l.length:Int)<=12)
def mQ(n:Ek)(a b c:Int):Bool:=decide ((n.nodes.length:Int)<=a)&&(decide ((n.links.length:Int)<=b)&&decide ((n.edges.length:Int)<=c))
def Lq(t:El):Bool :=
 (Oi t.program&&(decide ((t.ports.length:Int)<=80)&&(decide ((t.wires.length:Int)<=80)&&(decide ((t.routes.length:Int)<=20)&&decide ((t.demands.length:Int)<=80))))) &&
  ((t.program.all λx=>decide (OG x.policy<=2)&&OR x.policy)&&(t.routes.all λx=>XL x.pred&&fj x.path))
def SJ(f:Fld):Bool :=
 decide (1<=f.width)&&(decide (f.width<=16)&&(decide (16<=f.at_)&&(decide (f.at_<=143)&&decide (f.at_ % 16+f.width<=16))))
def Ko(a b:Fld):Bool:=decide (a.at_<i64 (b.at_+b.width))&&decide (b.at_<i64 (a.at_+a.width))
def IU(l:List Fld):Nat->List Fld->Int
 | _,[]=>0
 | i,x::r=>if !nmB x.name\/x.name=F9 then 4 else if (l.take i).any (λy=>decide (y.name=x.name)) then 4
  else if !SJ x then 1 else if (l.take i).any (λy=>Ko y x) then 1 else IU l (i+1) r
def Oq(l:List Fld):Int:=if 16<l.length then 2 else IU l 0 l
def Ic(n:Ek)(k:Int):Bool:=decide (0<=k)&&decide (k<n.nodes.length)
def JT:Fld:=⟨F9,0,16⟩
def FY(l:List Fld)(s:ByteArray):Fld×Bool :=
 if s=F9 then (JT,true) else match l.find? (λf=>decide (f.name=s)) with
  | some f=>(f,true)
  | none=>(Fld.z,false)
def Wx:Nat->Int
 | 0=>1
 | n+1=>i64 (Wx n*2)
def KQ(f:Fld):Int:=i64 (Wx f.width.toNat - 1)
mutual
def SG:Eg->List Eg
 | ⟨k,f,n,m,xs⟩=>⟨k,f,n,m,xs⟩::Mh xs
def Mh:List Eg->List Eg
 | []=>[]
 | x::l=>SG x++Mh l
end
mutual
def Mi:Eh->List Eh
 | ⟨k,p,f,n,xs⟩=>⟨k,p,f,n,xs⟩::L8 xs
def L8:List Eh->List Eh
 | []=>[]
 | x::l=>Mi x++L8 l
end
def LM(x:Eg):SG x=x::Mh x.args:=by cases x;rw [SG]
def Ja(x:Eg)(l:List Eg):Mh (x::l)=SG x++Mh l:=by rw [Mh]
def LY:Mh []=[]:=by rw [Mh]
def Kk(x:Eh):Mi x=x::L8 x.args:=by cases x;rw [Mi]
def If(x:Eh)(l:List Eh):L8 (x::l)=Mi x++L8 l:=by rw [L8]
def KL:L8 []=[]:=by rw [L8]
def Kh(x:Eg):FP x.c=x.field.size+5+FP (GE x.args):=by
 show FP [_,_,_,_,_]=_
 simp only [FP,AV.bulk];omega
def Iq(x:Eh):FP x.c=FP x.pred.c+x.field.size+4+FP (Fz x.args):=by
 show FP [_,_,_,_,_,_,_,_,_]=_
 rw [Kh]
 simp only [FP,AV.bulk];omega
def cd : ∀ x:Eg,(SG x).length<=FP x.c:=by
 refine JP _ λx ih=>?_
 rw [LM,Kh,HZ]
 have : ∀ l:List Eg,(∀ y∈l,(SG y).length<=FP y.c)->(Mh l).length<=FP (l.map λx => .agg x.c):=by
  intro l
  induction l with
  | nil=>intro _;simp [LY]
  | cons y l ihl =>
   intro h
   have h1:=h y sm
   have h2:=ihl λz hz=>h z (by simp [hz])
   rw [Ja,AE]
   simp only [AT,FP,AV.bulk]
   omega
 have:=this x.args ih
 simp only [AC]
 omega
def RA : ∀ x:Eh,(Mi x).length<=FP x.c:=by
 refine Hj _ λx ih=>?_
 rw [Kk,Iq,Gc]
 have : ∀ l:List Eh,(∀ y∈l,(Mi y).length<=FP y.c)->(L8 l).length<=FP (l.map λx => .agg x.c):=by
  intro l
  induction l with
  | nil=>intro _;simp [KL]
  | cons y l ihl =>
   intro h
   have h1:=h y sm
   have h2:=ihl λz hz=>h z (by simp [hz])
   rw [If,AE]
   simp only [AT,FP,AV.bulk]
   omega
 have:=this x.args ih
 simp only [AC]
 omega
def qh : ∀ x:Eh,∀ y∈Mi x,FP y.c<=FP x.c:=by
 refine Hj _ λx ih=>λy hy=>?_
 rw [Kk] at hy
 rcases AZ.1 hy with rfl|hy
 ·exact Nat.le_refl _
 have : ∀ l:List Eh,(∀ z∈l,∀ y∈Mi z,FP y.c<=FP z.c) -> ∀ y∈L8 l,FP y.c<=FP (l.map λx => .agg x.c):=by
  intro l
  induction l with
  | nil=>intro _ y hy;rw [KL] at hy;cases hy
  | cons z l ihl =>
   intro h y hy
   rw [If] at hy
   simp only [AT,FP,AV.bulk]
   rcases List.mem_append.1 hy with hy|hy
   ·have:=h z sm y hy;omega
   ·have:=ihl (λz hz=>h z (by simp [hz])) y hy;omega
 have:=this x.args ih y hy
 have h2:=Iq x
 rw [Gc] at h2
 omega
def Ph(l:List Fld)(x:Eg):Int :=
 if x.kind≠3/\x.kind≠4/\x.kind≠5 then 0
 else if (FY l x.field).2=false then 4
 else if KQ (FY l x.field).1<(if x.kind=5 then x.m else x.n)\/(x.kind=4/\(FY l x.field).1.width<x.m) then 1 else 0
def LF(l:List Fld):List Eg->Int
 | []=>0
 | x::r=>if Ph l x=0 then LF l r else Ph l x
def RR(l:List Fld)(x:Eg):Int:=LF l (SG x)
def Tq(l:List Fld)(x:Eg):Int:=if ckP x=0 then RR l x else ckP x
def RB(l:List Fld)(x:Eh):Int :=
 if x.kind=1 then RR l x.pred
 else if x.kind=2 then (if (FY l x.field).2=false then 4 else if KQ (FY l x.field).1<x.n then 1 else 0)
 else 0
def LC(l:List Fld):List Eh->Int
 | []=>0
 | x::r=>if RB l x=0 then LC l r else RB l x
def Kd(l:List Fld)(x:Eh):Int:=if UW x=0 then LC l (Mi x) else UW x
def JV(l:List ByteArray):Nat->List ByteArray->Bool
 | _,[]=>true
 | i,x::r => !(l.take i).any (λy=>decide (y=x))&&JV l (i+1) r
def Jw(s:Stp):List ByteArray:=if s.field=⟨#[]⟩ then s.key else s.key++[s.field]
def L4(l:List Fld)(s:Stp):Int :=
 if bu s≠0\/s.kind=0 then bu s
 else if !(Jw s).all (λy=>(FY l y).2) then 4
 else if !JV s.key 0 s.key then 1
 else if s.kind=4/\KQ (FY l s.field).1<s.m then 1 else 0
def LQ(k:Int):Int:=if k=1 then 1 else if k=2\/k=3 then 2 else if k=4\/k=5 then 3 else 4
def It(l:List Fld)(key:List ByteArray):List Int:=key.map λy=>(FY l y).1.width
def Lk(s:Stp):Bool:=s.kind==4||s.kind==6
def XM(a b:List Int):Bool:=decide (a=b)
def Tv(l:List Fld)(s t:Stp):Bool :=
 !((Lk s&&Lk t)&&(s.n !=t.n||s.m !=t.m))&&(XM (It l s.key) (It l t.key)&&LQ s.kind==LQ t.kind)
def Mf(l:List Fld):List Ej->Int
 | []=>0
 | x::r=>if Kd l x.policy=0 then (if L4 l x.step=0 then Mf l r else L4 l x.step) else Kd l x.policy
def LG(l:List Fld)(s t:Stp):Bool:=(s.kind !=0&&t.kind !=0)&&(decide (s.var=t.var) && !Tv l s t)
def Kr(l:List Fld)(p:List Ej):Nat->List Ej->Bool
 | _,[]=>true
 | i,x::r => !(p.take i).any (λy=>LG l y.step x.step)&&Kr l p (i+1) r
def P3(l:List Fld)(p:List Ej):Int :=
 if Wr p≠0 then Wr p else if Mf l p≠0 then Mf l p else if Kr l p 0 p then 0 else 11
def JI(n:Int):Bool->List Int->List Int
 | d,[]=>if d then [] else [n]
 | d,x::r=>(if n<=x/\d=false then [n] else [])++((if x≠n then [x] else [])++JI n (d||decide (n<=x)) r)
def SF(l:List Int)(n:Int):List Int:=JI n false l
def MH(o:List Int):List Eh->List Int
 | []=>o
 | y::r=>MH (if y.kind=2/\y.field=F9 then SF o y.n else o) r
def NK(x:Eh):List Int:=MH [] (Mi x)
def Id{α:Type}(p:α->Bool)(q:α->α->Bool)(l:List α):Nat->List α->Bool
 | _,[]=>true
 | i,x::r=>(p x && !(l.take i).any (λy=>q y x))&&Id p q l (i+1) r
def IOq{α:Type}(p:α->Bool)(q:α->α->Bool)(l:List α):Bool:=Id p q l 0 l
def sD(l:List ByteArray)(s:ByteArray):Bool:=l.any (λy=>decide (y=s))
def HU(t:El)(n:Int):Bool:=decide (0<=n)&&decide (n<(t.ports.length:Int))
def Om(t:El)(n:Int):Int:=(t.ports[n.toNat]?.getD Port.z).edge
def J2(t:El)(n:Int):Bool:=HU t n&&Om t n == -1
def KN(t:El)(n:Int):Bool:=HU t n&&Om t n != -1
def SI(x:Port):Bool:=nmB x.name
def R3(y x:Port):Bool:=decide (y.name=x.name)
def Q0(m:Int)(x:Port):Bool:=decide (-1<=x.edge)&&decide (x.edge<m)
def Qz(y x:Port):Bool:=x.edge != -1&&y.edge==x.edge
def Q9(t:El)(x:Wire):Bool:=J2 t x.src&&J2 t x.dst
def Q8(y x:Wire):Bool:=y.src==x.src
def Io(s:Em)(t:El):Int :=
 if nmB t.name=false then 4 else if IOq SI R3 t.ports=false then 4
 else if IOq (Q0 s.network.edges.length) Qz t.ports=false then 1 else if IOq (Q9 t) Q8 t.wires=false then 1 else 0
def J3(t:El):List Ej->Int
 | []=>0
 | x::r=>if (NK x.policy).all (HU t)=false then 1 else if x.step.field=F9\/(x.step.kind=5/\sD x.step.key F9=true) then 1 else J3 t r
def MT(s:Em)(t:El):Int:=if P3 s.fields t.program≠0 then P3 s.fields t.program else J3 t t.program
mutual
def knB(l:List ByteArray):Ei->Bool
 | ⟨k,n,xs⟩ => !(k==2 && !sD l n)&&Zu l xs
def Zu(l:List ByteArray):List Ei->Bool
 | []=>true
 | x::r=>knB l x&&Zu l r
end
theorem Jd(l:List ByteArray)(x:Ei):knB l x=(!(x.kind==2 && !sD l x.node)&&Zu l x.args):=by cases x;rw [knB]
theorem Mu(l:List ByteArray)(x:Ei)(r:List Ei):Zu l (x::r)=(knB l x&&Zu l r):=by rw [Zu]
theorem OX(l:List ByteArray):Zu l []=true:=by rw [Zu]
def H8(n:Ek):List ByteArray:=n.nodes.map (·.name)
def Kb(n:Ek):List ByteArray:=n.edges.map (·.name)
def kR(s:Em)(x:Route):Int :=
 if Tq s.fields x.pred≠0 then Tq s.fields x.pred else if ckR x.path≠0 then ckR x.path else if knB (H8 s.network) x.path=false then 4 else 0
def Ji(s:Em):List Route->Int
 | []=>0
 | x::r=>if kR s x=0 then Ji s r else kR s x
def kZ(t:El)(d:Demand):Bool :=
 KN t d.src&&(KN t d.dst&&(d.src !=d.dst&&(decide (0<=d.floor)&&(decide (d.floor<=d.ceiling)&&decide (d.ceiling<=1048576)))))
def jk(y x:Demand):Bool:=y.src==x.src&&y.dst==x.dst
def Jr(s:Em)(t:El):Int :=
 if 64<t.ports.length\/64<t.wires.length\/16<t.routes.length\/64<t.demands.length then 2
 else if Io s t≠0 then Io s t else if MT s t≠0 then MT s t
 else if Ji s t.routes≠0 then Ji s t.routes else if IOq (kZ t) jk t.demands=false then 1 else 0
def cj(x:ByteArray):Bool:=nmB x
def bp(y x:ByteArray):Bool:=decide (y=x)
def TC(n:Ek)(x:Node):Bool:=decide (0<=x.rules)&&(decide (x.rules<=4000)&&(decide (0<=x.entries)&&decide (x.entries<=100000)))
def TE(n:Ek)(x:Link):Bool:=Ic n x.src&&(Ic n x.dst&&(x.src !=x.dst&&(decide (0<=x.capacity)&&decide (x.capacity<=1048576))))
def I7(n:Ek):Int :=
 if 200<n.nodes.length\/2000<n.links.length\/400<n.edges.length then 2
 else if IOq cj bp (H8 n)=false\/IOq cj bp (Kb n)=false then 4
 else if n.nodes.all (TC n)=false then 1 else if n.links.all (TE n)=false then 1 else if n.edges.all (λx=>Ic n x.node)=false then 1 else 0
def LI(n:Int):Bool:=decide (0<=n)&&decide (n<=65535)
def YJ(n:Int): ∀ (l:List Int) (d:Bool),(JI n d l).length<=l.length+(if d then 0 else 1)
 | [],d=>by cases d<;>simp [JI]
 | x::r,d=>by
  have ih:=YJ n r (d||decide (n<=x))
  have g1:(if x≠n then [x] else []).length<=1:=by split<;>simp
  simp only [JI,AE,AC]
  cases d<;>by_cases hx:n<=x<;>simp [hx] at ih g1 ⊢ <;> omega
def ya(o:List Int)(n:Int):(SF o n).length<=o.length+1:=by
 have:=YJ n o false
 simpa [SF] using this
def kY(x:Eh):(NK x).length<=(Mi x).length:=by
 have h1 : ∀ (n:Int) (l:List Int) (d:Bool),(JI n d l).length<=l.length+1:=by
  have h2 : ∀ (n:Int) (l:List Int),(JI n true l).length<=l.length:=by
   intro n l
   induction l with
   | nil=>simp [JI]
   | cons x r ih =>
    simp only [JI,BM,Bool.true_eq_false,and_false,if_false,AN,AE,AC]
    have:(if x≠n then [x] else []).length<=1:=by split<;>simp
    omega
  intro n l
  induction l with
  | nil=>intro d;cases d<;>simp [JI]
  | cons x r ih =>
   intro d
   cases d with
   | true=>have:=h2 n (x::r);simp at this ⊢;omega
   | false =>
    simp only [JI,AE,AC]
    have g1:(if x≠n then [x] else []).length<=1:=by split<;>simp
    by_cases hx:n<=x
    ·have:=h2 n r
     simp [hx]
     simp at this g1
     omega
    ·have:=ih false
     simp [hx]
     simp at this g1
     omega
 have h3 : ∀ (l:List Eh) (o:List Int),(MH o l).length<=o.length+l.length:=by
  intro l
  induction l with
  | nil=>intro o;simp [MH]
  | cons y r ih =>
   intro o
   rw [MH]
   refine AK (ih _) ?_
   have:=h1 y.n o false
   simp only [AC]
   split
   ·unfold SF;omega
   ·omega
 have:=h3 (Mi x) []
 simpa [NK] using this
def Yq{l:List Fld}(h:Oq l=0): ∀ f∈l,f.width<=16:=by
 have : ∀ (r:List Fld) (i:Nat),IU l i r=0 -> ∀ f∈r,f.width<=16:=by
  intro r
  induction r with
  | nil=>intro i _ f hf;cases hf
  | cons x r ih =>
   intro i h f hf
   rw [IU] at h
   split at h
   ·cases h
   split at h
   ·cases h
   split at h
   ·cases h
   split at h
   ·cases h
   rename_i hp _
   rcases AZ.1 hf with rfl|hf
   ·simp only [SJ,BX,Bool.and_eq_false_iff,not_or,Bool.not_eq_false,decide_eq_true_eq] at hp
    omega
   ·exact ih _ h f hf
 unfold Oq at h
 split at h
 ·cases h
 ·exact this l 0 h
open Go.Proofs
@[go_sem] def qA(x:Eg)(v:Int)(o0:Option Nat):Hl (x.cf o0) [.int .i64 v]=({ x with kind:=v }:Eg).cf o0:=rfl
@[go_sem] def pz(x:Eg)(v:ByteArray)(o0:Option Nat):splice (x.cf o0) 1 [.str v]=({ x with field:=v }:Eg).cf o0:=rfl
@[go_sem] def ACv(x:Eg)(v:Int)(o0:Option Nat):splice (x.cf o0) 2 [.int .i64 v]=({ x with n:=v }:Eg).cf o0:=rfl
@[go_sem] def xE(x:Eg)(v:List Eg)(o0:Option Nat)(p:Option Nat):splice (x.cf o0) 4 [.sl p (GE v)]=({ x with args:=v }:Eg).cf p:=rfl
@[go_sem] def jv(x:Eh)(v:Int)(o0 o1:Option Nat):Hl (x.cf o0 o1) [.int .i64 v]=({ x with kind:=v }:Eh).cf o0 o1:=rfl
@[go_sem] def n9(x:Eh)(v:Eg)(o0 o1:Option Nat)(p0:Option Nat):splice (x.cf o0 o1) 1 (v.cf p0)=({ x with pred:=v }:Eh).cf p0 o1:=rfl
@[go_sem] def ju(x:Eh)(v:ByteArray)(o0 o1:Option Nat):splice (x.cf o0 o1) 6 [.str v]=({ x with field:=v }:Eh).cf o0 o1:=rfl
@[go_sem] def xR(x:Eh)(v:Int)(o0 o1:Option Nat):splice (x.cf o0 o1) 7 [.int .i64 v]=({ x with n:=v }:Eh).cf o0 o1:=rfl
@[go_sem] def oA(x:Eh)(v:List Eh)(o0 o1:Option Nat)(p:Option Nat):splice (x.cf o0 o1) 8 [.sl p (Fz v)]=({ x with args:=v }:Eh).cf o0 p:=rfl
@[ext] structure Pat where
 mask:En
 bits:En
 deriving DecidableEq,Inhabited
def Pat.c(x:Pat):List AV:=[.int .i64 x.mask.h0,.int .i64 x.mask.h1,.int .i64 x.mask.h2,.int .i64 x.mask.h3,.int .i64 x.mask.h4,.int .i64 x.mask.h5,.int .i64 x.mask.h6,.int .i64 x.mask.h7,.int .i64 x.mask.h8,.int .i64 x.mask.h9,.int .i64 x.bits.h0,.int .i64 x.bits.h1,.int .i64 x.bits.h2,.int .i64 x.bits.h3,.int .i64 x.bits.h4,.int .i64 x.bits.h5,.int .i64 x.bits.h6,.int .i64 x.bits.h7,.int .i64 x.bits.h8,.int .i64 x.bits.h9]
@[go_sem] def ASD(x:Pat):x.c.length=20:=rfl
@[go_sem] def ASE(x:Pat):x.c.map borrow1=x.c:=rfl
@[go_sem] def ASC(x:Pat):x.c.any GB=false:=by
 rfl
@[go_sem] def AGL(x:Pat):x.c.take 20=x.c:=rfl
@[go_sem] def Pat.cf_pure(x:Pat):FQ x.c=true:=by
 simp [Pat.c,FQ,AV.pure]
@[go_sem] def oC(k:Nat)(x:Pat):Fj k x.c=true:=by
 simp [Pat.c,Fj,AV.bnd]
def Pat.c_bnd(k:Nat)(x:Pat):Fj k x.c=true:=oC k x
@[go_sem] def xF(x:Pat)(v:En):Hl x.c v.c=({ x with mask:=v }:Pat).c:=rfl
@[go_sem] def xS(x:Pat)(v:En):splice x.c 10 v.c=({ x with bits:=v }:Pat).c:=rfl
def Pat.z:Pat:=⟨⟨0,0,0,0,0,0,0,0,0,0⟩,⟨0,0,0,0,0,0,0,0,0,0⟩⟩
@[go_sem] def Pat.zero:Fg AA 225=some (.agg Pat.z.c):=kr
def Pat.ok(_:Pat):Prop:=True
def F0(l:List En):List AV:=l.map λx => .agg x.c
@[go_sem] def ASi(l:List En):(F0 l).length=l.length:=by simp [F0]
def HJ{l:List En}{i:Nat}{x:En}(h:l[i]? =some x):(F0 l)[i]? =some (.agg x.c):=by simp [F0,h]
def eQ(l:List En): ∀ x∈F0 l,x.cells.length=10:=by
 intro x hx;obtain ⟨y,_,rfl⟩:=AO.1 hx;rfl
@[go_sem] def AD2(l:List En):(∀ x∈F0 l,x.cells.length=10)=True:=eq_true (eQ l)
@[go_sem] def ASh:F0 []=[]:=rfl
@[go_sem] def AFm(l:List En)(k:Nat):(F0 l).take k=F0 (l.take k):=by simp [F0]
@[go_sem] def ASj(a b:List En):F0 a++F0 b=F0 (a++b):=by simp [F0]
@[go_sem] def AHG(a:List En)(x:En):F0 a++[.agg x.c]=F0 (a++[x]):=by simp [F0]
@[go_sem] def ll(l:List En):FQ (F0 l)=true:=by
 induction l with
 | nil=>rfl
 | cons x xs ih=>simpa [F0,FQ,AV.pure] using ⟨ja x,ih⟩
set_option maxRecDepth 50000
def gT(c:UInt8):FO AA 348 [.int .u8 c.toNat] (.bool (loB c)):=by
 refine pC AHr rfl ?_
 simp only [f348,go_sem]
 repeat' (first|(first|apply cS|apply gS)<;>intro hc<;>simp only [go_sem,hc])
 all_goals (simp only [loB,bz];grind)
def AEi(c:UInt8):FO AA 374 [.int .u8 c.toNat] (.bool (dgB c)):=by
 refine pC AHf rfl ?_
 simp only [f374,go_sem]
 repeat' (first|(first|apply cS|apply gS)<;>intro hc<;>simp only [go_sem,hc])
 all_goals (simp only [dgB,bz];grind)
def m5(c:UInt8):FO AA 366 [.int .u8 c.toNat] (.bool (wdB c)):=by
 refine pC AHi rfl ?_
 simp only [f366,go_sem]
 repeat' (first|((first|refine pK (gT _) ?_|refine pK (AEi _) ?_);simp only [go_sem])|(first|apply cS|apply gS)<;>intro hc<;>simp only [go_sem,hc])
 all_goals (simp only [wdB,bz];grind)
def AaZ(s:ByteArray)(hs:s.size<=1073741824):FO AA 350 [.str s] (.int .i64 (MG s.data.toList)):=by
 refine pC AHl rfl ?_
 simp only [f350,go_sem]
 refine WG s (λl=>s.size - l.length+MG l) (λk=>[(0,.str s),(3,.int .i64 k)]) FM rfl ?_ ?_
 ·intro k x xs hd hx hF h0 h1 hw hl
  rw [Sl] at hF
  simp only [AC,MG] at hF
  simp only [go_sem,h0,h1,hx]
  repeat' (first|(refine pK (m5 _) ?_;simp only [go_sem,hw])|(first|apply cS|apply gS)<;>intro hc<;>simp only [go_sem,hc,hw])
  ·simp only [BX] at hc
   rw [hc] at hF
   have:MG s.data.toList=k:=by simp at hF;omega
   rw [this]
  ·simp only [CW] at hc
   simp only [MG,hc]
   simp;omega
 ·intro hF hlt
  simp only [go_sem,hlt,dF]
  rw [Sl] at hF
  simp [MG] at hF
  rw [hF]
def AA7:EvOk AA (Z3.evt [] AFf):=ETree.ok za (λ_ h=>by cases h) (zV _) Vs
def jy:FQ (HE.map AV.str)=true:=kr
def AEl:FO AA 365 [] (.sl (some 1) (HE.map AV.str)):=FO.run AA7 100 rfl jy kr
def ABR(s:ByteArray):FO AA 349 [.str s] (.bool (S3 s)):=by
 refine pC AHo rfl ?_
 simp only [f349,go_sem]
 repeat' (first|(refine pK (AEl) ?_;simp only [go_sem])|(first|apply cS|apply gS)<;>intro hc<;>simp only [go_sem,hc])
 refine FZ HE (λl=>l.any (λy=>decide (y=s))) (λk=>[(0,.str s),(3,.sl (some 1) (HE.map AV.str)),(4,.int .i64 k)]) dc rfl ?_ ?_
 ·intro k x xs hd hx hF h0 h1 hw
  have hg:(HE.map AV.str)[k]? =some (.str x):=by simp [hx]
  simp only [go_sem,h0,h1,hg,Aq,FL]
  repeat' (first|(first|apply cS|apply gS)<;>intro hc<;>simp only [go_sem,hc,h0,h1,hg,hw,Aq,FL])
  ·simp only [S3,hF,Au,hc,BM]
 ·intro hF hlt
  simp only [go_sem,hlt,dF,Aq]
  rw [S3,hF];rfl
def ABb(s:ByteArray)(hs:s.size<=1073741824):FO AA 340 [.str s] (.bool (tnB s)):=by
 refine pC AHu rfl ?_
 by_cases hz:s.size=0
 ·have hz2:((s.size:Int)==0)=true:=by simp [hz]
  simp only [f340,go_sem,hz2]
  simp [tnB,hz]
 ·have h0:(0:Int)<(s.size:Int):=FM
  obtain ⟨x,xs,hx⟩ : ∃ x xs,s.data.toList=x::xs:=by
   cases h:s.data.toList with
   | nil=>rw [<- Sl,h] at hz;simp at hz
   | cons x xs=>exact ⟨x,xs,rfl⟩
  have hx0:(s.data[0]?).getD 0=x:=by rw [<- Array.getElem?_toList,hx];rfl
  have hne:((s.size:Int)==0)=false:=by simp [hz]
  simp only [f340,go_sem,hne]
  repeat' (first|((first|refine pK (gT _) ?_|refine pK (ABR _) ?_|refine pK (AaZ _ hs) ?_);simp only [go_sem,h0,hx0,hx])|(first|apply cS|apply gS)<;>intro hc<;>simp only [go_sem,hc,h0,hx0,hx])
  all_goals (simp only [tnB,hx];grind)
def aG(s:ByteArray)(hs:s.size<=1073741824):FO AA 316 [.str s] (.bool (tnB s)):=by
 refine pC AIT rfl ?_
 simp only [f316,go_sem]
 repeat' (first|(refine pK (ABb _ hs) ?_;simp only [go_sem])|(first|apply cS|apply gS)<;>intro hc<;>simp only [go_sem,hc])
def UX(s:ByteArray)(hs:s.size<=1073741824):FO AA 321 [.str s] (.bool (UR s)):=by
 refine pC AIE rfl ?_
 simp only [f321,go_sem]
 repeat' (first|(refine pK (aG _ hs) ?_;simp only [go_sem])|(first|apply cS|apply gS)<;>intro hc<;>simp only [go_sem,hc])
 all_goals first
  | rfl
  | (simp only [FL,UR,F9,hc,BL,BM,Av];rfl)
  | grind [FL,UR,F9,BL,BM,Av]
  | (simp only [FL,UR,F9,hc,BL,BM,Av];grind)
  | (simp [FL,UR,F9,hc,BL,BM,Av, *];done)
  | (simp_all [FL,UR,F9,hc,BL,BM,Av];done)
  | skip
def UY(s:ByteArray)(hs:s.size<=1073741824):FO AA 159 [.str s] (.bool (nmB s)):=by
 refine pC ANj rfl ?_
 simp only [f159,go_sem]
 refine WG s (λl=>rJ (s.size - l.length) l) (λk=>[(0,.str s),(3,.int .i64 k)]) FM rfl ?_ ?_
 ·intro k x xs hd hx hF h0 h1 hw hl
  have e1:s.size - (x::xs).length=k:=by simp;omega
  have e2:s.size - xs.length=k+1:=FM
  rw [e1,Sl,AQ] at hF
  simp only [go_sem,h0,h1,hx,e2]
  repeat' (first|(first|apply cS|apply gS)<;>intro hc<;>simp only [go_sem,hc,h0,h1,hx,hw,e1,e2])
  all_goals first|(simp only [nmB,hF,rJ,loB,dgB,bz];grind)|(simp only [rJ,loB,dgB,bz];grind)|skip
 ·intro hF hlt
  simp only [go_sem,hlt,dF]
  rw [Sl,AQ] at hF
  repeat' (first|(first|apply cS|apply gS)<;>intro hc<;>simp only [go_sem,hc])
  all_goals (simp only [nmB,hF,rJ];grind)
def RS{cs:List AV}{l:List AV}(h:HR (.agg cs::l)):HR cs:=h.1
def fits{o:Option Nat}{es:List AV}{l:List AV}(h:HR (.sl o es::l)):es.length<=9223372036854775807:=h.1.1
def V8(a b:Ef):FO AA 217 [.agg a.c,.agg b.c] (.agg (a.more b).c):=by
 refine pB AK7 rfl ?_
 simp only [f217,go_sem]
 rfl
def ph : ∀ x:Eg,FO AA 155 [.agg x.c] (.agg (kJ x).c):=by
 refine JP _ λx ih=>?_
 refine FO.fit AAd.c λhf=>?_
 have hl:=Kq (RS hf)
 refine pB AAd rfl ?_
 simp only [f155,go_sem]
 refine Fo x.args (λo l=>Ug l o) (λ_ _=>True) (λk o=>[(1,.ptr 0 0),(2,.ptr 1 0),(3,.ptr 2 0),(4,.int .i64 k)]) (λk o=>[some x.c,some Sizes.z.c,some o.c]) ⟨1,1⟩ hl trivial rfl rfl ?_ ?_
 ·intro k o y ys hd hx _ hF h0 h1 hw
  have hm:=AB hx
  simp only [go_sem,h0,h1,Fk hx]
  repeat' (first|((first|refine pK (ih _ hm) ?_|refine pK (V8 _ _) ?_);simp only [go_sem,h0,h1,hw,Fk hx])|(first|apply cS|apply gS)<;>intro hc<;>simp only [go_sem,hc,h0,h1,hw,Fk hx])
  exact ⟨_,YA _ _ _,rfl,rfl⟩
 ·intro o _ hF
  simp only [go_sem,AY,dF]
  rw [xy,hF,b9]
def AFy : ∀ x:Ei,FO AA 216 [.agg x.c] (.agg (szR x).c):=by
 refine Su _ λx ih=>?_
 refine FO.fit AAZ.c λhf=>?_
 have hl:=O5 (RS hf)
 refine pB AAZ rfl ?_
 simp only [f216,go_sem]
 refine Fo x.args (λo l=>Y9 l o) (λ_ _=>True) (λk o=>[(1,.ptr 0 0),(2,.ptr 1 0),(3,.ptr 2 0),(4,.int .i64 k)]) (λk o=>[some x.c,some Sizes.z.c,some o.c]) ⟨1,1⟩ hl trivial rfl rfl ?_ ?_
 ·intro k o y ys hd hx _ hF h0 h1 hw
  have hm:=AB hx
  simp only [go_sem,h0,h1,II hx]
  repeat' (first|((first|refine pK (ih _ hm) ?_|refine pK (V8 _ _) ?_);simp only [go_sem,h0,h1,hw,II hx])|(first|apply cS|apply gS)<;>intro hc<;>simp only [go_sem,hc,h0,h1,hw,II hx])
  exact ⟨_,qT _ _ _,rfl,rfl⟩
 ·intro o _ hF
  simp only [go_sem,AY,dF]
  rw [AGe,hF,xx]
def AFz : ∀ x:Eh,FO AA 269 [.agg x.c] (.agg (kK x).c):=by
 refine Hj _ λx ih=>?_
 refine FO.fit AAS.c λhf=>?_
 have hl:=JW (RS hf)
 refine pB AAS rfl ?_
 simp only [f269,go_sem]
 repeat' (first|((first|refine pK (ph _) ?_|refine pK (V8 _ _) ?_);simp only [go_sem])|(first|apply cS|apply gS)<;>intro hc<;>simp only [go_sem,hc])
 ·have hs:kK x=Pf x.args (Sizes.more ⟨1,1⟩ (kJ x.pred)):=by rw [ZA,iP (by simpa using hc)]
  refine Fo x.args (λo l=>Pf l o) (λ_ _=>True) (λk o=>[(1,.ptr 0 0),(2,.ptr 1 0),(3,.ptr 2 0),(4,.int .i64 k)]) (λk o=>[some x.c,some Sizes.z.c,some o.c]) (Sizes.more ⟨1,1⟩ (kJ x.pred)) hl trivial rfl rfl ?_ ?_
  ·intro k o y ys hd hx _ hF h0 h1 hw
   have hm:=AB hx
   simp only [go_sem,h0,h1,Fa hx]
   repeat' (first|((first|refine pK (ih _ hm) ?_|refine pK (V8 _ _) ?_);simp only [go_sem,h0,h1,hw,Fa hx])|(first|apply cS|apply gS)<;>intro hc<;>simp only [go_sem,hc,h0,h1,hw,Fa hx])
   exact ⟨_,Md _ _ _,rfl,rfl⟩
  ·intro o _ hF
   rw [OF] at hF
   simp only [go_sem,AY,dF]
   rw [hs,hF]
 ·have hs:kK x=Pf x.args ⟨1,1⟩:=by rw [ZA,iN (by simpa using hc)]
  refine Fo x.args (λo l=>Pf l o) (λ_ _=>True) (λk o=>[(1,.ptr 0 0),(2,.ptr 1 0),(3,.ptr 2 0),(4,.int .i64 k)]) (λk o=>[some x.c,some Sizes.z.c,some o.c]) (⟨1,1⟩) hl trivial rfl rfl ?_ ?_
  ·intro k o y ys hd hx _ hF h0 h1 hw
   have hm:=AB hx
   simp only [go_sem,h0,h1,Fa hx]
   repeat' (first|((first|refine pK (ih _ hm) ?_|refine pK (V8 _ _) ?_);simp only [go_sem,h0,h1,hw,Fa hx])|(first|apply cS|apply gS)<;>intro hc<;>simp only [go_sem,hc,h0,h1,hw,Fa hx])
   exact ⟨_,Md _ _ _,rfl,rfl⟩
  ·intro o _ hF
   rw [OF] at hF
   simp only [go_sem,AY,dF]
   rw [hs,hF]
def gR : ∀ x:Eh,FO AA 152 [.agg x.c] (.int .i64 (OG x)):=by
 refine Hj _ λx ih=>?_
 refine FO.fit AAe.c λhf=>?_
 have hl:=JW (RS hf)
 refine pC AAe rfl ?_
 simp only [f152,go_sem]
 refine Fo x.args (λo l=>Jt l o) (λ_ _=>True) (λk o=>[(1,.ptr 0 0),(3,.int .i64 o),(4,.int .i64 k)]) (λk o=>[some x.c]) 0 hl trivial rfl rfl ?_ ?_
 ·intro k o y ys hd hx _ hF h0 h1 hw
  have hm:=AB hx
  simp only [go_sem,h0,h1,Fa hx]
  repeat' (first|(refine pK (ih _ hm) ?_;simp only [go_sem,h0,h1,hw,Fa hx])|(first|apply cS|apply gS)<;>intro hc<;>simp only [go_sem,hc,h0,h1,hw,Fa hx])
  exact ⟨_,ZE _ _ _,rfl,rfl⟩
 ·intro o _ hF
  rw [cA] at hF
  simp only [go_sem,AY,dF]
  repeat' (first|(first|apply cS|apply gS)<;>intro hc<;>simp only [go_sem,hc])
  all_goals first
   | rfl
   | (simp only [Me,hF,i64];rfl)
   | grind [Me,i64]
   | (simp only [Me,hF,i64];grind)
   | (simp [Me,hF,i64, *];done)
   | (simp_all [Me,hF,i64];done)
   | skip
def AEa : ∀ x:Eh,FO AA 215 [.agg x.c] (.int .i64 (YI x)):=by
 refine Hj _ λx ih=>?_
 refine FO.fit AAa.c λhf=>?_
 have hl:=JW (RS hf)
 refine pC AAa rfl ?_
 simp only [f215,go_sem]
 refine Fo x.args (λo l=>Li l o) (λ_ _=>True) (λk o=>[(1,.ptr 0 0),(3,.int .i64 o),(4,.int .i64 k)]) (λk o=>[some x.c]) 0 hl trivial rfl rfl ?_ ?_
 ·intro k o y ys hd hx _ hF h0 h1 hw
  have hm:=AB hx
  simp only [go_sem,h0,h1,Fa hx]
  repeat' (first|(refine pK (ih _ hm) ?_;simp only [go_sem,h0,h1,hw,Fa hx])|(first|apply cS|apply gS)<;>intro hc<;>simp only [go_sem,hc,h0,h1,hw,Fa hx])
  exact ⟨_,cX _ _ _,rfl,rfl⟩
 ·intro o _ hF
  rw [kW] at hF
  simp only [go_sem,AY,dF]
  repeat' (first|(first|apply cS|apply gS)<;>intro hc<;>simp only [go_sem,hc])
  all_goals first
   | rfl
   | (simp only [OK,hF,i64];rfl)
   | grind [OK,i64]
   | (simp only [OK,hF,i64];grind)
   | (simp [OK,hF,i64, *];done)
   | (simp_all [OK,hF,i64];done)
   | skip
def ABQ(x:Eh):FO AA 153 [.agg x.c] (.bool (OR x)):=by
 refine pC AN0 rfl ?_
 simp only [f153,go_sem]
 repeat' (first|((first|refine pK (gR _) ?_|refine pK (AEa _) ?_);simp only [go_sem])|(first|apply cS|apply gS)<;>intro hc<;>simp only [go_sem,hc])
 all_goals first
  | rfl
  | (simp only [OR];rfl)
  | grind [OR]
  | (simp only [OR];grind)
  | (simp [OR, *];done)
  | (simp_all [OR];done)
  | skip
def ABT(x:Eg):FO AA 87 [.agg x.c] (.bool (XL x)):=by
 refine pC AVA rfl ?_
 simp only [f87,go_sem]
 repeat' (first|(refine pK (ph _) ?_;simp only [go_sem])|(first|apply cS|apply gS)<;>intro hc<;>simp only [go_sem,hc])
 all_goals first
  | rfl
  | (simp only [XL];rfl)
  | grind [XL]
  | (simp only [XL];grind)
  | (simp [XL, *];done)
  | (simp_all [XL];done)
  | skip
def ARf(x:Ei):FO AA 154 [.agg x.c] (.bool (fj x)):=by
 refine pC ANx rfl ?_
 simp only [f154,go_sem]
 repeat' (first|(refine pK (AFy _) ?_;simp only [go_sem])|(first|apply cS|apply gS)<;>intro hc<;>simp only [go_sem,hc])
 all_goals first
  | rfl
  | (simp only [fj];rfl)
  | grind [fj]
  | (simp only [fj];grind)
  | (simp [fj, *];done)
  | (simp_all [fj];done)
  | skip
def ABU(x:Eh):FO AA 214 [.agg x.c] (.bool (mP x)):=by
 refine pC ALE rfl ?_
 simp only [f214,go_sem]
 repeat' (first|((first|refine pK (AFz _) ?_|refine pK (ph _) ?_);simp only [go_sem])|(first|apply cS|apply gS)<;>intro hc<;>simp only [go_sem,hc])
 all_goals first
  | rfl
  | (simp only [mP];rfl)
  | grind [mP]
  | (simp only [mP];grind)
  | (simp [mP, *];done)
  | (simp_all [mP];done)
  | skip
def ARh(x:List Ej):FO AA 151 [.sl none (F7 x)] (.bool (Oi x)):=by
 refine FO.fit AAf.c λhf=>?_
 have hl:=fits hf
 rw [NS] at hl
 refine pC AAf rfl ?_
 simp only [f151,go_sem]
 refine FZ x (λr=>Kz (r.take (12 - (x.length - r.length)))) (λk=>[(0,.sl none (F7 x)),(3,.int .i64 k)]) hl rfl ?_ ?_
 ·intro k y ys hd hx hF h0 h1 hw
  have hk:=Fl hd
  have e1:x.length - (ys.length+1)=k:=FM
  have e2:x.length - ys.length=k+1:=FM
  simp only [AC,e1,AQ,BS] at hF
  simp only [go_sem,h0,h1,Fe hx,e1,e2]
  rcases Nat.lt_or_ge k 12 with h12|h12
  ·have e3:12 - k=(12 - (k+1))+1:=FM
   rw [e3,List.take_succ_cons] at hF
   repeat' (first|(refine pK (ABU _) ?_;simp only [go_sem,h0,h1,hw,Fe hx,e1,e2])|(first|apply cS|apply gS)<;>intro hc<;>simp only [go_sem,hc,h0,h1,hw,Fe hx,e1,e2])
   all_goals first
    | rfl
    | (simp only [Oi,Kz,e3];rfl)
    | grind [Oi,Kz]
    | (simp only [Oi,Kz,e3];grind)
    | (simp [Oi,Kz,e3, *];done)
    | (simp_all [Oi,Kz,e3];done)
    | skip
  ·have e3:12 - k=0:=FM
   rw [e3,List.take_zero] at hF
   have LP : ¬ (k:Int)<12:=FM
   simp only [go_sem,LP,dF]
   repeat' (first|(refine pK (ABU _) ?_;simp only [go_sem,h0,h1,hw,Fe hx,e1,e2])|(first|apply cS|apply gS)<;>intro hc<;>simp only [go_sem,hc,h0,h1,hw,Fe hx,e1,e2])
   all_goals first
    | rfl
    | (simp only [Oi,Kz];rfl)
    | grind [Oi,Kz]
    | (simp only [Oi,Kz];grind)
    | (simp [Oi,Kz, *];done)
    | (simp_all [Oi,Kz];done)
    | skip
 ·intro hF hlt
  simp only [go_sem,hlt,dF]
  repeat' (first|(first|apply cS|apply gS)<;>intro hc<;>simp only [go_sem,hc])
  all_goals first
   | rfl
   | (simp only [Oi,Kz];rfl)
   | grind [Oi,Kz]
   | (simp only [Oi,Kz];grind)
   | (simp [Oi,Kz, *];done)
   | (simp_all [Oi,Kz];done)
   | skip
def ARe(t:El):FO AA 86 [.agg t.c] (.bool (Lq t)):=by
 refine FO.fit AFo.c λhf=>?_
 have hl1:=Qp (RS hf)
 have hl2:=Rk (RS hf)
 refine pC AFo rfl ?_
 simp only [f86,go_sem]
 repeat' (first|(refine pK (ARh _) ?_;simp only [go_sem])|(first|apply cS|apply gS)<;>intro hc<;>simp only [go_sem,hc])
 all_goals first
  | rfl
  | (simp only [Lq];rfl)
  | grind [Lq]
  | (simp only [Lq];grind)
  | (simp [Lq, *];done)
  | (simp_all [Lq];done)
  | skip
 refine FZ t.program (λr=>r.all λx=>decide (OG x.policy<=2)&&OR x.policy) (λk=>[(1,.ptr 0 0),(4,.int .i64 k)]) hl1 rfl ?_ ?_
 ·intro k y ys hd hx hF h0 h1 hw
  simp only [go_sem,h0,h1,Fe hx]
  repeat' (first|((first|refine pK (gR _) ?_|refine pK (ABQ _) ?_);simp only [go_sem,h0,h1,hw,Fe hx])|(first|apply cS|apply gS)<;>intro hc<;>simp only [go_sem,hc,h0,h1,hw,Fe hx])
  all_goals first
   | rfl
   | (simp only [Lq,Ak,Aw];rfl)
   | grind [Lq]
   | (simp only [Lq,Ak,Aw];grind)
   | (simp [Lq,Ak,Aw, *];done)
   | (simp_all [Lq,Ak,Aw];done)
   | skip
  skip
 ·intro hF hlt
  simp only [go_sem,hlt,dF]
  refine FZ t.routes (λr=>r.all λx=>XL x.pred&&fj x.path) (λk=>[(1,.ptr 0 0),(5,.int .i64 k)]) hl2 rfl ?_ ?_
  ·intro k y ys hd hx hF h0 h1 hw
   simp only [go_sem,h0,h1,KS hx]
   repeat' (first|((first|refine pK (ABT _) ?_|refine pK (ARf _) ?_);simp only [go_sem,h0,h1,hw,KS hx])|(first|apply cS|apply gS)<;>intro hc<;>simp only [go_sem,hc,h0,h1,hw,KS hx])
   all_goals first
    | rfl
    | (simp only [Lq,Ak,Aw];rfl)
    | grind [Lq]
    | (simp only [Lq,Ak,Aw];grind)
    | (simp [Lq,Ak,Aw, *];done)
    | (simp_all [Lq,Ak,Aw];done)
    | skip
   skip
  ·intro hF2 hlt2
   simp only [go_sem,hlt2,dF]
   repeat' (first|(first|apply cS|apply gS)<;>intro hc<;>simp only [go_sem,hc])
   all_goals first
    | rfl
    | (simp only [Lq,Ak,Aw];rfl)
    | grind [Lq]
    | (simp only [Lq,Ak,Aw];grind)
    | (simp [Lq,Ak,Aw, *];done)
    | (simp_all [Lq,Ak,Aw];done)
    | skip
   skip
def Aaf : ∀ x y:Eg,FO AA 322 [.agg x.c,.agg y.c] (.bool (pT x y)):=by
 refine JP _ λx ih=>λy=>?_
 refine FO.fit AAQ.c λhf=>?_
 have hl:=Kq (RS hf)
 refine pC AAQ rfl ?_
 simp only [f322,go_sem,FL]
 repeat' (first|(first|apply cS|apply gS)<;>intro hc<;>simp only [go_sem,hc,FL])
 all_goals first
  | rfl
  | (simp only [Im];rfl)
  | grind [Im]
  | (simp only [Im];grind)
  | (simp [Im, *];done)
  | (simp_all [Im];done)
  | skip
 have hll:x.args.length=y.args.length:=by grind
 refine FZ x.args (λr=>Tp r (y.args.drop (x.args.length - r.length))) (λk=>[(2,.ptr 0 0),(3,.ptr 1 0),(5,.int .i64 k)]) hl rfl ?_ ?_
 ·intro k z zs hd hx hF h0 h1 hw
  have hk:=Fl hd
  obtain ⟨w,hy⟩ : ∃ w,y.args[k]? =some w:=⟨_,AL FM⟩
  have e1:x.args.length - (z::zs).length=k:=by simp;omega
  have e2:x.args.length - zs.length=k+1:=FM
  have e3:y.args.drop k=w::y.args.drop (k+1):=by rw [BJ FM];congr 1;grind
  have h2:(k:Int)<(y.args.length:Int):=FM
  rw [e1,e3,AQ,BN,Iz] at hF
  have hm:=AB hx
  simp only [go_sem,h0,h1,h2,Fk hx,Fk hy,e1,e2,e3]
  repeat' (first|(refine pK (ih _ hm _) ?_;simp only [go_sem,h0,h1,h2,hw,Fk hx,Fk hy,e1,e2,e3])|(first|apply cS|apply gS)<;>intro hc<;>simp only [go_sem,hc,h0,h1,h2,hw,Fk hx,Fk hy,e1,e2,e3])
  all_goals first
   | rfl
   | (simp only [Im,Iz,hF];rfl)
   | grind [Im,Iz]
   | (simp only [Im,Iz,hF];grind)
   | (simp [Im,Iz,hF, *];done)
   | (simp_all [Im,Iz,hF];done)
   | skip
 ·intro hF hlt
  simp only [go_sem,hlt,dF]
  all_goals first
   | rfl
   | (simp only [Im,Lr];rfl)
   | grind [Im,Lr]
   | (simp only [Im,Lr];grind)
   | (simp [Im,Lr, *];done)
   | (simp_all [Im,Lr];done)
   | skip
def Aae(x y:Stp):FO AA 323 [.agg x.c,.agg y.c] (.bool (bt x y)):=by
 refine FO.fit AAP.c λhf=>?_
 have hl:=ij (RS hf)
 refine pC AAP rfl ?_
 simp only [f323,go_sem,FL]
 repeat' (first|(first|apply cS|apply gS)<;>intro hc<;>simp only [go_sem,hc,FL])
 all_goals first
  | rfl
  | (simp only [bt];rfl)
  | grind [bt]
  | (simp only [bt];grind)
  | (simp [bt, *];done)
  | (simp_all [bt];done)
  | skip
 have hll:x.key.length=y.key.length:=by grind
 refine FZ x.key (λr=>OY r (y.key.drop (x.key.length - r.length))) (λk=>[(2,.ptr 0 0),(3,.ptr 1 0),(5,.int .i64 k)]) hl rfl ?_ ?_
 ·intro k z zs hd hx hF h0 h1 hw
  have hk:=Fl hd
  obtain ⟨w,hy⟩ : ∃ w,y.key[k]? =some w:=⟨_,AL FM⟩
  have e1:x.key.length - (z::zs).length=k:=by simp;omega
  have e2:x.key.length - zs.length=k+1:=FM
  have e3:y.key.drop k=w::y.key.drop (k+1):=by rw [BJ FM];congr 1;grind
  have h2:(k:Int)<(y.key.length:Int):=FM
  rw [e1,e3,AQ,BN,Jm] at hF
  have hm:=AB hx
  simp only [go_sem,h0,h1,h2,Fu hx,Fu hy,e1,e2,e3,FL]
  repeat' (first|(first|apply cS|apply gS)<;>intro hc<;>simp only [go_sem,hc,h0,h1,h2,hw,Fu hx,Fu hy,e1,e2,e3,FL])
  all_goals first
   | rfl
   | (simp only [bt,Jm,hF];rfl)
   | grind [bt,Jm]
   | (simp only [bt,Jm,hF];grind)
   | (simp [bt,Jm,hF, *];done)
   | (simp_all [bt,Jm,hF];done)
   | skip
 ·intro hF hlt
  simp only [go_sem,hlt,dF]
  all_goals first
   | rfl
   | (simp only [bt,Lo];rfl)
   | grind [bt,Lo]
   | (simp only [bt,Lo];grind)
   | (simp [bt,Lo, *];done)
   | (simp_all [bt,Lo];done)
   | skip
def AF1 : ∀ x:Eg,FP x.c<=1073741824->FO AA 282 [.agg x.c] (.bool (NC x)):=by
 refine JP _ λx ih=>λhb=>?_
 have hl:x.args.length<=9223372036854775807:=AK (VN (I4 hb)) dc
 refine pC AI7 rfl ?_
 simp only [f282,go_sem,FL]
 repeat' (first|(refine pK (UX _ (P8 hb)) ?_;simp only [go_sem,FL])|(first|apply cS|apply gS)<;>intro hc<;>simp only [go_sem,hc,FL])
 all_goals first
  | rfl
  | (simp only [Hh,SR,JL,NB];rfl)
  | grind [Hh,SR,JL,NB]
  | (simp only [Hh,SR,JL,NB];grind)
  | (simp [Hh,SR,JL,NB, *];done)
  | (simp_all [Hh,SR,JL,NB];done)
  | skip
 all_goals
  have ho:((SR x).1&&x.args.length==(SR x).2)=true:=by grind [SR,JL,NB]
  refine FZ x.args (λr=>Vn r) (λk=>[(1,.ptr 0 0),(6,.int .i64 x.args.length),(8,.int .i64 k)]) hl (by grind) ?_ ?_
  ·intro k y ys hd hx hF h0 h1 hw
   have hm:=AB hx
   have hby:FP y.c<=1073741824:=by have:=VO (I4 hb) hm;simpa only [AV.bulk] using this
   simp only [go_sem,h0,h1,Fk hx]
   repeat' (first|(refine pK (ih _ hm hby) ?_;simp only [go_sem,h0,h1,hw,Fk hx])|(first|apply cS|apply gS)<;>intro hc<;>simp only [go_sem,hc,h0,h1,hw,Fk hx])
   ·rw [Hh,ho,hF,KX]
    simp only [BX] at hc
    rw [hc];rfl
   ·rw [KX]
    simp only [CW] at hc
    rw [hc];rfl
  ·intro hF hlt
   simp only [go_sem,hlt,dF]
   rw [Hh,ho,hF,Hg];rfl
def Aad : ∀ x:Eh,FP x.c<=1073741824->FO AA 281 [.agg x.c] (.bool (RQ x)):=by
 refine Hj _ λx ih=>λhb=>?_
 have hl:x.args.length<=9223372036854775807:=AK (QU (IC hb)) dc
 refine pC AJA rfl ?_
 simp only [f281,go_sem,FL]
 repeat' (first|((first|refine pK (UX _ (Nx hb)) ?_|refine pK (FO.lend (Aaf x.pred Pred.z)) ?_|refine pK (AF1 _ (L1 hb)) ?_);simp only [go_sem,FL])|(first|apply cS|apply gS)<;>intro hc<;>simp only [go_sem,hc,FL])
 all_goals first
  | rfl
  | (simp only [IJ,U7,NB];rfl)
  | grind [IJ,U7,NB]
  | (simp only [IJ,U7,NB];grind)
  | (simp [IJ,U7,NB, *];done)
  | (simp_all [IJ,U7,NB];done)
  | skip
 all_goals
  have ho:((U7 x).1&&x.args.length==(U7 x).2)=true:=by grind [U7,NB]
  refine FZ x.args (λr=>Vo r) (λk=>[(1,.ptr 0 0),(6,.int .i64 x.args.length),(8,.int .i64 k)]) hl (by grind) ?_ ?_
  ·intro k y ys hd hx hF h0 h1 hw
   have hm:=AB hx
   have hby:FP y.c<=1073741824:=by have:=QV (IC hb) hm;simpa only [AV.bulk] using this
   simp only [go_sem,h0,h1,Fa hx]
   repeat' (first|(refine pK (ih _ hm hby) ?_;simp only [go_sem,h0,h1,hw,Fa hx])|(first|apply cS|apply gS)<;>intro hc<;>simp only [go_sem,hc,h0,h1,hw,Fa hx])
   ·rw [IJ,ho,hF,KY]
    simp only [BX] at hc
    rw [hc];rfl
   ·rw [KY]
    simp only [CW] at hc
    rw [hc];rfl
  ·intro hF hlt
   simp only [go_sem,hlt,dF]
   rw [IJ,ho,hF,Ik];rfl
def Aac : ∀ x:Ei,FP x.c<=1073741824->FO AA 275 [.agg x.c] (.bool (fmR x)):=by
 refine Su _ λx ih=>λhb=>?_
 have hl:x.args.length<=9223372036854775807:=AK (rc (P7 hb)) dc
 refine pC AJV rfl ?_
 simp only [f275,go_sem,FL]
 repeat' (first|(refine pK (aG _ (Xk hb)) ?_;simp only [go_sem,FL])|(first|apply cS|apply gS)<;>intro hc<;>simp only [go_sem,hc,FL])
 all_goals first
  | rfl
  | (simp only [Qi,xN];rfl)
  | grind [Qi,xN]
  | (simp only [Qi,xN];grind)
  | (simp [Qi,xN, *];done)
  | (simp_all [Qi,xN];done)
  | skip
 all_goals
  have ho:((xN x).1&&x.args.length==(xN x).2)=true:=by grind [xN]
  refine FZ x.args (λr=>Zz r) (λk=>[(1,.ptr 0 0),(4,.int .i64 x.args.length),(6,.int .i64 k)]) hl (by grind) ?_ ?_
  ·intro k y ys hd hx hF h0 h1 hw
   have hm:=AB hx
   have hby:FP y.c<=1073741824:=by have:=re (P7 hb) hm;simpa only [AV.bulk] using this
   simp only [go_sem,h0,h1,II hx]
   repeat' (first|(refine pK (ih _ hm hby) ?_;simp only [go_sem,h0,h1,hw,II hx])|(first|apply cS|apply gS)<;>intro hc<;>simp only [go_sem,hc,h0,h1,hw,II hx])
   ·rw [Qi,ho,hF,Yi]
    simp only [BX] at hc
    rw [hc];rfl
   ·rw [Yi]
    simp only [CW] at hc
    rw [hc];rfl
  ·intro hF hlt
   simp only [go_sem,hlt,dF]
   rw [Qi,ho,hF,AAt];rfl
def AEe(z:Ef):FO AA 315 [.agg z.c] (.int .i64 (QR z)):=by
 refine pC AIW rfl ?_
 simp only [f315,go_sem]
 repeat' (first|(first|apply cS|apply gS)<;>intro hc<;>simp only [go_sem,hc])
 all_goals first
  | rfl
  | (simp only [QR];rfl)
  | grind [QR]
  | (simp only [QR];grind)
  | (simp [QR, *];done)
  | (simp_all [QR];done)
  | skip
def V9(z:Ef)(b:Bool):FO AA 274 [.agg z.c,.bool b] (.int .i64 (pP z b)):=by
 refine pC AJY rfl ?_
 simp only [f274,go_sem]
 repeat' (first|(refine pK (AEe _) ?_;simp only [go_sem])|(first|apply cS|apply gS)<;>intro hc<;>simp only [go_sem,hc])
 all_goals first
  | rfl
  | (simp only [pP];rfl)
  | grind [pP]
  | (simp only [pP];grind)
  | (simp [pP, *];done)
  | (simp_all [pP];done)
  | skip
def Aai(x:Eg)(hb:FP x.c<=1073741824):FO AA 225 [.agg x.c] (.int .i64 (ckP x)):=by
 refine pC AKh rfl ?_
 simp only [f225,go_sem]
 repeat' (first|((first|refine pK (ph _) ?_|refine pK (AF1 _ hb) ?_|refine pK (V9 _ _) ?_);simp only [go_sem])|(first|apply cS|apply gS)<;>intro hc<;>simp only [go_sem,hc])
 all_goals first
  | rfl
  | (simp only [ckP];rfl)
  | grind [ckP]
  | (simp only [ckP];grind)
  | (simp [ckP, *];done)
  | (simp_all [ckP];done)
  | skip
def ABY(x:Eh)(hb:FP x.c<=1073741824):FO AA 224 [.agg x.c] (.int .i64 (UW x)):=by
 refine pC AKk rfl ?_
 simp only [f224,go_sem]
 repeat' (first|((first|refine pK (AFz _) ?_|refine pK (Aad _ hb) ?_|refine pK (V9 _ _) ?_);simp only [go_sem])|(first|apply cS|apply gS)<;>intro hc<;>simp only [go_sem,hc])
 all_goals first
  | rfl
  | (simp only [UW];rfl)
  | grind [UW]
  | (simp only [UW];grind)
  | (simp [UW, *];done)
  | (simp_all [UW];done)
  | skip
def Aah(x:Ei)(hb:FP x.c<=1073741824):FO AA 220 [.agg x.c] (.int .i64 (ckR x)):=by
 refine pC AKv rfl ?_
 simp only [f220,go_sem]
 repeat' (first|((first|refine pK (AFy _) ?_|refine pK (Aac _ hb) ?_|refine pK (V9 _ _) ?_);simp only [go_sem])|(first|apply cS|apply gS)<;>intro hc<;>simp only [go_sem,hc])
 all_goals first
  | rfl
  | (simp only [ckR];rfl)
  | grind [ckR]
  | (simp only [ckR];grind)
  | (simp [ckR, *];done)
  | (simp_all [ckR];done)
  | skip
def Aab(x:Stp)(hb:FP x.c<=1073741824):FO AA 285 [.agg x.c] (.bool (Yh x)):=by
 have hl:x.key.length<=9223372036854775807:=AK (UN (Lz hb)) dc
 refine pC AIy rfl ?_
 simp only [f285,go_sem,FL]
 repeat' (first|((first|refine pK (FO.lend (Aae x Stp.z)) ?_|refine pK (aG _ (ns hb)) ?_);simp only [go_sem,FL])|(first|apply cS|apply gS)<;>intro hc<;>simp only [go_sem,hc,FL])
 all_goals first
  | rfl
  | (simp only [Yh];rfl)
  | grind [Yh]
  | (simp only [Yh];grind)
  | (simp [Yh, *];done)
  | (simp_all [Yh];done)
  | skip
 refine FZ x.key (λr=>r.all UR) (λk=>[(1,.ptr 0 0),(5,.int .i64 k)]) hl rfl ?_ ?_
 ·intro k y ys hd hx hF h0 h1 hw
  have hm:=AB hx
  have hby:y.size<=1073741824:=by have:=ADz (Lz hb) hm;simp only [AV.bulk] at this;omega
  simp only [go_sem,h0,h1,Fu hx]
  repeat' (first|(refine pK (UX _ hby) ?_;simp only [go_sem,h0,h1,hw,Fu hx])|(first|apply cS|apply gS)<;>intro hc<;>simp only [go_sem,hc,h0,h1,hw,Fu hx])
  all_goals first
   | rfl
   | (simp only [Yh,Ak];rfl)
   | grind [Yh]
   | (simp only [Yh,Ak];grind)
   | (simp [Yh,Ak, *];done)
   | (simp_all [Yh,Ak];done)
   | skip
 ·intro hF hlt
  simp only [go_sem,hlt,dF]
  repeat' (first|(refine pK (UX _ (aj hb)) ?_;simp only [go_sem,FL])|(first|apply cS|apply gS)<;>intro hc<;>simp only [go_sem,hc,FL])
  all_goals first
   | rfl
   | (simp only [Yh,Aw];rfl)
   | grind [Yh]
   | (simp only [Yh,Aw];grind)
   | (simp [Yh,Aw, *];done)
   | (simp_all [Yh,Aw];done)
   | skip
def AF3(x:Stp)(hb:FP x.c<=1073741824):FO AA 227 [.agg x.c] (.int .i64 (bu x)):=by
 refine pC AKb rfl ?_
 simp only [f227,go_sem]
 repeat' (first|(refine pK (Aab _ hb) ?_;simp only [go_sem])|(first|apply cS|apply gS)<;>intro hc<;>simp only [go_sem,hc])
 all_goals first
  | rfl
  | (simp only [bu];rfl)
  | grind [bu]
  | (simp only [bu];grind)
  | (simp [bu, *];done)
  | (simp_all [bu];done)
  | skip
def Aaj(x:List Ej)(hb:FP (F7 x)<=1073741824):FO AA 168 [.sl none (F7 x)] (.int .i64 (Wr x)):=by
 have hl:x.length<=9223372036854775807:=AK (Mm hb) dc
 refine pC ANC rfl ?_
 simp only [f168,go_sem]
 repeat' (first|(first|apply cS|apply gS)<;>intro hc<;>simp only [go_sem,hc])
 all_goals first
  | rfl
  | (simp only [Wr];rfl)
  | grind [Wr]
  | (simp only [Wr];grind)
  | (simp [Wr, *];done)
  | (simp_all [Wr];done)
  | skip
 refine FZ x (λr=>Pj r) (λk=>[(0,.sl none (F7 x)),(3,.int .i64 k)]) hl rfl ?_ ?_
 ·intro k y ys hd hx hF h0 h1 hw
  have hm:=AB hx
  have hby:FP y.c<=1073741824:=by have:=KR hb hm;simpa only [AV.bulk] using this
  simp only [go_sem,h0,h1,Fe hx]
  repeat' (first|((first|refine pK (ABY _ (Ho hby)) ?_|refine pK (AF3 _ (Kp hby)) ?_);simp only [go_sem,h0,h1,hw,Fe hx])|(first|apply cS|apply gS)<;>intro hc<;>simp only [go_sem,hc,h0,h1,hw,Fe hx])
  all_goals first
   | rfl
   | (simp only [Wr,Pj];rfl)
   | grind [Wr,Pj]
   | (simp only [Wr,Pj];grind)
   | (simp [Wr,Pj, *];done)
   | (simp_all [Wr,Pj];done)
   | skip
 ·intro hF hlt
  simp only [go_sem,hlt,dF]
  all_goals first
   | rfl
   | (simp only [Wr,Pj];rfl)
   | grind [Wr,Pj]
   | (simp only [Wr,Pj];grind)
   | (simp [Wr,Pj, *];done)
   | (simp_all [Wr,Pj];done)
   | skip
def AEm:FO AA 286 [] (.agg JT.c):=by
 have h:FO AA 286 [] (.agg JT.c):=FO.run AA7 100 rfl kr kr
 exact h
def Ql(l:List Fld)(s:ByteArray):FO AA 229 [.sl none (GL l),.str s] (.tup [.agg (FY l s).1.c,.bool (FY l s).2]):=by
 refine FO.fit AAX.c λhf=>?_
 have hl:=fits hf
 rw [RL] at hl
 refine pB AAX rfl ?_
 simp only [f229,go_sem,FL]
 repeat' (first|(refine pK (AEm) ?_;simp only [go_sem,FL])|(first|apply cS|apply gS)<;>intro hc<;>simp only [go_sem,hc,FL])
 all_goals first
  | rfl
  | (simp only [FY,F9];rfl)
  | grind [FY,F9]
  | (simp only [FY,F9];grind)
  | (simp [FY,F9, *];done)
  | (simp_all [FY,F9];done)
  | skip
 ·refine FZ l (λr=>r.find? (λf=>decide (f.name=s))) (λk=>[(0,.sl none (GL l)),(1,.str s),(4,.ptr 0 0),(6,.int .i64 k)]) hl rfl ?_ ?_
  ·intro k y ys hd hx hF h0 h1 hw
   simp only [go_sem,h0,h1,Gd hx,FL]
   repeat' (first|(first|apply cS|apply gS)<;>intro hc<;>simp only [go_sem,hc,h0,h1,hw,Gd hx,FL])
   all_goals first
    | rfl
    | (simp only [FY,F9];rfl)
    | grind [FY,F9]
    | (simp only [FY,F9];grind)
    | (simp [FY,F9, *];done)
    | (simp_all [FY,F9];done)
    | skip
  ·intro hF hlt
   simp only [go_sem,hlt,dF]
   all_goals first
    | rfl
    | (simp only [FY,F9];rfl)
    | grind [FY,F9]
    | (simp only [FY,F9];grind)
    | (simp [FY,F9, *];done)
    | (simp_all [FY,F9];done)
    | skip
def AEb(n:Int)(hn:n<9223372036854775807):FO AA 287 [.int .i64 n] (.int .i64 (Wx n.toNat)):=by
 refine pC AIv rfl ?_
 simp only [f287,go_sem]
 refine aQ n.toNat (λk=>[(0,.int .i64 n),(3,.int .i64 (Wx k)),(4,.int .i64 k)]) (λ_=>[]) rfl rfl ?_
 intro k hk
 by_cases h:(k:Int)<n
 ·have hw:=Mc (k:=k) FM
  simp only [go_sem,h,dT,hw]
  exact ⟨FM,rfl,rfl⟩
 ·have:k=n.toNat:=FM
  subst this
  simp only [go_sem,h,dF]
def aF(f:Fld)(hn:f.width<9223372036854775807):FO AA 230 [.agg f.c] (.int .i64 (KQ f)):=by
 refine pC AKT rfl ?_
 simp only [f230,go_sem]
 repeat' (first|(refine pK (AEb _ hn) ?_;simp only [go_sem])|(first|apply cS|apply gS)<;>intro hc<;>simp only [go_sem,hc])
 all_goals first
  | rfl
  | (simp only [KQ];rfl)
  | grind [KQ]
  | (simp only [KQ];grind)
  | (simp [KQ, *];done)
  | (simp_all [KQ];done)
  | skip
def ARc : ∀ x:Eg,FP x.c<=1073741824->FO AA 283 [.agg x.c] (.sl none (GE (SG x))):=by
 refine JP _ λx ih=>λhb=>?_
 have hl:x.args.length<=9223372036854775807:=AK (VN (I4 hb)) dc
 have hn:=AK (cd x) hb
 refine pB AI4 rfl ?_
 simp only [f283,go_sem]
 refine Fo x.args (λo l=>o++Mh l) (λ_ _=>True) (λk o=>[(1,.ptr 0 0),(3,.sl (some 5) (GE o)),(4,.int .i64 k)]) (λk o=>[some x.c]) [x] hl trivial (by rw [HZ];rfl) rfl ?_ ?_
 ·intro k o y ys hd hx _ hF h0 h1 hw
  have hm:=AB hx
  have hby:FP y.c<=1073741824:=by have:=VO (I4 hb) hm;simpa only [AV.bulk] using this
  have hlen:o.length+(SG y).length<=1073741824:=by
   have:=congrArg List.length hF
   rw [Ja] at this
   rw [LM] at hn
   simp at this hn
   omega
  simp only [go_sem,h0,h1,Fk hx]
  repeat' (first|(refine pK (ih _ hm hby) ?_;simp only [go_sem,h0,h1,hw,Fk hx])|(first|apply cS|apply gS)<;>intro hc<;>simp only [go_sem,hc,h0,h1,hw,Fk hx])
  exact ⟨FM,FM,o++SG y,by rw [Ja,AF],rfl,rfl⟩
 ·intro o _ hF
  simp only [go_sem,AY,dF]
  rw [LM]
  simp only [LY,Ah] at hF
  rw [<- hF];rfl
def ABM : ∀ x:Eh,FP x.c<=1073741824->FO AA 228 [.agg x.c] (.sl none (Fz (Mi x))):=by
 refine Hj _ λx ih=>λhb=>?_
 have hl:x.args.length<=9223372036854775807:=AK (QU (IC hb)) dc
 have hn:=AK (RA x) hb
 refine pB AKY rfl ?_
 simp only [f228,go_sem]
 refine Fo x.args (λo l=>o++L8 l) (λ_ _=>True) (λk o=>[(1,.ptr 0 0),(3,.sl (some 9) (Fz o)),(4,.int .i64 k)]) (λk o=>[some x.c]) [x] hl trivial (by rw [Gc];rfl) rfl ?_ ?_
 ·intro k o y ys hd hx _ hF h0 h1 hw
  have hm:=AB hx
  have hby:FP y.c<=1073741824:=by have:=QV (IC hb) hm;simpa only [AV.bulk] using this
  have hlen:o.length+(Mi y).length<=1073741824:=by
   have:=congrArg List.length hF
   rw [If] at this
   rw [Kk] at hn
   simp at this hn
   omega
  simp only [go_sem,h0,h1,Fa hx]
  repeat' (first|(refine pK (ih _ hm hby) ?_;simp only [go_sem,h0,h1,hw,Fa hx])|(first|apply cS|apply gS)<;>intro hc<;>simp only [go_sem,hc,h0,h1,hw,Fa hx])
  exact ⟨FM,FM,o++Mi y,by rw [If,AF],rfl,rfl⟩
 ·intro o _ hF
  simp only [go_sem,AY,dF]
  rw [Kk]
  simp only [KL,Ah] at hF
  rw [<- hF];rfl
def ARd(l:List Fld)(x:Eg)(hl : ∀ f∈l,f.width<=9000000000000000000):FO AA 284 [.sl none (GL l),.agg x.c] (.int .i64 (Ph l x)):=by
 have hw:(FY l x.field).1.width<9223372036854775807:=by
  unfold FY
  split
  ·decide
  ·split
   ·rename_i f hf
    have:=hl f (DG hf)
    show f.width<_
    omega
   ·decide
 refine pC AI1 rfl ?_
 simp only [f284,go_sem]
 repeat' (first|((first|refine pK (Ql _ _) ?_|refine pK (aF _ hw) ?_);simp only [go_sem])|(first|apply cS|apply gS)<;>intro hc<;>simp only [go_sem,hc])
 all_goals first
  | rfl
  | (simp only [Ph];rfl)
  | grind [Ph]
  | (simp only [Ph];grind)
  | (simp [Ph, *];done)
  | (simp_all [Ph];done)
  | skip
def ABS(l:List Fld)(x:Eg)(hl : ∀ f∈l,f.width<=9000000000000000000)(hb:FP x.c<=1073741824):FO AA 226 [.sl none (GL l),.agg x.c] (.int .i64 (RR l x)):=by
 have hn:=AK (cd x) hb
 refine pC AKe rfl ?_
 simp only [f226,go_sem]
 repeat' (first|(refine pK (ARc _ hb) ?_;simp only [go_sem])|(first|apply cS|apply gS)<;>intro hc<;>simp only [go_sem,hc])
 refine FZ (SG x) (λr=>LF l r) (λk=>[(0,.sl none (GL l)),(5,.sl none (GE (SG x))),(6,.int .i64 k)]) FM rfl ?_ ?_
 ·intro k y ys hd hx hF h0 h1 hw
  simp only [go_sem,h0,h1,Fk hx]
  repeat' (first|(refine pK (ARd _ _ hl) ?_;simp only [go_sem,h0,h1,hw,Fk hx])|(first|apply cS|apply gS)<;>intro hc<;>simp only [go_sem,hc,h0,h1,hw,Fk hx])
  all_goals first
   | rfl
   | (simp only [RR,LF];rfl)
   | grind [RR,LF]
   | (simp only [RR,LF];grind)
   | (simp [RR,LF, *];done)
   | (simp_all [RR,LF];done)
   | skip
 ·intro hF hlt
  simp only [go_sem,hlt,dF]
  all_goals first
   | rfl
   | (simp only [RR,LF];rfl)
   | grind [RR,LF]
   | (simp only [RR,LF];grind)
   | (simp [RR,LF, *];done)
   | (simp_all [RR,LF];done)
   | skip
abbrev xO(l:List Fld):Prop:=∀ f∈l,f.width<=9000000000000000000
def Z1{l:List Fld}(hl:xO l)(s:ByteArray):(FY l s).1.width<9223372036854775807:=by
 unfold FY
 split
 ·decide
 ·split
  ·rename_i f hf
   have:=hl f (DG hf)
   show f.width<_
   omega
  ·decide
def ABP(s:Stp):FO AA 179 [.agg s.c] (.bool (Lk s)):=by
 refine pC AMW rfl ?_
 simp only [f179,go_sem]
 repeat' (first|(first|apply cS|apply gS)<;>intro hc<;>simp only [go_sem,hc])
 all_goals first
  | rfl
  | (simp only [Lk];rfl)
  | grind [Lk]
  | (simp only [Lk];grind)
  | (simp [Lk, *];done)
  | (simp_all [Lk];done)
  | skip
def ABV(k:Int):FO AA 177 [.int .i64 k] (.int .i64 (LQ k)):=by
 refine pC AMf rfl ?_
 simp only [f177,go_sem]
 repeat' (first|(first|apply cS|apply gS)<;>intro hc<;>simp only [go_sem,hc])
 all_goals first
  | rfl
  | (simp only [LQ];rfl)
  | grind [LQ]
  | (simp only [LQ];grind)
  | (simp [LQ, *];done)
  | (simp_all [LQ];done)
  | skip
def m6(l:List Fld)(key:List ByteArray)(hk:key.length<=1073741824):FO AA 178 [.sl none (GL l),.sl none (G9 key)] (.sl none (GH (It l key))):=by
 refine pB AMb rfl ?_
 simp only [f178,go_sem]
 refine Fo key (λo r=>o++It l r) (λk o=>o.length=k) (λk o=>[(0,.sl none (GL l)),(1,.sl none (G9 key)),(5,.sl (some 1) (GH o)),(6,.int .i64 k)]) (λk o=>[]) [] FM rfl rfl rfl ?_ ?_
 ·intro k o y ys hd hx hI hF h0 h1 hw
  have hk2:=Fl hd
  simp only [go_sem,h0,h1,Fu hx]
  repeat' (first|(refine pK (Ql _ _) ?_;simp only [go_sem,h0,h1,hw,Fu hx])|(first|apply cS|apply gS)<;>intro hc<;>simp only [go_sem,hc,h0,h1,hw,Fu hx])
  exact ⟨FM,FM,o++[(FY l y).1.width],by simp [It],by simp [hI],rfl,rfl⟩
 ·intro o hI hF
  simp only [go_sem,AY,dF]
  simp only [It,List.map_nil,Ah,AN] at hF
  rw [It,hF]
def Aag(a b:List Int):FO AA 231 [.sl none (GH a),.sl none (GH b)] (.bool (XM a b)):=by
 refine FO.fit AAW.c λhf=>?_
 have hl:=fits hf
 rw [HO] at hl
 refine pC AAW rfl ?_
 simp only [f231,go_sem]
 repeat' (first|(first|apply cS|apply gS)<;>intro hc<;>simp only [go_sem,hc])
 all_goals first
  | rfl
  | (simp only [XM];rfl)
  | grind [XM]
  | (simp only [XM];grind)
  | (simp [XM, *];done)
  | (simp_all [XM];done)
  | skip
 have hll:a.length=b.length:=by grind
 refine FZ a (λr=>decide (r=b.drop (a.length - r.length))) (λk=>[(0,.sl none (GH a)),(1,.sl none (GH b)),(5,.int .i64 k)]) hl rfl ?_ ?_
 ·intro k z zs hd hx hF h0 h1 hw
  have hk:=Fl hd
  obtain ⟨w,hy⟩ : ∃ w,b[k]? =some w:=⟨_,AL FM⟩
  have e1:a.length - (zs.length+1)=k:=FM
  have e2:a.length - zs.length=k+1:=FM
  have e3:b.drop k=w::b.drop (k+1):=by rw [BJ FM];congr 1;grind
  have h2:(k:Int)<(b.length:Int):=FM
  simp only [AC,e1,AQ,BN,e3] at hF
  simp only [go_sem,h0,h1,h2,GF hx,GF hy,e1,e2,e3]
  repeat' (first|(first|apply cS|apply gS)<;>intro hc<;>simp only [go_sem,hc,h0,h1,h2,hw,GF hx,GF hy,e1,e2,e3])
  all_goals first
   | rfl
   | (simp only [XM,hF,List.cons.injEq];rfl)
   | grind [XM,List.cons.injEq]
   | (simp only [XM,hF,List.cons.injEq];grind)
   | (simp [XM,hF,List.cons.injEq, *];done)
   | (simp_all [XM,hF,List.cons.injEq];done)
   | skip
 ·intro hF hlt
  simp only [go_sem,hlt,dF]
  simp only [AQ,BN,List.length_nil,BS] at hF
  have h3:b.drop a.length=[]:=by rw [hll];simp
  simp only [h3] at hF
  rw [XM,hF];rfl
def ARp(l:List Fld)(s t:Stp)(h1:s.key.length<=1073741824)(h2:t.key.length<=1073741824):FO AA 171 [.sl none (GL l),.agg s.c,.agg t.c] (.bool (Tv l s t)):=by
 refine pC AMx rfl ?_
 simp only [f171,go_sem]
 repeat' (first|((first|refine pK (ABP _) ?_|refine pK (m6 _ _ h1) ?_|refine pK (m6 _ _ h2) ?_|refine pK (Aag _ _) ?_|refine pK (ABV _) ?_);simp only [go_sem])|(first|apply cS|apply gS)<;>intro hc<;>simp only [go_sem,hc])
 all_goals first
  | rfl
  | (simp only [Tv];rfl)
  | grind [Tv]
  | (simp only [Tv];grind)
  | (simp [Tv, *];done)
  | (simp_all [Tv];done)
  | skip
def ABX(l:List Fld)(x:Eg)(hl:xO l)(hb:FP x.c<=1073741824):FO AA 167 [.sl none (GL l),.agg x.c] (.int .i64 (Tq l x)):=by
 refine pC ANF rfl ?_
 simp only [f167,go_sem]
 repeat' (first|((first|refine pK (Aai _ hb) ?_|refine pK (ABS _ _ hl hb) ?_);simp only [go_sem])|(first|apply cS|apply gS)<;>intro hc<;>simp only [go_sem,hc])
 all_goals first
  | rfl
  | (simp only [Tq];rfl)
  | grind [Tq]
  | (simp only [Tq];grind)
  | (simp [Tq, *];done)
  | (simp_all [Tq];done)
  | skip
def ARk(l:List Fld)(x:Eh)(hl:xO l)(hb:FP x.c<=1073741824):FO AA 169 [.sl none (GL l),.agg x.c] (.int .i64 (Kd l x)):=by
 have hn:=AK (RA x) hb
 refine pC AM8 rfl ?_
 simp only [f169,go_sem]
 repeat' (first|((first|refine pK (ABY _ hb) ?_|refine pK (ABM _ hb) ?_);simp only [go_sem])|(first|apply cS|apply gS)<;>intro hc<;>simp only [go_sem,hc])
 all_goals first
  | rfl
  | (simp only [Kd];rfl)
  | grind [Kd]
  | (simp only [Kd];grind)
  | (simp [Kd, *];done)
  | (simp_all [Kd];done)
  | skip
 refine FZ (Mi x) (λr=>LC l r) (λk=>[(0,.sl none (GL l)),(5,.int .i64 0),(6,.sl none (Fz (Mi x))),(7,.int .i64 k)]) FM (by grind) ?_ ?_
 ·intro k y ys hd hx hF h0 h1 hw
  have hm:=AB hx
  have hby:=AK (qh x y hm) hb
  simp only [go_sem,h0,h1,Fa hx]
  repeat' (first|((first|refine pK (ABS _ _ hl (L1 hby)) ?_|refine pK (Ql _ _) ?_|refine pK (aF _ (Z1 hl _)) ?_);simp only [go_sem,h0,h1,hw,Fa hx])|(first|apply cS|apply gS)<;>intro hc<;>simp only [go_sem,hc,h0,h1,hw,Fa hx])
  all_goals first
   | rfl
   | (simp only [Kd,LC,RB,At];rfl)
   | grind [Kd,LC,RB,At]
   | (simp only [Kd,LC,RB,At];grind)
   | (simp [Kd,LC,RB,At, *];done)
   | (simp_all [Kd,LC,RB,At];done)
   | skip
 ·intro hF hlt
  simp only [go_sem,hlt,dF]
  all_goals first
   | rfl
   | (simp only [Kd,LC];rfl)
   | grind [Kd,LC]
   | (simp only [Kd,LC];grind)
   | (simp [Kd,LC, *];done)
   | (simp_all [Kd,LC];done)
   | skip
def JE{α:Type}{l:List α}{i k:Nat}{x:α}(h:(l.take i)[k]? =some x):l[k]? =some x:=by
 rw [Aj] at h
 split at h
 ·exact h
 ·cases h
def Js{α:Type}{l:List α}{i:Nat}(h:i<=l.length):(l.take i).length=i:=by simp;omega
def ARj(l:List Fld)(s:Stp)(hl:xO l)(hb:FP s.c<=1073741824):FO AA 170 [.sl none (GL l),.agg s.c] (.int .i64 (L4 l s)) := by
  have hk:s.key.length<=1073741824 := UN (Lz hb)
  have g0:s.key.length*16<=140737488355328 := by omega
  have g1:s.key.length<=9223372036854775807 := by omega
  have g2:(s.key.length+1)*16<=140737488355328 := by omega
  have g3:s.key.length<=9223372036854775806 := by omega
  refine pC AM2 rfl ?_
  simp only [f170,go_sem,FL]
  repeat' (first|(refine pK (AF3 _ hb) ?_;simp only [go_sem,FL,g0,g1,g2,g3])|(first|apply cS|apply gS)<;>intro hc<;>simp only [go_sem,hc,FL,g0,g1,g2,g3])
  all_goals first
    | rfl
    | (simp only [L4];rfl)
    | grind [L4]
    | (simp only [L4];grind)
    | (simp [L4, *];done)
    | (simp_all [L4];done)
    | skip
  · have hnm:Jw s=s.key++[s.field] := by grind [Jw]
    have hnl:(s.key++[s.field]).length<=1073741825 := by first|omega|(simp;omega)
    refine FZ (s.key++[s.field]) (λr=>r.all (λy=>(FY l y).2)) (λk=>[(0,.sl none (GL l)),(3,.ptr 0 0),(6,.sl (some 1) (G9 (s.key++[s.field]))),(7,.int .i64 k)]) FM rfl ?_ ?_
    · intro k y ys hd hx hF h0 h1 hw
      simp only [go_sem,h0,h1,Fu hx]
      repeat' (first|(refine pK (Ql _ _) ?_;simp only [go_sem,h0,h1,hw,Fu hx])|(first|apply cS|apply gS)<;>intro hc<;>simp only [go_sem,hc,h0,h1,hw,Fu hx])
      all_goals first
        | (have h5 : (Jw s).all (fun y => (FY l y).2) = false := by rw [hnm, hF]; simp_all
           grind [L4])
        | simp_all
    · intro hF hlt
      simp only [go_sem,hlt,dF]
      refine FZ s.key (λr=>JV s.key (s.key.length - r.length) r) (λk=>[(0,.sl none (GL l)),(3,.ptr 0 0),(10,.int .i64 k)]) FM rfl ?_ ?_
      · intro k y ys hd hx hF2 h0 h1 hw
        have hk2 := Fl hd
        have e1:s.key.length - (ys.length+1)=k := by omega
        have e2:s.key.length - ys.length=k+1 := by omega
        have ht:(s.key.take k).length=k := Js FM
        simp only [AC,e1,AQ] at hF2
        simp only [go_sem,h0,h1,e1,e2]
        refine FZ (s.key.take k) (λr=>r.any (λz=>decide (z=y))) (λi=>[(0,.sl none (GL l)),(3,.ptr 0 0),(10,.int .i64 k),(11,.int .i64 i)]) FM rfl ?_ ?_
        · intro i z zs hd3 hx3 hF3 h03 LP hw3
          rw [ht] at LP
          have hx4 := JE hx3
          have Nu:(i:Int)<(s.key.length:Int) := by omega
          simp only [go_sem,h03,LP,Nu,h0,h1,Fu hx4,Fu hx,FL]
          repeat' (first|(first|apply cS|apply gS)<;>intro hc<;>simp only [go_sem,hc,h03,LP,Nu,hw3,h0,h1,Fu hx4,Fu hx,FL])
          all_goals first
            | (have h5 : JV s.key 0 s.key = false := by rw [hF2, JV, hF3, Au, hc]; rfl
               have h6:(Jw s).all (λy=>(FY l y).2)=true := by rw [hnm,hF];rfl
               grind [L4])
            | (rw [Au,hc];rfl)
        · intro hF3 hlt3
          rw [ht] at hlt3
          simp only [go_sem,ht,hlt3,dF,hw]
          rw [e1,e2,JV,hF3];rfl
      · intro hF2 hlt2
        have h5:JV s.key 0 s.key=true := by simp only [AQ] at hF2;rw [hF2];rfl
        have h6:(Jw s).all (λy=>(FY l y).2)=true := by rw [hnm,hF];rfl
        simp only [go_sem,hlt2,dF]
        repeat' (first|((first|refine pK (Ql _ _) ?_|refine pK (aF _ (Z1 hl _)) ?_);simp only [go_sem])|(first|apply cS|apply gS)<;>intro hc<;>simp only [go_sem,hc])
        all_goals grind [L4]
  · have hnm:Jw s=s.key := by grind [Jw]
    have hnl:(s.key).length<=1073741825 := by first|omega|(simp;omega)
    refine FZ (s.key) (λr=>r.all (λy=>(FY l y).2)) (λk=>[(0,.sl none (GL l)),(3,.ptr 0 0),(6,.sl (some 1) (G9 (s.key))),(7,.int .i64 k)]) FM rfl ?_ ?_
    · intro k y ys hd hx hF h0 h1 hw
      simp only [go_sem,h0,h1,Fu hx]
      repeat' (first|(refine pK (Ql _ _) ?_;simp only [go_sem,h0,h1,hw,Fu hx])|(first|apply cS|apply gS)<;>intro hc<;>simp only [go_sem,hc,h0,h1,hw,Fu hx])
      all_goals first
        | (have h5 : (Jw s).all (fun y => (FY l y).2) = false := by rw [hnm, hF]; simp_all
           grind [L4])
        | simp_all
    · intro hF hlt
      simp only [go_sem,hlt,dF]
      refine FZ s.key (λr=>JV s.key (s.key.length - r.length) r) (λk=>[(0,.sl none (GL l)),(3,.ptr 0 0),(10,.int .i64 k)]) FM rfl ?_ ?_
      · intro k y ys hd hx hF2 h0 h1 hw
        have hk2 := Fl hd
        have e1:s.key.length - (ys.length+1)=k := by omega
        have e2:s.key.length - ys.length=k+1 := by omega
        have ht:(s.key.take k).length=k := Js FM
        simp only [AC,e1,AQ] at hF2
        simp only [go_sem,h0,h1,e1,e2]
        refine FZ (s.key.take k) (λr=>r.any (λz=>decide (z=y))) (λi=>[(0,.sl none (GL l)),(3,.ptr 0 0),(10,.int .i64 k),(11,.int .i64 i)]) FM rfl ?_ ?_
        · intro i z zs hd3 hx3 hF3 h03 LP hw3
          rw [ht] at LP
          have hx4 := JE hx3
          have Nu:(i:Int)<(s.key.length:Int) := by omega
          simp only [go_sem,h03,LP,Nu,h0,h1,Fu hx4,Fu hx,FL]
          repeat' (first|(first|apply cS|apply gS)<;>intro hc<;>simp only [go_sem,hc,h03,LP,Nu,hw3,h0,h1,Fu hx4,Fu hx,FL])
          all_goals first
            | (have h5 : JV s.key 0 s.key = false := by rw [hF2, JV, hF3, Au, hc]; rfl
               have h6:(Jw s).all (λy=>(FY l y).2)=true := by rw [hnm,hF];rfl
               grind [L4])
            | (rw [Au,hc];rfl)
        · intro hF3 hlt3
          rw [ht] at hlt3
          simp only [go_sem,ht,hlt3,dF,hw]
          rw [e1,e2,JV,hF3];rfl
      · intro hF2 hlt2
        have h5:JV s.key 0 s.key=true := by simp only [AQ] at hF2;rw [hF2];rfl
        have h6:(Jw s).all (λy=>(FY l y).2)=true := by rw [hnm,hF];rfl
        simp only [go_sem,hlt2,dF]
        repeat' (first|((first|refine pK (Ql _ _) ?_|refine pK (aF _ (Z1 hl _)) ?_);simp only [go_sem])|(first|apply cS|apply gS)<;>intro hc<;>simp only [go_sem,hc])
        all_goals grind [L4]
def AF2(l:List Fld)(p:List Ej)(hl:xO l)(hb:FP (F7 p)<=1073741824):FO AA 93 [.sl none (GL l),.sl none (F7 p)] (.int .i64 (P3 l p)) := by
  have hn := Mm hb
  refine pC AUl rfl ?_
  simp only [f93,go_sem]
  repeat' (first|(refine pK (Aaj _ hb) ?_;simp only [go_sem])|(first|apply cS|apply gS)<;>intro hc<;>simp only [go_sem,hc])
  all_goals first
    | rfl
    | (simp only [P3];rfl)
    | grind [P3]
    | (simp only [P3];grind)
    | (simp [P3, *];done)
    | (simp_all [P3];done)
    | skip
  refine FZ p (λr=>Mf l r) (λk=>[(0,.sl none (GL l)),(1,.sl none (F7 p)),(6,.int .i64 k)]) FM rfl ?_ ?_
  · intro k y ys hd hx hF h0 h1 hw
    have hby:FP y.c<=1073741824 := by have := KR hb (AB hx);simpa only [AV.bulk] using this
    simp only [go_sem,h0,h1,Fe hx]
    repeat' (first|((first|refine pK (ARk _ _ hl (Ho hby)) ?_|refine pK (ARj _ _ hl (Kp hby)) ?_);simp only [go_sem,h0,h1,hw,Fe hx])|(first|apply cS|apply gS)<;>intro hc<;>simp only [go_sem,hc,h0,h1,hw,Fe hx])
    all_goals first
      | rfl
      | (simp only [P3,Mf];rfl)
      | grind [P3,Mf]
      | (simp only [P3,Mf];grind)
      | (simp [P3,Mf, *];done)
      | (simp_all [P3,Mf];done)
      | skip
  · intro hF hlt
    simp only [go_sem,hlt,dF]
    refine FZ p (λr=>Kr l p (p.length - r.length) r) (λk=>[(0,.sl none (GL l)),(1,.sl none (F7 p)),(9,.int .i64 k)]) FM rfl ?_ ?_
    · intro k y ys hd hx hF2 h0 h1 hw
      have hk := Fl hd
      have e1:p.length - (ys.length+1)=k := by omega
      have e2:p.length - ys.length=k+1 := by omega
      have hby:FP y.c<=1073741824 := by have := KR hb (AB hx);simpa only [AV.bulk] using this
      have hy := UN (Lz (Kp hby))
      have ht:(p.take k).length=k := Js FM
      simp only [AC,e1,AQ] at hF2
      simp only [go_sem,h0,h1,Fe hx,e1,e2]
      refine FZ (p.take k) (λr=>r.any (λz=>LG l z.step y.step)) (λi=>[(0,.sl none (GL l)),(1,.sl none (F7 p)),(9,.int .i64 k),(10,.int .i64 i)]) FM rfl ?_ ?_
      · intro i z zs hd3 hx3 hF3 h03 LP hw3
        rw [ht] at LP
        have hx4 := JE hx3
        have Nu:(i:Int)<(p.length:Int) := by omega
        have hbz:FP z.c<=1073741824 := by have := KR hb (AB hx4);simpa only [AV.bulk] using this
        have hz := UN (Lz (Kp hbz))
        simp only [go_sem,h03,LP,Nu,h0,h1,Fe hx4,Fe hx,FL]
        repeat' (first|(refine pK (ARp _ _ _ hz hy) ?_;simp only [go_sem,h03,LP,Nu,hw3,h0,h1,Fe hx4,Fe hx,FL])|(first|apply cS|apply gS)<;>intro hc<;>simp only [go_sem,hc,h03,LP,Nu,hw3,h0,h1,Fe hx4,Fe hx,FL])
        all_goals first
          | (have hcl : LG l z.step y.step = true := by grind [LG]
             have h5:Kr l p 0 p=false := by rw [hF2,Kr,hF3,Au,hcl];rfl
             grind [P3,Mf])
          | grind [LG]
      · intro hF3 hlt3
        rw [ht] at hlt3
        simp only [go_sem,ht,hlt3,dF,hw]
        rw [e1,e2,Kr,hF3];rfl
    · intro hF2 hlt2
      simp only [go_sem,hlt2,dF]
      all_goals first
        | rfl
        | (simp only [P3,Kr,Mf];rfl)
        | grind [P3,Kr,Mf]
        | (simp only [P3,Kr,Mf];grind)
        | (simp [P3,Kr,Mf, *];done)
        | (simp_all [P3,Kr,Mf];done)
        | skip
def ARb(l:List Int)(n:Int)(hl:l.length<=1073741824):FO AA 314 [.sl none (GH l),.int .i64 n] (.sl none (GH (SF l n))):=by
 refine pB AIZ rfl ?_
 simp only [f314,go_sem]
 refine Fo l (λ(s:List Int×Bool) r=>s.1++JI n s.2 r) (λk s=>s.1.length<=2*k) (λk s=>[(0,.sl none (GH l)),(1,.int .i64 n),(5,.sl (some 1) (GH s.1)),(6,.bool s.2),(7,.int .i64 k)]) (λk o=>[]) ([],false) FM sm rfl rfl ?_ ?_
 ·intro k s y ys hd hx hI hF h0 h1 hw
  have hk2:=Fl hd
  have g1:(s.1.length+1)*8<=140737488355328:=FM
  have g2:s.1.length<=9223372036854775806:=FM
  have g3:(s.1.length+1+1)*8<=140737488355328:=FM
  have g4:s.1.length+1<=9223372036854775806:=FM
  have g5:s.1.length<=9223372036854775805:=FM
  simp only [go_sem,h0,h1,GF hx]
  repeat' (first|(first|apply cS|apply gS)<;>intro hc<;>simp only [go_sem,hc,h0,h1,hw,GF hx,AE,List.length_singleton,g1,g2,g3,g4,g5])
  all_goals first
   | exact ⟨(s.1++[n,y],true),by grind [JI],by simp;omega,rfl,rfl⟩
   | exact ⟨(s.1++[n],true),by grind [JI],by simp;omega,rfl,rfl⟩
   | exact ⟨(s.1++[y],s.2),by grind [JI],by simp;omega,rfl,rfl⟩
   | exact ⟨(s.1,s.2),by grind [JI],by simp;omega,rfl,rfl⟩
   | skip
 ·intro s hI hF
  have g1:(s.1.length+1)*8<=140737488355328:=FM
  have g2:s.1.length<=9223372036854775806:=FM
  simp only [go_sem,AY,dF]
  repeat' (first|(first|apply cS|apply gS)<;>intro hc<;>simp only [go_sem,hc,g1,g2])
  all_goals first
   | rfl
   | (simp only [SF,JI];rfl)
   | grind [SF,JI]
   | (simp only [SF,JI];grind)
   | (simp [SF,JI, *];done)
   | (simp_all [SF,JI];done)
   | skip
def Ov(t:El)(n:Int):FO AA 272 [.agg t.c,.int .i64 n] (.bool (HU t n)):=by
 refine pC AJd rfl ?_
 simp only [f272,go_sem]
 repeat' (first|(first|apply cS|apply gS)<;>intro hc<;>simp only [go_sem,hc])
 all_goals first
  | rfl
  | (simp only [HU];rfl)
  | grind [HU]
  | (simp only [HU];grind)
  | (simp [HU, *];done)
  | (simp_all [HU];done)
  | skip
def Ut{t:El}{n:Int}(h:HU t n=true):0<=n/\n<(t.ports.length:Int) /\ ∃ p,t.ports[n.toNat]? =some p/\Om t n=p.edge/\(KD t.ports)[n.toNat]? =some (.agg p.c):=by
 simp only [HU,AR,decide_eq_true_eq] at h
 have hg:=AL (l:=t.ports) (i:=n.toNat) FM
 exact ⟨h.1,h.2,_,hg,by simp [Om,hg],GR hg⟩
def AEg(t:El)(n:Int):FO AA 270 [.agg t.c,.int .i64 n] (.bool (J2 t n)):=by
 refine pC AJj rfl ?_
 cases hp:HU t n with
 | false =>
  simp only [f270,go_sem]
  repeat' (first|(refine pK (Ov _ _) ?_;simp only [go_sem,hp])|(first|apply cS|apply gS)<;>intro hc<;>simp only [go_sem,hc,hp])
  all_goals first
   | rfl
   | (simp only [J2];rfl)
   | grind [J2]
   | (simp only [J2];grind)
   | (simp [J2, *];done)
   | (simp_all [J2];done)
   | skip
 | true =>
  obtain ⟨h1,h2,p,h3,h4,h5⟩:=Ut hp
  simp only [f270,go_sem]
  repeat' (first|(refine pK (Ov _ _) ?_;simp only [go_sem,hp,h1,h2,h5])|(first|apply cS|apply gS)<;>intro hc<;>simp only [go_sem,hc,hp,h1,h2,h5])
  all_goals first
   | rfl
   | (simp only [J2];rfl)
   | grind [J2]
   | (simp only [J2];grind)
   | (simp [J2, *];done)
   | (simp_all [J2];done)
   | skip
def AEd(t:El)(n:Int):FO AA 222 [.agg t.c,.int .i64 n] (.bool (KN t n)):=by
 refine pC AKq rfl ?_
 cases hp:HU t n with
 | false =>
  simp only [f222,go_sem]
  repeat' (first|(refine pK (Ov _ _) ?_;simp only [go_sem,hp])|(first|apply cS|apply gS)<;>intro hc<;>simp only [go_sem,hc,hp])
  all_goals first
   | rfl
   | (simp only [KN];rfl)
   | grind [KN]
   | (simp only [KN];grind)
   | (simp [KN, *];done)
   | (simp_all [KN];done)
   | skip
 | true =>
  obtain ⟨h1,h2,p,h3,h4,h5⟩:=Ut hp
  simp only [f222,go_sem]
  repeat' (first|(refine pK (Ov _ _) ?_;simp only [go_sem,hp,h1,h2,h5])|(first|apply cS|apply gS)<;>intro hc<;>simp only [go_sem,hc,hp,h1,h2,h5])
  all_goals first
   | rfl
   | (simp only [KN];rfl)
   | grind [KN]
   | (simp only [KN];grind)
   | (simp [KN, *];done)
   | (simp_all [KN];done)
   | skip
def AF0(l:List ByteArray)(s:ByteArray):FO AA 273 [.sl none (G9 l),.str s] (.bool (sD l s)):=by
 refine FO.fit AAR.c λhf=>?_
 have hl:=fits hf
 rw [Ln] at hl
 refine pC AAR rfl ?_
 simp only [f273,go_sem]
 refine FZ l (λr=>r.any (λy=>decide (y=s))) (λk=>[(0,.sl none (G9 l)),(1,.str s),(5,.int .i64 k)]) hl rfl ?_ ?_
 ·intro k y ys hd hx hF h0 h1 hw
  simp only [go_sem,h0,h1,Fu hx,FL]
  repeat' (first|(first|apply cS|apply gS)<;>intro hc<;>simp only [go_sem,hc,h0,h1,hw,Fu hx,FL])
  all_goals first
   | (rw [sD,hF,Au,hc];rfl)
   | (rw [Au,hc];rfl)
 ·intro hF hlt
  simp only [go_sem,hlt,dF]
  rw [sD,hF];rfl
def ABN(x:Eh)(hb:FP x.c<=1073741824):FO AA 271 [.agg x.c] (.sl none (GH (NK x))):=by
 have hn:=AK (RA x) hb
 refine pB AJg rfl ?_
 simp only [f271,go_sem]
 repeat' (first|(refine pK (ABM _ hb) ?_;simp only [go_sem])|(first|apply cS|apply gS)<;>intro hc<;>simp only [go_sem,hc])
 have step : ∀ (y:Eh) (ys:List Eh) (o:List Int),MH o (y::ys)=MH (if y.kind=2/\y.field=F9 then SF o y.n else o) ys:=λy ys o=>by rw [MH]
 have len1 : ∀ (o:List Int) (n:Int),(SF o n).length<=o.length+1:=λo n=>ya o n
 refine Fo (Mi x) (λ(o:Option Nat×List Int) r=>MH o.2 r) (λk o=>o.2.length<=k) (λk o=>[(3,.sl o.1 (GH o.2)),(4,.sl none (Fz (Mi x))),(5,.int .i64 k)]) (λk o=>[some x.c]) (some 1,[]) FM sm rfl rfl ?_ ?_
 ·intro k o y ys hd hx hI hF h0 h1 hw
  have hk2:=Fl hd
  simp only [go_sem,h0,h1,Fa hx,FL]
  repeat' (first|(refine pK (ARb o.2 y.n (show o.2.length<=1073741824 by omega)) ?_;simp only [go_sem,h0,h1,hw,Fa hx,FL])|(first|apply cS|apply gS)<;>intro hc<;>simp only [go_sem,hc,h0,h1,hw,Fa hx,FL])
  all_goals first
   | exact ⟨(none,SF o.2 y.n),by rw [step,iP (by simp_all [F9])],by have:=len1 o.2 y.n;simp only;omega,rfl,rfl⟩
   | exact ⟨o,by rw [step,iN (by simp_all [F9])],FM,rfl,rfl⟩
   | skip
 ·intro o hI hF
  simp only [go_sem,AY,dF]
  rw [NK,hF,MH]
def ARl(s:Em)(t:El)(hl:xO s.fields)(hb:FP t.c<=1073741824):FO AA 219 [.agg s.c,.agg t.c] (.int .i64 (MT s t)) := by
  have hbp := HV hb
  have hn := Mm hbp
  refine pC AK0 rfl ?_
  simp only [f219,go_sem,FL]
  repeat' (first|(refine pK (AF2 _ _ hl hbp) ?_;simp only [go_sem,FL])|(first|apply cS|apply gS)<;>intro hc<;>simp only [go_sem,hc,FL])
  all_goals first
    | rfl
    | (simp only [MT];rfl)
    | grind [MT]
    | (simp only [MT];grind)
    | (simp [MT, *];done)
    | (simp_all [MT];done)
    | skip
  refine FZ t.program (λr=>J3 t r) (λk=>[(3,.ptr 1 0),(6,.int .i64 k)]) FM rfl ?_ ?_
  · intro k y ys hd hx hF h0 h1 hw
    have hby:FP y.c<=1073741824 := by have := KR hbp (AB hx);simpa only [AV.bulk] using this
    have hp1 := kY y.policy
    have hp2 := AK (RA y.policy) (Ho hby)
    simp only [go_sem,h0,h1,Fe hx,FL]
    repeat' (first|(refine pK (ABN _ (Ho hby)) ?_;simp only [go_sem,h0,h1,hw,Fe hx,FL])|(first|apply cS|apply gS)<;>intro hc<;>simp only [go_sem,hc,h0,h1,hw,Fe hx,FL])
    refine FZ (NK y.policy) (λr=>r.all (HU t)) (λi=>[(3,.ptr 1 0),(6,.int .i64 k),(7,.sl none (GH (NK y.policy))),(8,.int .i64 i)]) FM rfl ?_ ?_
    · intro i z zs hd3 hx3 hF3 h03 LP hw3
      simp only [go_sem,h03,LP,GF hx3]
      repeat' (first|(refine pK (Ov _ _) ?_;simp only [go_sem,h03,LP,hw3,GF hx3])|(first|apply cS|apply gS)<;>intro hc<;>simp only [go_sem,hc,h03,LP,hw3,GF hx3])
      all_goals first
        | (have h5 : (NK y.policy).all (HU t) = false := by rw [hF3, Ak]; simp_all
           grind [MT,J3])
        | simp_all
    · intro hF3 hlt3
      have h5:(NK y.policy).all (HU t)=true := by rw [hF3];rfl
      simp only [go_sem,hlt3,dF,h0,h1,Fe hx,FL]
      repeat' (first|(refine pK (AF0 _ _) ?_;simp only [go_sem,h0,h1,hw,Fe hx,FL])|(first|apply cS|apply gS)<;>intro hc<;>simp only [go_sem,hc,h0,h1,hw,Fe hx,FL])
      all_goals first
        | rfl
        | (simp only [MT,J3,F9];rfl)
        | grind [MT,J3,F9]
        | (simp only [MT,J3,F9];grind)
        | (simp [MT,J3,F9, *];done)
        | (simp_all [MT,J3,F9];done)
        | skip
  · intro hF hlt
    simp only [go_sem,hlt,dF]
    all_goals first
      | rfl
      | (simp only [MT,J3];rfl)
      | grind [MT,J3]
      | (simp only [MT,J3];grind)
      | (simp [MT,J3, *];done)
      | (simp_all [MT,J3];done)
      | skip
def pl(n:Ek)(h1:n.nodes.length<=1073741824)(h2:n.edges.length<=1073741824):FO AA 156 [.agg n.c] (.tup [.sl none (G9 (H8 n)),.sl none (G9 (Kb n))]):=by
 refine pB ANs rfl ?_
 simp only [f156,go_sem]
 refine Fo n.nodes (λo r=>o++r.map (·.name)) (λk o=>o.length=k) (λk o=>[(1,.ptr 0 0),(4,.sl (some 1) (G9 o)),(5,.sl (some 1) (G9 [])),(6,.int .i64 k)]) (λk o=>[some n.c]) [] FM rfl rfl rfl ?_ ?_
 ·intro k o y ys hd hx hI hF h0 h1 hw
  have hk2:=Fl hd
  simp only [go_sem,h0,h1,hw,Mq hx]
  repeat' (first|(first|apply cS|apply gS)<;>intro hc<;>simp only [go_sem,hc,h0,h1,hw,Mq hx])
  exact ⟨FM,FM,o++[y.name],sm,by simp [hI],rfl,rfl⟩
 ·intro o hI hF
  simp only [go_sem,AY,dF]
  have ho:o=H8 n:=by simpa [H8] using hF.symm
  subst ho
  refine Fo n.edges (λo r=>o++r.map (·.name)) (λk o=>o.length=k) (λk o=>[(1,.ptr 0 0),(4,.sl (some 1) (G9 (H8 n))),(5,.sl (some 1) (G9 o)),(7,.int .i64 k)]) (λk o=>[some n.c]) [] FM rfl rfl rfl ?_ ?_
  ·intro k o y ys hd hx hI hF h0 h1 hw
   have hk2:=Fl hd
   simp only [go_sem,h0,h1,hw,Mt hx]
   repeat' (first|(first|apply cS|apply gS)<;>intro hc<;>simp only [go_sem,hc,h0,h1,hw,Mt hx])
   exact ⟨FM,FM,o++[y.name],sm,by simp [hI],rfl,rfl⟩
  ·intro o hI hF
   simp only [go_sem,AY,dF]
   have ho:o=Kb n:=by simpa [Kb] using hF.symm
   subst ho
   rfl
def Aaa(n:Ek)(h1:n.nodes.length<=1073741824)(h2:n.edges.length<=1073741824): ∀ x:Ei,FO AA 221 [.agg n.c,.agg x.c] (.bool (knB (H8 n) x)):=by
 refine Su _ λx ih=>?_
 refine FO.fit AAY.c λhf=>?_
 have hl:x.args.length<=9223372036854775807:=O5 (RS (show HR [.agg x.c] from hf.2))
 refine pC AAY rfl ?_
 simp only [f221,go_sem]
 repeat' (first|((first|refine pK (pl n h1 h2) ?_|refine pK (AF0 _ _) ?_);simp only [go_sem])|(first|apply cS|apply gS)<;>intro hc<;>simp only [go_sem,hc])
 all_goals first
  | rfl
  | (simp only [Jd];rfl)
  | grind [Jd]
  | (simp only [Jd];grind)
  | (simp [Jd, *];done)
  | (simp_all [Jd];done)
  | skip
 all_goals
  refine FZ x.args (λr=>Zu (H8 n) r) (λk=>[(2,.ptr 0 0),(3,.ptr 1 0),(7,.int .i64 k)]) hl rfl ?_ ?_
  ·intro k y ys hd hx hF h0 h1 hw
   have hm:=AB hx
   simp only [go_sem,h0,h1,II hx]
   repeat' (first|(refine pK (ih _ hm) ?_;simp only [go_sem,h0,h1,hw,II hx])|(first|apply cS|apply gS)<;>intro hc<;>simp only [go_sem,hc,h0,h1,hw,II hx])
   all_goals first
    | rfl
    | (simp only [Jd,Mu];rfl)
    | grind [Jd,Mu]
    | (simp only [Jd,Mu];grind)
    | (simp [Jd,Mu, *];done)
    | (simp_all [Jd,Mu];done)
    | skip
  ·intro hF hlt
   simp only [go_sem,hlt,dF]
   all_goals first
    | rfl
    | (simp only [Jd,OX];rfl)
    | grind [Jd,OX]
    | (simp only [Jd,OX];grind)
    | (simp [Jd,OX, *];done)
    | (simp_all [Jd,OX];done)
    | skip
def ARm(s:Em)(t:El)(hb:FP t.c<=1073741824):FO AA 218 [.agg s.c,.agg t.c] (.int .i64 (Io s t)) := by
  have hbp := Nw hb
  have hn := eH hbp
  have hn2 := OS (IW hb)
  refine pC AK4 rfl ?_
  simp only [f218,go_sem,FL]
  repeat' (first|(refine pK (UY _ (WT hb)) ?_;simp only [go_sem,FL])|(first|apply cS|apply gS)<;>intro hc<;>simp only [go_sem,hc,FL])
  all_goals first
    | rfl
    | (simp only [Io];rfl)
    | grind [Io]
    | (simp only [Io];grind)
    | (simp [Io, *];done)
    | (simp_all [Io];done)
    | skip
  refine FZ t.ports (λr=>Id SI R3 t.ports (t.ports.length - r.length) r) (λk=>[(2,.ptr 0 0),(3,.ptr 1 0),(6,.int .i64 k)]) FM rfl ?_ ?_
  · intro k y ys hd hx hF2 h0 h1 hw
    have hk2 := Fl hd
    have hmy := AB hx
    have e1:t.ports.length - (ys.length+1)=k := by omega
    have e2:t.ports.length - ys.length=k+1 := by omega
    have ht:(t.ports.take k).length=k := Js FM
    have hby:FP y.c<=1073741824 := by have := zy hbp hmy;simpa only [AV.bulk] using this
    simp only [AC,e1,AQ] at hF2
    simp only [go_sem,h0,h1,GR hx,FL]
    repeat' (first|(refine pK (UY _ (bO hby)) ?_;simp only [go_sem,h0,h1,hw,GR hx,FL])|(first|apply cS|apply gS)<;>intro hc<;>simp only [go_sem,hc,h0,h1,hw,GR hx,FL])
    all_goals first
      | (have hp : SI y = false := by grind [Io, SI, R3, Q0, Qz, Q9, Q8]
         have h5:Id SI R3 t.ports 0 t.ports=false := by rw [hF2,Id,hp];rfl
         have h6:IOq SI R3 t.ports=false := h5
         grind [Io,SI,R3,Q0,Qz,Q9,Q8])
      | skip
    have hp:SI y=true := by grind [Io,SI,R3,Q0,Qz,Q9,Q8]
    refine FZ (t.ports.take k) (λr=>r.any (λz=>R3 z y)) (λi=>[(2,.ptr 0 0),(3,.ptr 1 0),(6,.int .i64 k),(8,.int .i64 i)]) FM rfl ?_ ?_
    · intro i z zs hd3 hx3 hF3 h03 LP hw3
      rw [ht] at LP
      have hx4 := JE hx3
      have Nu:(i:Int)<(t.ports.length:Int) := by omega
      have hmz := AB hx4
      simp only [go_sem,h03,LP,Nu,h0,h1,GR hx4,GR hx,FL]
      repeat' (first|(first|apply cS|apply gS)<;>intro hc<;>simp only [go_sem,hc,h03,LP,Nu,hw3,h0,h1,GR hx4,GR hx,FL])
      all_goals first
        | (have hq : R3 z y = true := by grind [Io, SI, R3, Q0, Qz, Q9, Q8]
           have h5:Id SI R3 t.ports 0 t.ports=false := by rw [hF2,Id,hF3,Au,hq];simp
           have h6:IOq SI R3 t.ports=false := h5
           grind [Io,SI,R3,Q0,Qz,Q9,Q8])
        | (have hq : R3 z y = false := by grind [Io, SI, R3, Q0, Qz, Q9, Q8]
           first|(rw [Au,hq];rfl)|(rw [hq];rfl))
        | skip
    · intro hF3 hlt3
      rw [ht] at hlt3
      simp only [go_sem,ht,hlt3,dF,hw]
      rw [e1,e2,Id,hF3,hp];rfl
  · intro hF2 hlt2
    have hok:IOq SI R3 t.ports=true := by simp only [AQ] at hF2;exact hF2
    simp only [go_sem,hlt2,dF]
    refine FZ t.ports (λr=>Id (Q0 s.network.edges.length) Qz t.ports (t.ports.length - r.length) r) (λk=>[(2,.ptr 0 0),(3,.ptr 1 0),(9,.int .i64 k)]) FM rfl ?_ ?_
    · intro k y ys hd hx hF2 h0 h1 hw
      have hk2 := Fl hd
      have hmy := AB hx
      have e1:t.ports.length - (ys.length+1)=k := by omega
      have e2:t.ports.length - ys.length=k+1 := by omega
      have ht:(t.ports.take k).length=k := Js FM
      simp only [AC,e1,AQ] at hF2
      simp only [go_sem,h0,h1,GR hx,FL]
      repeat' (first|(first|apply cS|apply gS)<;>intro hc<;>simp only [go_sem,hc,h0,h1,hw,GR hx,FL])
      all_goals first
        | (have hp : (Q0 s.network.edges.length) y = false := by grind [Io, SI, R3, Q0, Qz, Q9, Q8]
           have h5:Id (Q0 s.network.edges.length) Qz t.ports 0 t.ports=false := by rw [hF2,Id,hp];rfl
           have h6:IOq (Q0 s.network.edges.length) Qz t.ports=false := h5
           grind [Io,SI,R3,Q0,Qz,Q9,Q8])
        | skip
      have hp:(Q0 s.network.edges.length) y=true := by grind [Io,SI,R3,Q0,Qz,Q9,Q8]
      refine FZ (t.ports.take k) (λr=>r.any (λz=>Qz z y)) (λi=>[(2,.ptr 0 0),(3,.ptr 1 0),(9,.int .i64 k),(10,.int .i64 y.edge),(11,.int .i64 i)]) FM rfl ?_ ?_
      · intro i z zs hd3 hx3 hF3 h03 LP hw3
        rw [ht] at LP
        have hx4 := JE hx3
        have Nu:(i:Int)<(t.ports.length:Int) := by omega
        have hmz := AB hx4
        simp only [go_sem,h03,LP,Nu,h0,h1,GR hx4,GR hx,FL]
        repeat' (first|(first|apply cS|apply gS)<;>intro hc<;>simp only [go_sem,hc,h03,LP,Nu,hw3,h0,h1,GR hx4,GR hx,FL])
        all_goals first
          | (have hq : Qz z y = true := by grind [Io, SI, R3, Q0, Qz, Q9, Q8]
             have h5:Id (Q0 s.network.edges.length) Qz t.ports 0 t.ports=false := by rw [hF2,Id,hF3,Au,hq];simp
             have h6:IOq (Q0 s.network.edges.length) Qz t.ports=false := h5
             grind [Io,SI,R3,Q0,Qz,Q9,Q8])
          | (have hq : Qz z y = false := by grind [Io, SI, R3, Q0, Qz, Q9, Q8]
             first|(rw [Au,hq];rfl)|(rw [hq];rfl))
          | skip
      · intro hF3 hlt3
        rw [ht] at hlt3
        simp only [go_sem,ht,hlt3,dF,hw]
        rw [e1,e2,Id,hF3,hp];rfl
    · intro hF2b hlt2
      have hokb:IOq (Q0 s.network.edges.length) Qz t.ports=true := by simp only [AQ] at hF2b;exact hF2b
      simp only [go_sem,hlt2,dF]
      refine FZ t.wires (λr=>Id (Q9 t) Q8 t.wires (t.wires.length - r.length) r) (λk=>[(3,.ptr 1 0),(12,.int .i64 k)]) FM rfl ?_ ?_
      · intro k y ys hd hx hF2 h0 h1 hw
        have hk2 := Fl hd
        have hmy := AB hx
        have e1:t.wires.length - (ys.length+1)=k := by omega
        have e2:t.wires.length - ys.length=k+1 := by omega
        have ht:(t.wires.take k).length=k := Js FM
        simp only [AC,e1,AQ] at hF2
        simp only [go_sem,h0,h1,Gn hx,FL]
        repeat' (first|(refine pK (AEg _ _) ?_;simp only [go_sem,h0,h1,hw,Gn hx,FL])|(first|apply cS|apply gS)<;>intro hc<;>simp only [go_sem,hc,h0,h1,hw,Gn hx,FL])
        all_goals first
          | (have hp : (Q9 t) y = false := by grind [Io, SI, R3, Q0, Qz, Q9, Q8]
             have h5:Id (Q9 t) Q8 t.wires 0 t.wires=false := by rw [hF2,Id,hp];rfl
             have h6:IOq (Q9 t) Q8 t.wires=false := h5
             grind [Io,SI,R3,Q0,Qz,Q9,Q8])
          | skip
        have hp:(Q9 t) y=true := by grind [Io,SI,R3,Q0,Qz,Q9,Q8]
        refine FZ (t.wires.take k) (λr=>r.any (λz=>Q8 z y)) (λi=>[(3,.ptr 1 0),(12,.int .i64 k),(13,.int .i64 i)]) FM rfl ?_ ?_
        · intro i z zs hd3 hx3 hF3 h03 LP hw3
          rw [ht] at LP
          have hx4 := JE hx3
          have Nu:(i:Int)<(t.wires.length:Int) := by omega
          have hmz := AB hx4
          simp only [go_sem,h03,LP,Nu,h0,h1,Gn hx4,Gn hx,FL]
          repeat' (first|(first|apply cS|apply gS)<;>intro hc<;>simp only [go_sem,hc,h03,LP,Nu,hw3,h0,h1,Gn hx4,Gn hx,FL])
          all_goals first
            | (have hq : Q8 z y = true := by grind [Io, SI, R3, Q0, Qz, Q9, Q8]
               have h5:Id (Q9 t) Q8 t.wires 0 t.wires=false := by rw [hF2,Id,hF3,Au,hq];simp
               have h6:IOq (Q9 t) Q8 t.wires=false := h5
               grind [Io,SI,R3,Q0,Qz,Q9,Q8])
            | (have hq : Q8 z y = false := by grind [Io, SI, R3, Q0, Qz, Q9, Q8]
               first|(rw [Au,hq];rfl)|(rw [hq];rfl))
            | skip
        · intro hF3 hlt3
          rw [ht] at hlt3
          simp only [go_sem,ht,hlt3,dF,hw]
          rw [e1,e2,Id,hF3,hp];rfl
      · intro hF2c hlt2
        have hokc:IOq (Q9 t) Q8 t.wires=true := by simp only [AQ] at hF2c;exact hF2c
        simp only [go_sem,hlt2,dF]
        all_goals first
          | rfl
          | (simp only [Io];rfl)
          | grind [Io]
          | (simp only [Io];grind)
          | (simp [Io, *];done)
          | (simp_all [Io];done)
          | skip
def ARo(s:Em)(t:El)(hl:xO s.fields)(hs:FP s.c<=1073741824)(hb:FP t.c<=1073741824):FO AA 162 [.agg s.c,.agg t.c] (.int .i64 (Jr s t)) := by
  have hsn := M6 hs
  have g1 := eM (M7 hsn)
  have g2 := eR (M8 hsn)
  have hbr := St hb
  have hn := rY hbr
  have hn2 := ls (Rl hb)
  refine pC ANY rfl ?_
  simp only [f162,go_sem]
  repeat' (first|((first|refine pK (ARm _ _ hb) ?_|refine pK (ARl _ _ hl hb) ?_);simp only [go_sem])|(first|apply cS|apply gS)<;>intro hc<;>simp only [go_sem,hc])
  all_goals first
    | rfl
    | (simp only [Jr];rfl)
    | grind [Jr]
    | (simp only [Jr];grind)
    | (simp [Jr, *];done)
    | (simp_all [Jr];done)
    | skip
  refine FZ t.routes (λr=>Ji s r) (λk=>[(2,.ptr 0 0),(3,.ptr 1 0),(6,.int .i64 k)]) FM rfl ?_ ?_
  · intro k y ys hd hx hF h0 h1 hw
    have hby:FP y.c<=1073741824 := by have := rZ hbr (AB hx);simpa only [AV.bulk] using this
    simp only [go_sem,h0,h1,KS hx]
    repeat' (first|((first|refine pK (ABX _ _ hl (Xh hby)) ?_|refine pK (Aah _ (Xi hby)) ?_|refine pK (Aaa _ g1 g2 _) ?_);simp only [go_sem,h0,h1,hw,KS hx])|(first|apply cS|apply gS)<;>intro hc<;>simp only [go_sem,hc,h0,h1,hw,KS hx])
    all_goals first
      | rfl
      | (simp only [Jr,Ji,kR];rfl)
      | grind [Jr,Ji,kR]
      | (simp only [Jr,Ji,kR];grind)
      | (simp [Jr,Ji,kR, *];done)
      | (simp_all [Jr,Ji,kR];done)
      | skip
  · intro hF hlt
    simp only [go_sem,hlt,dF]
    refine FZ t.demands (λr=>Id (kZ t) jk t.demands (t.demands.length - r.length) r) (λk=>[(3,.ptr 1 0),(7,.int .i64 k)]) FM rfl ?_ ?_
    · intro k y ys hd hx hF2 h0 h1 hw
      have hk2 := Fl hd
      have hmy := AB hx
      have e1:t.demands.length - (ys.length+1)=k := by omega
      have e2:t.demands.length - ys.length=k+1 := by omega
      have ht:(t.demands.take k).length=k := Js FM
      simp only [AC,e1,AQ] at hF2
      simp only [go_sem,h0,h1,Ii hx,FL]
      repeat' (first|(refine pK (AEd _ _) ?_;simp only [go_sem,h0,h1,hw,Ii hx,FL])|(first|apply cS|apply gS)<;>intro hc<;>simp only [go_sem,hc,h0,h1,hw,Ii hx,FL])
      all_goals first
        | (have hp : (kZ t) y = false := by grind [Jr, kZ, jk, Ji]
           have h5:Id (kZ t) jk t.demands 0 t.demands=false := by rw [hF2,Id,hp];rfl
           have h6:IOq (kZ t) jk t.demands=false := h5
           grind [Jr,kZ,jk,Ji])
        | skip
      have hp:(kZ t) y=true := by grind [Jr,kZ,jk,Ji]
      refine FZ (t.demands.take k) (λr=>r.any (λz=>jk z y)) (λi=>[(3,.ptr 1 0),(7,.int .i64 k),(8,.ptr 2 0),(9,.int .i64 i)]) FM rfl ?_ ?_
      · intro i z zs hd3 hx3 hF3 h03 LP hw3
        rw [ht] at LP
        have hx4 := JE hx3
        have Nu:(i:Int)<(t.demands.length:Int) := by omega
        have hmz := AB hx4
        simp only [go_sem,h03,LP,Nu,h0,h1,Ii hx4,Ii hx,FL]
        repeat' (first|(first|apply cS|apply gS)<;>intro hc<;>simp only [go_sem,hc,h03,LP,Nu,hw3,h0,h1,Ii hx4,Ii hx,FL])
        all_goals first
          | (have hq : jk z y = true := by grind [Jr, kZ, jk, Ji]
             have h5:Id (kZ t) jk t.demands 0 t.demands=false := by rw [hF2,Id,hF3,Au,hq];simp
             have h6:IOq (kZ t) jk t.demands=false := h5
             grind [Jr,kZ,jk,Ji])
          | (have hq : jk z y = false := by grind [Jr, kZ, jk, Ji]
             first|(rw [Au,hq];rfl)|(rw [hq];rfl))
          | skip
      · intro hF3 hlt3
        rw [ht] at hlt3
        simp only [go_sem,ht,hlt3,dF,hw]
        rw [e1,e2,Id,hF3,hp];rfl
    · intro hF2c hlt2
      have hokc:IOq (kZ t) jk t.demands=true := by simp only [AQ] at hF2c;exact hF2c
      simp only [go_sem,hlt2,dF]
      all_goals first
        | rfl
        | (simp only [Jr,Ji];rfl)
        | grind [Jr,Ji]
        | (simp only [Jr,Ji];grind)
        | (simp [Jr,Ji, *];done)
        | (simp_all [Jr,Ji];done)
        | skip
def pj(l:List ByteArray)(hn:l.length<=1073741824)(hl : ∀ y∈l,y.size<=1073741824):FO AA 157 [.sl none (G9 l)] (.bool (IOq cj bp l)) := by
  refine pC ANp rfl ?_
  simp only [f157,go_sem]
  refine FZ l (λr=>Id cj bp l (l.length - r.length) r) (λk=>[(0,.sl none (G9 l)),(3,.int .i64 k)]) FM rfl ?_ ?_
  · intro k y ys hd hx hF2 h0 h1 hw
    have hk2 := Fl hd
    have hmy := AB hx
    have e1:l.length - (ys.length+1)=k := by omega
    have e2:l.length - ys.length=k+1 := by omega
    have ht:(l.take k).length=k := Js FM
    simp only [AC,e1,AQ] at hF2
    simp only [go_sem,h0,h1,Fu hx,FL]
    repeat' (first|(refine pK (UY _ (hl y hmy)) ?_;simp only [go_sem,h0,h1,hw,Fu hx,FL])|(first|apply cS|apply gS)<;>intro hc<;>simp only [go_sem,hc,h0,h1,hw,Fu hx,FL])
    all_goals first
      | (have hp : cj y = false := by grind [cj, bp]
         have h5:Id cj bp l 0 l=false := by rw [hF2,Id,hp];rfl
         have h6:IOq cj bp l=false := h5
         grind [cj,bp])
      | skip
    have hp:cj y=true := by grind [cj,bp]
    refine FZ (l.take k) (λr=>r.any (λz=>bp z y)) (λi=>[(0,.sl none (G9 l)),(3,.int .i64 k),(5,.int .i64 i)]) FM rfl ?_ ?_
    · intro i z zs hd3 hx3 hF3 h03 LP hw3
      rw [ht] at LP
      have hx4 := JE hx3
      have Nu:(i:Int)<(l.length:Int) := by omega
      have hmz := AB hx4
      simp only [go_sem,h03,LP,Nu,h0,h1,Fu hx4,Fu hx,FL]
      repeat' (first|(first|apply cS|apply gS)<;>intro hc<;>simp only [go_sem,hc,h03,LP,Nu,hw3,h0,h1,Fu hx4,Fu hx,FL])
      all_goals first
        | (have hq : bp z y = true := by grind [cj, bp]
           have h5:Id cj bp l 0 l=false := by rw [hF2,Id,hF3,Au,hq];simp
           have h6:IOq cj bp l=false := h5
           grind [cj,bp])
        | (have hq : bp z y = false := by grind [cj, bp]
           first|(rw [Au,hq];rfl)|(rw [hq];rfl))
        | skip
    · intro hF3 hlt3
      rw [ht] at hlt3
      simp only [go_sem,ht,hlt3,dF,hw]
      rw [e1,e2,Id,hF3,hp];rfl
  · intro hF2c hlt2
    have hokc:IOq cj bp l=true := by simp only [AQ] at hF2c;exact hF2c
    simp only [go_sem,hlt2,dF]
    all_goals first
      | rfl
      | (simp only [hokc];rfl)
      | grind []
      | (simp only [hokc];grind)
      | (simp [hokc, *];done)
      | (simp_all [hokc];done)
      | skip
def gU(n:Ek)(k:Int):FO AA 158 [.agg n.c,.int .i64 k] (.bool (Ic n k)):=by
 refine pC ANm rfl ?_
 simp only [f158,go_sem]
 repeat' (first|(first|apply cS|apply gS)<;>intro hc<;>simp only [go_sem,hc])
 all_goals first
  | rfl
  | (simp only [Ic];rfl)
  | grind [Ic]
  | (simp only [Ic];grind)
  | (simp [Ic, *];done)
  | (simp_all [Ic];done)
  | skip
def AEk(n:Ek)(hb:FP n.c<=1073741824):FO AA 88 [.agg n.c] (.int .i64 (I7 n)) := by
  have b1 := M7 hb
  have b2 := M8 hb
  have g1 := eM b1
  have g2 := eR b2
  have g3 := z8 (Sw hb)
  have n1:(H8 n).length<=1073741824 := by simpa [H8] using g1
  have n2:(Kb n).length<=1073741824 := by simpa [Kb] using g2
  have n3 : ∀ y∈H8 n,y.size<=1073741824 := by
    intro y hy
    obtain ⟨x,hx,rfl⟩ := AO.1 hy
    have := z6 b1 hx
    exact bR (by simpa only [AV.bulk] using this)
  have n4 : ∀ y∈Kb n,y.size<=1073741824 := by
    intro y hy
    obtain ⟨x,hx,rfl⟩ := AO.1 hy
    have := AAB b2 hx
    exact bc (by simpa only [AV.bulk] using this)
  refine pC AU6 rfl ?_
  simp only [f88,go_sem]
  repeat' (first|((first|refine pK (pl n g1 g2) ?_|refine pK (pj _ n1 n3) ?_|refine pK (pj _ n2 n4) ?_);simp only [go_sem])|(first|apply cS|apply gS)<;>intro hc<;>simp only [go_sem,hc])
  all_goals first
    | rfl
    | (simp only [I7];rfl)
    | grind [I7]
    | (simp only [I7];grind)
    | (simp [I7, *];done)
    | (simp_all [I7];done)
    | skip
  refine FZ n.nodes (λr=>r.all (TC n)) (λk=>[(1,.ptr 0 0),(7,.int .i64 k)]) FM rfl ?_ ?_
  · intro k y ys hd hx hF h0 h1 hw
    simp only [go_sem,h0,h1,Mq hx]
    repeat' (first|(first|apply cS|apply gS)<;>intro hc<;>simp only [go_sem,hc,h0,h1,hw,Mq hx])
    all_goals first
      | (have hp : TC n y = false := by grind [TC]
         have h5:n.nodes.all (TC n)=false := by rw [hF,Ak,hp];rfl
         grind [I7])
      | (have hp : TC n y = true := by grind [TC]
         first|(rw [Ak,hp];rfl)|(rw [hp];rfl))
      | skip
  · intro hF hlt
    have k1:n.nodes.all (TC n)=true := by rw [hF];rfl
    simp only [go_sem,hlt,dF]
    refine FZ n.links (λr=>r.all (TE n)) (λk=>[(1,.ptr 0 0),(9,.int .i64 k)]) FM rfl ?_ ?_
    · intro k y ys hd hx hF h0 h1 hw
      simp only [go_sem,h0,h1,SW hx]
      repeat' (first|(refine pK (gU _ _) ?_;simp only [go_sem,h0,h1,hw,SW hx])|(first|apply cS|apply gS)<;>intro hc<;>simp only [go_sem,hc,h0,h1,hw,SW hx])
      all_goals first
        | (have hp : TE n y = false := by grind [TE]
           have h5:n.links.all (TE n)=false := by rw [hF,Ak,hp];rfl
           grind [I7])
        | (have hp : TE n y = true := by grind [TE]
           first|(rw [Ak,hp];rfl)|(rw [hp];rfl))
        | skip
    · intro hF2 hlt2
      have k2:n.links.all (TE n)=true := by rw [hF2];rfl
      simp only [go_sem,hlt2,dF]
      refine FZ n.edges (λr=>r.all (λx=>Ic n x.node)) (λk=>[(1,.ptr 0 0),(11,.int .i64 k)]) FM rfl ?_ ?_
      · intro k y ys hd hx hF h0 h1 hw
        simp only [go_sem,h0,h1,Mt hx]
        repeat' (first|(refine pK (gU _ _) ?_;simp only [go_sem,h0,h1,hw,Mt hx])|(first|apply cS|apply gS)<;>intro hc<;>simp only [go_sem,hc,h0,h1,hw,Mt hx])
        all_goals first
          | (have hp : Ic n y.node = false := by grind
             have h5:n.edges.all (λx=>Ic n x.node)=false := by rw [hF,Ak,hp];rfl
             grind [I7])
          | (have hp : Ic n y.node = true := by grind
             first|(rw [Ak,hp];rfl)|(rw [hp];rfl))
          | skip
      · intro hF3 hlt3
        have k3:n.edges.all (λx=>Ic n x.node)=true := by rw [hF3];rfl
        simp only [go_sem,hlt3,dF]
        all_goals first
          | rfl
          | (simp only [I7];rfl)
          | grind [I7]
          | (simp only [I7];grind)
          | (simp [I7, *];done)
          | (simp_all [I7];done)
          | skip
def ARg(n:Ek)(a b c:Int):FO AA 85 [.agg n.c,.int .i64 a,.int .i64 b,.int .i64 c] (.bool (mQ n a b c)):=by
 refine pC AVF rfl ?_
 simp only [f85,go_sem]
 repeat' (first|(first|apply cS|apply gS)<;>intro hc<;>simp only [go_sem,hc])
 all_goals first
  | rfl
  | (simp only [mQ];rfl)
  | grind [mQ]
  | (simp only [mQ];grind)
  | (simp [mQ, *];done)
  | (simp_all [mQ];done)
  | skip
def AEc(f:Fld):FO AA 160 [.agg f.c] (.bool (SJ f)) := by
  refine pC ANf rfl ?_
  simp only [f160,go_sem]
  repeat' (first|(first|apply cS|apply gS)<;>intro hc<;>simp only [go_sem,hc])
  all_goals first
    | grind [SJ]
    | (simp only [decide_eq_true_eq] at *
       refine ⟨dc, ?_⟩
       rw [Int.tmod_eq_emod_of_nonneg FM,OD FM FM]
       grind [SJ])
def ABW(a b:Fld):FO AA 161 [.agg a.c,.agg b.c] (.bool (Ko a b)):=by
 refine pC ANc rfl ?_
 simp only [f161,go_sem]
 repeat' (first|(first|apply cS|apply gS)<;>intro hc<;>simp only [go_sem,hc])
 all_goals first
  | rfl
  | (simp only [Ko,i64];rfl)
  | grind [Ko,i64]
  | (simp only [Ko,i64];grind)
  | (simp [Ko,i64, *];done)
  | (simp_all [Ko,i64];done)
  | skip
def Aak(l:List Fld)(hb:FP (GL l)<=1073741824):FO AA 89 [.sl none (GL l)] (.int .i64 (Oq l)) := by
  have hn := Zn hb
  refine pC AU1 rfl ?_
  simp only [f89,go_sem]
  repeat' (first|(first|apply cS|apply gS)<;>intro hc<;>simp only [go_sem,hc])
  all_goals first
    | rfl
    | (simp only [Oq];rfl)
    | grind [Oq]
    | (simp only [Oq];grind)
    | (simp [Oq, *];done)
    | (simp_all [Oq];done)
    | skip
  refine FZ l (λr=>IU l (l.length - r.length) r) (λk=>[(0,.sl none (GL l)),(3,.int .i64 k)]) FM rfl ?_ ?_
  · intro k y ys hd hx hF2 h0 h1 hw
    have hk2 := Fl hd
    have e1:l.length - (ys.length+1)=k := by omega
    have e2:l.length - ys.length=k+1 := by omega
    have ht:(l.take k).length=k := Js FM
    have hby:FP y.c<=1073741824 := by have := AD4 hb (AB hx);simpa only [AV.bulk] using this
    simp only [AC,e1,AQ] at hF2
    simp only [go_sem,h0,h1,Gd hx,FL]
    repeat' (first|(refine pK (UY _ (jc hby)) ?_;simp only [go_sem,h0,h1,hw,Gd hx,FL])|(first|apply cS|apply gS)<;>intro hc<;>simp only [go_sem,hc,h0,h1,hw,Gd hx,FL])
    all_goals first
      | rfl
      | (simp only [Oq,IU,F9];rfl)
      | grind [Oq,IU,F9]
      | (simp only [Oq,IU,F9];grind)
      | (simp [Oq,IU,F9, *];done)
      | (simp_all [Oq,IU,F9];done)
      | skip
    refine FZ (l.take k) (λr=>r.any (λz=>decide (z.name=y.name))) (λi=>[(0,.sl none (GL l)),(3,.int .i64 k),(5,.int .i64 i)]) FM rfl ?_ ?_
    · intro i z zs hd3 hx3 hF3 h03 LP hw3
      rw [ht] at LP
      have hx4 := JE hx3
      have Nu:(i:Int)<(l.length:Int) := by omega
      simp only [go_sem,h03,LP,Nu,h0,h1,Gd hx4,Gd hx,FL]
      repeat' (first|(first|apply cS|apply gS)<;>intro hc<;>simp only [go_sem,hc,h03,LP,Nu,hw3,h0,h1,Gd hx4,Gd hx,FL])
      all_goals first
        | (have h5 : (l.take k).any (fun z => decide (z.name = y.name)) = true := by rw [hF3, Au, hc]; rfl
           grind [Oq,IU,F9])
        | (first|(rw [Au,hc];rfl)|(rw [hc];rfl))
        | skip
    · intro hF3 hlt3
      rw [ht] at hlt3
      have k1:(l.take k).any (λz=>decide (z.name=y.name))=false := by rw [hF3];rfl
      simp only [go_sem,ht,hlt3,dF,h0,h1,Gd hx]
      repeat' (first|(refine pK (AEc _) ?_;simp only [go_sem,h0,h1,hw,Gd hx])|(first|apply cS|apply gS)<;>intro hc<;>simp only [go_sem,hc,h0,h1,hw,Gd hx])
      all_goals first
        | rfl
        | (simp only [Oq,IU,F9];rfl)
        | grind [Oq,IU,F9]
        | (simp only [Oq,IU,F9];grind)
        | (simp [Oq,IU,F9, *];done)
        | (simp_all [Oq,IU,F9];done)
        | skip
      refine FZ (l.take k) (λr=>r.any (λz=>Ko z y)) (λi=>[(0,.sl none (GL l)),(3,.int .i64 k),(7,.int .i64 i)]) FM rfl ?_ ?_
      · intro i z zs hd4 hx5 hF4 h04 h15 hw4
        rw [ht] at h15
        have hx6 := JE hx5
        have Nu:(i:Int)<(l.length:Int) := by omega
        simp only [go_sem,h04,h15,Nu,h0,h1,Gd hx6,Gd hx]
        repeat' (first|(refine pK (ABW _ _) ?_;simp only [go_sem,h04,h15,Nu,hw4,h0,h1,Gd hx6,Gd hx])|(first|apply cS|apply gS)<;>intro hc<;>simp only [go_sem,hc,h04,h15,Nu,hw4,h0,h1,Gd hx6,Gd hx])
        all_goals first
          | (have h5 : (l.take k).any (fun z => Ko z y) = true := by rw [hF4, Au, hc]; rfl
             grind [Oq,IU,F9])
          | (first|(rw [Au,hc];rfl)|(rw [hc];rfl))
          | skip
      · intro hF4 hlt4
        rw [ht] at hlt4
        have k2:(l.take k).any (λz=>Ko z y)=false := by rw [hF4];rfl
        simp only [go_sem,ht,hlt4,dF,hw]
        rw [e1,e2]
        grind [IU,F9]
  · intro hF2 hlt2
    simp only [go_sem,hlt2,dF]
    all_goals first
      | rfl
      | (simp only [Oq,IU];rfl)
      | grind [Oq,IU]
      | (simp only [Oq,IU];grind)
      | (simp [Oq,IU, *];done)
      | (simp_all [Oq,IU];done)
      | skip
def Head.l(h:En):List Int:=[h.h0,h.h1,h.h2,h.h3,h.h4,h.h5,h.h6,h.h7,h.h8,h.h9]
def ACf(h:En):h.c=h.l.map (.int .i64):=rfl
def FV(h:En):Bool:=h.l.all LI
def wE(h:En):FO AA 46 [.agg h.c] (.bool (FV h)):=by
 refine pC AWf rfl ?_
 simp only [f46,go_sem]
 refine FZ h.l (λr=>r.all LI) (λk=>[(1,.ptr 0 0),(3,.int .i64 k)]) (by simp [Head.l]) rfl ?_ ?_
 ·intro k y ys hd hx hF h0 h1 hw
  have h2:(k:Int)<10:=h1
  have h3:(k:Int)<((10:Nat):Int):=h1
  have hg:h.c[k]? =some (.int .i64 y):=by rw [ACf,List.getElem?_map,hx];rfl
  simp only [go_sem,h0,h2,h3,hg]
  repeat' (first|(first|apply cS|apply gS)<;>intro hc<;>simp only [go_sem,hc,h0,h2,h3,hg,hw])
  all_goals first
   | rfl
   | (simp only [FV,LI];rfl)
   | grind [FV,LI]
   | (simp only [FV,LI];grind)
   | (simp [FV,LI, *];done)
   | (simp_all [FV,LI];done)
   | skip
 ·intro hF hlt
  have h2 : ¬ ((h.l.length:Nat):Int)<10:=by simp [Head.l]
  simp only [go_sem,h2,dF]
  rw [FV,hF];rfl
@[go_sem] def Aer:((0:Int)<((10:Nat):Int))=True:=dc
@[go_sem] def Aeq:((9:Int)<((10:Nat):Int))=True:=dc
def UI(H:FN)(x y:Option (List AV)):(H++[x]).set H.length y=H++[y]:=sm
attribute [go_sem] UI List.getElem?_concat_length
def yP(n:Nat)(Q:Exit->Kt)(e:Fp)(H2:FN):Prop :=
 ∃ st av,H2[n]? =some (some (G5 st av))/\((st=0/\Q .normal e (H2.set n none))\/(st = -2/\Q .ret e (H2.set n none)) \/ ∃ k:Nat,st=(k:Int)+1/\Q (.exit k) e (H2.set n none))
def YE {P:Program} {n tag:Nat} {h:Hint} {g:Operand} {rs:Array Tmp} {assign body:Code} {Q:Exit->Kt} {e:Fp} {H:FN} {f:FuncId} {first captured:List AV}
  (hg:Gy P none e g = .fn (.func f) first captured)
  (hc:FT P f (first.map AV.borrow++[.yld H.length ⟨tag,rs,assign,body⟩]++captured.map AV.borrow) (H++[some (G5 0 (Hd n e))]) (λ_ H2=>yP H.length Q e H2)):rfK P n h none g rs assign body Q e H :=
 ⟨trivial,tag,f,first,captured,hg,hc⟩
def JB(t:El)(n:Int):Int:=if HU t n=true then Om t n else -1
def IH(e:Int):Nat->List Port->Int
 | _,[] => -1
 | i,x::r=>if 0<=e/\x.edge=e then (i:Int) else IH e (i+1) r
def IG(t:El)(e:Int):Int:=IH e 0 t.ports
def JJ(e:Int):Nat->List Port->Int
 | _,[] => -1
 | i,x::r=>if x.edge ≠ -1/\x.edge=e then (i:Int) else JJ e (i+1) r
def Hq(t:El)(e:Int):Int:=JJ e 0 t.ports
def Ka(p:Int)(h:En):En×Bool:=if p<0 then (Head.z,false) else ({ { h with h0:=p } with h9:=0 },true)
def P2(e:Int)(h:En):En×Bool:=if e<0 then (Head.z,false) else ({ h with h0:=i64 (10000+e) },true)
def gQ(n lo hi:Int):FO AA 81 [.int .i64 n,.int .i64 lo,.int .i64 hi] (.bool (decide (lo<=n)&&decide (n<=hi))):=by
 refine pC AVQ rfl ?_
 simp only [f81,go_sem]
 repeat' (first|(first|apply cS|apply gS)<;>intro hc<;>simp only [go_sem,hc])
 all_goals grind
def ARr(t:El)(n:Int):FO AA 39 [.agg t.c,.int .i64 n] (.int .i64 (JB t n)):=by
 refine FO.fit AFs.c λhf=>?_
 have hl:=M5 (RS hf)
 have hw:IntKind.i64.wrap ((t.ports.length:Int) - 1)=(t.ports.length:Int) - 1:=OD FM FM
 refine pC AFs rfl ?_
 cases hp:HU t n with
 | false =>
  have hq:(decide (0<=n)&&decide (n<=(t.ports.length:Int) - 1))=false:=by unfold HU at hp;grind
  simp only [f39,go_sem]
  repeat' (first|(refine pK (gQ _ _ _) ?_;simp only [go_sem,hw,hq])|(first|apply cS|apply gS)<;>intro hc<;>simp only [go_sem,hc,hw,hq])
  all_goals first
   | rfl
   | (simp only [JB,hp];rfl)
   | grind [JB]
   | (simp only [JB,hp];grind)
   | (simp [JB,hp, *];done)
   | (simp_all [JB,hp];done)
   | skip
 | true =>
  obtain ⟨h1,h2,p,h3,h4,h5⟩:=Ut hp
  have hq:(decide (0<=n)&&decide (n<=(t.ports.length:Int) - 1))=true:=by grind
  simp only [f39,go_sem]
  repeat' (first|(refine pK (gQ _ _ _) ?_;simp only [go_sem,hw,hq,h1,h2,h5])|(first|apply cS|apply gS)<;>intro hc<;>simp only [go_sem,hc,hw,hq,h1,h2,h5])
  all_goals first
   | rfl
   | (simp only [JB,hp];rfl)
   | grind [JB]
   | (simp only [JB,hp];grind)
   | (simp [JB,hp, *];done)
   | (simp_all [JB,hp];done)
   | skip
def gV(t:El)(e:Int):FO AA 164 [.agg t.c,.int .i64 e] (.int .i64 (IG t e)):=by
 refine FO.fit AAc.c λhf=>?_
 have hl:=M5 (RS hf)
 refine pC AAc rfl ?_
 simp only [f164,go_sem]
 refine FZ t.ports (λr=>IH e (t.ports.length - r.length) r) (λk=>[(1,.int .i64 e),(2,.ptr 0 0),(5,.int .i64 k)]) hl rfl ?_ ?_
 ·intro k y ys hd hx hF h0 h1 hw
  have hk2:=Fl hd
  have e1:t.ports.length - (ys.length+1)=k:=FM
  have e2:t.ports.length - ys.length=k+1:=FM
  simp only [AC,e1,AQ] at hF
  simp only [go_sem,h0,h1,GR hx,e1,e2]
  repeat' (first|(first|apply cS|apply gS)<;>intro hc<;>simp only [go_sem,hc,h0,h1,hw,GR hx,e1,e2])
  all_goals first
   | rfl
   | (simp only [IG,IH];rfl)
   | grind [IG,IH]
   | (simp only [IG,IH];grind)
   | (simp [IG,IH, *];done)
   | (simp_all [IG,IH];done)
   | skip
 ·intro hF hlt
  simp only [go_sem,hlt,dF]
  all_goals first
   | rfl
   | (simp only [IG,IH];rfl)
   | grind [IG,IH]
   | (simp only [IG,IH];grind)
   | (simp [IG,IH, *];done)
   | (simp_all [IG,IH];done)
   | skip
def ABd(t:El)(h:En):FO AA 12 [.agg t.c,.agg h.c] (.tup [.agg (P2 (JB t h.h0) h).1.c,.bool (P2 (JB t h.h0) h).2]):=by
 refine pB AXs rfl ?_
 simp only [f12,go_sem]
 repeat' (first|(refine pK (ARr _ _) ?_;simp only [go_sem])|(first|apply cS|apply gS)<;>intro hc<;>simp only [go_sem,hc])
 all_goals first
  | rfl
  | (simp only [P2,i64];rfl)
  | grind [P2,i64]
  | (simp only [P2,i64];grind)
  | (simp [P2,i64, *];done)
  | (simp_all [P2,i64];done)
  | skip
def ABO(t:El)(H:FN):FT AA 62 [.agg t.c] H (λv H'=>v = .fn (.func 116) [] [.ptr H.length 0]/\H'=H++[some t.c]):=by
 refine aC AWH rfl ?_
 simp only [f62,go_sem]
def m9 (t:El) (hl:t.ports.length<=1073741824) (o p:Nat) (L:LoopRec) (H0:FN) (Inv:Nat->FN->Prop) (Q:FN->Prop)
  (hp : ∀ k H,Inv k H->H[p]? =some (some t.c)) (hg : ∀ k H x,Inv k H->Inv k (H++[x]))
  (round : ∀ k x H,t.ports[k]? =some x->x.edge ≠ -1->Inv k H->M3 AA o L [.int .i64 k,.int .i64 x.edge] H (λv H'=>(v = .bool true/\Inv (k+1) H')\/(v = .bool false/\Q H')))
  (skip : ∀ k x H,t.ports[k]? =some x->x.edge = -1->Inv k H->Inv (k+1) H)
  (fin : ∀ H,Inv t.ports.length H->Q H) (h0:Inv 0 H0):FT AA 116 [.yld o L,.ptr p 0] H0 (λ_ H'=>Q H'):=by
 refine aC APq rfl ?_
 have hp0:=hp 0 H0 h0
 simp only [f116,go_sem,hp0]
 refine Kj (σ:=Nat×FN) (λs=>[(0,.yld o L),(6,.sl none (KD t.ports)),(7,.int .i64 t.ports.length),(8,.int .i64 s.1)]) (λs=>s.2) (λs=>s.1<=t.ports.length/\Inv s.1 s.2) (λs=>t.ports.length - s.1) (0,H0) ⟨BY _,h0⟩ rfl rfl ?_
 rintro ⟨k,H⟩ ⟨hk,hI⟩
 by_cases hlt:k<t.ports.length
 ·obtain ⟨x,hx⟩ : ∃ x,t.ports[k]? =some x:=⟨_,AL hlt⟩
  have h0:(0:Int)<=(k:Int):=FM
  have h1:(k:Int)<(t.ports.length:Int):=FM
  have hw:=Mc (k:=k) FM
  simp only [go_sem,h0,h1,GR hx,dT]
  repeat' (first|(first|apply cS|apply gS)<;>intro hc<;>simp only [go_sem,hc,h0,h1,hw,GR hx])
  ·refine Nn.intro (round k x _ hx (by simpa using hc) (hg _ _ _ hI)) λv H' hr=>?_
   rcases hr with ⟨rfl,hi⟩|⟨rfl,hq⟩
   ·simp only [go_sem,hw,Bool.not_true]
    exact ⟨(k+1,H'),⟨FM,hi⟩,FM,rfl,rfl⟩
   ·simp only [go_sem,Av]
    exact hq
  ·exact ⟨(k+1,H++[some x.c]),⟨FM,hg _ _ _ (skip k x H hx (by simpa using hc) hI)⟩,FM,rfl,rfl⟩
 ·have h1 : ¬ (k:Int)<(t.ports.length:Int):=FM
  have hkl:k=t.ports.length:=FM
  simp only [go_sem,h1,dF]
  exact fin H (hkl▸hI)
def ARq(t:El)(hl:t.ports.length<=1073741824)(e:Int):FO AA 34 [.agg t.c,.int .i64 e] (.int .i64 (Hq t e)):=by
 refine pC AXJ rfl ?_
 simp only [f34,go_sem]
 refine Fs.intro (ABO t _) λv H' hr=>?_
 obtain ⟨rfl,rfl⟩:=hr
 simp only [go_sem]
 have step : ∀ (k:Nat) (x:Port),t.ports[k]? =some x->JJ e k (t.ports.drop k)=if x.edge ≠ -1/\x.edge=e then (k:Int) else JJ e (k+1) (t.ports.drop (k+1)):=λk x hx=>by
  obtain ⟨hlt,rfl⟩:=AD.1 hx
  rw [BJ hlt,JJ]
 refine YE (tag:=34) rfl (FT.mono (m9 t hl 4 3 _ _
  (λk H => ∃ g,H=some t.c::some [.int .i64 e]::some [.int .i64 0]::some t.c::some (G5 0 (Hd 15 [(3,.ptr 1 0),(4,.ptr 2 0),(8,.fn (.func 116) [] [.ptr 3 0])]))::g/\Hq t e=JJ e k (t.ports.drop k))
  (λH=>(∃ g,H=some t.c::some [.int .i64 e]::some [.int .i64 0]::some t.c::some (G5 0 (Hd 15 [(3,.ptr 1 0),(4,.ptr 2 0),(8,.fn (.func 116) [] [.ptr 3 0])]))::g/\Hq t e = -1)
   \/ ∃ g r,H=some t.c::some [.int .i64 e]::some [.int .i64 r]::some t.c::some (G5 (-2) (Hd 15 [(3,.ptr 1 0),(4,.ptr 2 0),(8,.fn (.func 116) [] [.ptr 3 0])]))::g/\Hq t e=r)
  ?_ ?_ ?_ ?_ ?_ ?_) λv H2 hq=>?_)
 ·rintro k H ⟨g,rfl,_⟩;rfl
 ·rintro k H x ⟨g,rfl,h⟩;exact ⟨g++[x],rfl,h⟩
 ·rintro k x H hx hne ⟨g,rfl,h⟩
  refine LH (h:=h34) (n:=15) mixed rfl ⟨kr,kr⟩ dc _ _ _ _ rfl rfl rfl ?_
  show I8 _ _ _ _ _ _ [(10,.int .i64 x.edge),(9,.int .i64 k),(0,.undef),(1,.undef),(2,.undef),(3,.ptr 1 0),(4,.ptr 2 0),(5,.undef),(6,.undef),(7,.undef),(8,.fn (.func 116) [] [.ptr 3 0]),(9,.undef),(10,.undef),(11,.undef),(12,.undef),(13,.undef),(14,.undef)] _
  simp only [go_sem]
  refine ⟨_,rfl,TQ _ _ _ (λhc=>?_) (λhc=>?_)⟩
  ·simp only [go_sem,hc]
   exact ⟨_,rfl,.inr (.inr ⟨g,(k:Int),rfl,by rw [h,step k x hx,iP ⟨hne,by simpa using hc⟩]⟩)⟩
  ·simp only [go_sem,hc]
   first
    | exact ⟨_,rfl,g,rfl,by rw [h,step k x hx,iN (λc=>by rw [c.2] at hc;simp at hc)]⟩
    | exact ⟨_,rfl,.inl ⟨g,rfl,by rw [h,step k x hx,iN (λc=>by rw [c.2] at hc;simp at hc)]⟩⟩
 ·rintro k x H hx hne ⟨g,rfl,h⟩
  exact ⟨g,rfl,by rw [h,step k x hx,iN (λc=>c.1 hne)]⟩
 ·rintro H ⟨g,rfl,h⟩
  exact .inl ⟨g,rfl,by rw [h,List.drop_length];rfl⟩
 ·exact ⟨[],rfl,rfl⟩
 ·rcases hq with ⟨g,rfl,h⟩|⟨g,r,rfl,h⟩
  ·refine ⟨0,_,rfl,.inl ⟨rfl, ?_⟩⟩
   show aL 0 _ .normal _ (some t.c::some [.int .i64 e]::some [.int .i64 0]::some t.c::none::g)
   simp only [go_sem,h]
   all_goals skip
  ·refine ⟨-2,_,rfl,.inr (.inl ⟨rfl, ?_⟩)⟩
   show aL 0 _ .ret _ (some t.c::some [.int .i64 e]::some [.int .i64 r]::some t.c::none::g)
   simp only [go_sem,h]
   all_goals skip
def aH(t:El)(hl:t.ports.length<=1073741824)(h:En):FO AA 9 [.agg t.c,.agg h.c] (.tup [.agg (Ka (Hq t (i64 (h.h0 - 10000))) h).1.c,.bool (Ka (Hq t (i64 (h.h0 - 10000))) h).2]):=by
 refine pB Ab5 rfl ?_
 simp only [f9,go_sem]
 repeat' (first|(refine pK (ARq _ hl _) ?_;simp only [go_sem])|(first|apply cS|apply gS)<;>intro hc<;>simp only [go_sem,hc])
 all_goals first
  | rfl
  | (simp only [Ka,i64];rfl)
  | grind [Ka,i64]
  | (simp only [Ka,i64];grind)
  | (simp [Ka,i64, *];done)
  | (simp_all [Ka,i64];done)
  | skip
def lL{α:Type}{p:α->Bool}{q:α->α->Bool}{l:List α}(h:IOq p q l=true): ∀ (k:Nat) (x:α),l[k]? =some x->p x=true /\ ∀ (j:Nat) (y:α),j<k->l[j]? =some y->q y x=false:=by
 have key : ∀ (n i:Nat),l.length - i=n->Id p q l i (l.drop i)=true -> ∀ (k:Nat) (x:α),i<=k->l[k]? =some x->p x=true /\ ∀ (j:Nat) (y:α),j<k->l[j]? =some y->q y x=false:=by
  intro n
  induction n with
  | zero =>
   intro i hi _ k x hk hx
   have:=(AD.1 hx).1
   omega
  | succ n ih =>
   intro i hi ho k x hk hx
   have hlt:i<l.length:=FM
   rw [BJ hlt,Id] at ho
   simp only [AR,BX] at ho
   obtain ⟨⟨h1,h2⟩,h3⟩:=ho
   rcases Nat.eq_or_lt_of_le hk with rfl|hk
   ·rw [AL hlt] at hx
    cases hx
    refine ⟨h1,λj y hj hy=>?_⟩
    rw [List.any_eq_false] at h2
    have hm:y∈l.take i:=AB (i:=j) (by rw [Aj,iP hj];exact hy)
    simpa using h2 y hm
   ·exact ih (i+1) FM h3 k x hk hx
 intro k x hx
 exact key l.length 0 FM (by rw [BN];exact h) k x (BY _) hx
section
variable {s:Em} {t:El} {h:En}
end
end Go.AI
