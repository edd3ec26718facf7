/- A part. -/
import Derived.Test.YtmejnbhofjcibaaGreatDoorQd
import Derived.Test.YtmejnbhofjcibaaGreatDoorMf
import Derived.Test.YtmejnbhofjcibaaGreatDoorMe
set_option linter.unusedSimpArgs false
set_option linter.unusedVariables false
set_option linter.defProp false
set_option maxHeartbeats 8000000
open Go.Proofs.Tryz
open Go.AI renaming Sizes->Eh,Pred->Ei,Policy->Ej,Regex->Ek,Stage->El,Network->Em,Tenant->En,Setup->Eo,Head->Ep
open Bool renaming and_eq_true->AM,false_or->Bn,not_eq_false'->CT,not_eq_true'->BS,not_false->Aw,true_or->BT
open Int renaming lt_irrefl->AQ
open List renaming all_cons->Al,all_nil->A8,any_cons->Au,append_assoc->AE,append_nil->Af,drop_eq_getElem_cons->BG,drop_zero->BC,getElem?_eq_getElem->AH,getElem?_eq_some_iff->AC,getElem?_take->Aj,length_append->AF,length_cons->AD,length_map->Ap,map_cons->AS,mem_cons->AY,mem_map->AO,mem_of_find?_eq_some->DH,mem_of_getElem?->AB,nil_append->AR
open Nat renaming le_trans->AL,sub_self->AP,sub_zero->Bm,zero_le->BU
open Go.Proofs.Tryz renaming prog->AA
namespace Go.AI
def i64(n:Int):Int:=IntKind.i64.wrap n
def bz(c:UInt8):Int:=c.toNat
def loB(c:UInt8):Bool:=decide (97<=bz c)&&decide (bz c<=122)
def dgB(c:UInt8):Bool:=decide (48<=bz c)&&decide (bz c<=57)
def wdB(c:UInt8):Bool:=loB c||dgB c||bz c==95
def s_:Nat->List UInt8->Bool
 |_,[]=>true
 |i,c::l=>(loB c||((dgB c||bz c==95)&&i !=0))&&s_ (i+1) l
def nmB(s:ByteArray):Bool:=s_ 0 s.data.toList&&(decide (1<=(s.size:Int))&&decide ((s.size:Int)<=24))
def Mj:List UInt8->Nat
 |[]=>0
 |c::l=>if wdB c then Mj l+1 else 0
def TM(s:ByteArray):Bool:=HJ.any (λy=>decide (y=s))
def tnB(s:ByteArray):Bool :=
 (decide (1<=(s.size:Int))&&decide ((s.size:Int)<=24))&&((match s.data.toList with|c::_=>loB c|[]=>false)&&(((Mj s.data.toList:Int)==(s.size:Int)) && !TM s))
def GI:ByteArray:=⟨#[112,111,114,116]⟩
def Uk(s:ByteArray):Bool:=tnB s||decide (s=GI)
def Qx(a b:Int):Int:=if a<b then b else a
def Sizes.more(a b:Eh):Eh:=⟨i64 (a.nodes+b.nodes),Qx a.depth (i64 (b.depth+1))⟩
mutual
def lY:Ei->Eh
 |⟨_,_,_,_,args⟩=>U0 args ⟨1,1⟩
def U0:List Ei->Eh->Eh
 |[],o=>o
 |x::l,o=>U0 l (o.more (lY x))
end
mutual
def lZ:Ej->Eh
 |⟨k,p,_,_,args⟩=>P0 args (if k=1 then Sizes.more ⟨1,1⟩ (lY p)else⟨1,1⟩)
def P0:List Ej->Eh->Eh
 |[],o=>o
 |x::l,o=>P0 l (o.more (lZ x))
end
mutual
def szR:Ek->Eh
 |⟨_,_,args⟩=>Zj args ⟨1,1⟩
def Zj:List Ek->Eh->Eh
 |[],o=>o
 |x::l,o=>Zj l (o.more (szR x))
end
def zb(x:Ei):lY x=U0 x.args ⟨1,1⟩:=by cases x;rw[lY]
def Ya(x:Ei)(l:List Ei)(o:Eh):U0 (x::l) o=U0 l (o.more (lY x)):=by rw[U0]
def dP(o:Eh):U0 [] o=o:=by rw[U0]
def Zk(x:Ej):lZ x=P0 x.args (if x.kind=1 then Sizes.more ⟨1,1⟩ (lY x.pred)else⟨1,1⟩):=by cases x;rw[lZ]
def M3(x:Ej)(l:List Ej)(o:Eh):P0 (x::l) o=P0 l (o.more (lZ x)):=by rw[P0]
def Oa(o:Eh):P0 [] o=o:=by rw[P0]
def AH3(x:Ek):szR x=Zj x.args ⟨1,1⟩:=by cases x;rw[szR]
def rz(x:Ek)(l:List Ek)(o:Eh):Zj (x::l) o=Zj l (o.more (szR x)):=by rw[Zj]
def za(o:Eh):Zj [] o=o:=by rw[Zj]
mutual
def ZD:Ei->Ei->Bool
 |⟨k,f,n,m,xs⟩,⟨k',f',n',m',ys⟩=>(k==k'&&(decide (f=f')&&(n==n'&&(m==m'&&xs.length==ys.length))))&&S3 xs ys
def S3:List Ei->List Ei->Bool
 |[],_=>true
 |x::l,y::r=>ZD x y&&S3 l r
 |_::_,[]=>false
end
mutual
def eqO:Ej->Ej->Bool
 |⟨k,p,f,n,xs⟩,⟨k',p',f',n',ys⟩=>ZD p p'&&((k==k'&&(decide (f=f')&&(n==n'&&xs.length==ys.length)))&&Xl xs ys)
def Xl:List Ej->List Ej->Bool
 |[],_=>true
 |x::l,y::r=>eqO x y&&Xl l r
 |_::_,[]=>false
end
theorem Ih(x y:Ei):ZD x y=((x.kind==y.kind&&(decide (x.field=y.field)&&(x.n==y.n&&(x.m==y.m&&x.args.length==y.args.length))))&&S3 x.args y.args):=by cases x;cases y;rw[ZD]
theorem I9(x y:Ei)(l r:List Ei):S3 (x::l) (y::r)=(ZD x y&&S3 l r):=by rw[S3]
theorem MD(l:List Ei):S3 [] l=true:=by rw[S3]
theorem JJ(x y:Ej):eqO x y=(ZD x.pred y.pred&&((x.kind==y.kind&&(decide (x.field=y.field)&&(x.n==y.n&&x.args.length==y.args.length)))&&Xl x.args y.args)):=by cases x;cases y;rw[eqO]
theorem Lq(x y:Ej)(l r:List Ej):Xl (x::l) (y::r)=(eqO x y&&Xl l r):=by rw[Xl]
theorem O8(l:List Ej):Xl [] l=true:=by rw[Xl]
def Nt:List ByteArray->List ByteArray->Bool
 |[],_=>true
 |x::l,y::r=>decide (x=y)&&Nt l r
 |_::_,[]=>false
theorem Jr(x y:ByteArray)(l r:List ByteArray):Nt (x::l) (y::r)=(decide (x=y)&&Nt l r):=by rw[Nt]
theorem L9(l:List ByteArray):Nt [] l=true:=by rw[Nt]
def Xk(x y:Stp):Bool :=
 (x.kind==y.kind&&(decide (x.var=y.var)&&(decide (x.field=y.field)&&(x.n==y.n&&(x.m==y.m&&x.key.length==y.key.length)))))&&Nt x.key y.key
def RM(n:Int):Bool:=decide (0<=n)&&decide (n<=65535)
def K5(x:Ei):Bool:=decide (x.field=⟨#[]⟩)&&(x.n==0&&x.m==0)
def So(x:Ei):Bool×Nat :=
 if x.kind=1\/x.kind=2 then(K5 x,0)
 else if x.kind=3 then(Uk x.field&&(RM x.n&&x.m==0),0)
 else if x.kind=4 then(Uk x.field&&(RM x.n&&(decide (0<=x.m)&&decide (x.m<=16))),0)
 else if x.kind=5 then(Uk x.field&&(decide (0<=x.n)&&(decide (x.n<=x.m)&&decide (x.m<=65535))),0)
 else if x.kind=6 then(K5 x,1)
 else if x.kind=7\/x.kind=8 then(K5 x,2)
 else if x.kind=9 then(decide (x.field=⟨#[]⟩)&&(decide (0<=x.n)&&(decide (x.n<x.m)&&decide (x.m<=1073741824))),0)
 else(false,0)
mutual
def Na:Ei->Bool
 |⟨k,f,n,m,xs⟩=>((So ⟨k,f,n,m,xs⟩).1&&xs.length==(So ⟨k,f,n,m,xs⟩).2)&&V8 xs
def V8:List Ei->Bool
 |[]=>true
 |x::l=>Na x&&V8 l
end
theorem Hn(x:Ei):Na x=(((So x).1&&x.args.length==(So x).2)&&V8 x.args):=by cases x;rw[Na]
def Kg(x:Ei)(l:List Ei):V8 (x::l)=(Na x&&V8 l):=by rw[V8]
def NI:V8 []=true:=by rw[V8]
abbrev Pr:Ei:=Pred.z
def VR(x:Ej):Bool×Nat :=
 if x.kind=1 then(Na x.pred&&(decide (x.field=⟨#[]⟩)&&x.n==0),0)
 else if x.kind=2 then(Uk x.field&&(ZD x.pred Pr&&RM x.n),0)
 else if x.kind=3\/x.kind=4 then(ZD x.pred Pr&&(decide (x.field=⟨#[]⟩)&&x.n==0),2)
 else if x.kind=5 then(ZD x.pred Pr&&(decide (x.field=⟨#[]⟩)&&x.n==0),1)
 else(false,0)
mutual
def Rr:Ej->Bool
 |⟨k,p,f,n,xs⟩=>((VR ⟨k,p,f,n,xs⟩).1&&xs.length==(VR ⟨k,p,f,n,xs⟩).2)&&V9 xs
def V9:List Ej->Bool
 |[]=>true
 |x::l=>Rr x&&V9 l
end
theorem IT(x:Ej):Rr x=(((VR x).1&&x.args.length==(VR x).2)&&V9 x.args):=by cases x;rw[Rr]
def Kh(x:Ej)(l:List Ej):V9 (x::l)=(Rr x&&V9 l):=by rw[V9]
def NJ:V9 []=true:=by rw[V9]
def ym(x:Ek):Bool×Nat :=
 if x.kind=1\/x.kind=3 then(decide (x.node=⟨#[]⟩),0)
 else if x.kind=2 then(tnB x.node,0)
 else if x.kind=4\/x.kind=5 then(decide (x.node=⟨#[]⟩),2)
 else if x.kind=6 then(decide (x.node=⟨#[]⟩),1)
 else(false,0)
mutual
def fmR:Ek->Bool
 |⟨k,n,xs⟩=>((ym ⟨k,n,xs⟩).1&&xs.length==(ym ⟨k,n,xs⟩).2)&&ae xs
def ae:List Ek->Bool
 |[]=>true
 |x::l=>fmR x&&ae l
end
theorem Q5(x:Ek):fmR x=(((ym x).1&&x.args.length==(ym x).2)&&ae x.args):=by cases x;rw[fmR]
def ZB(x:Ek)(l:List Ek):ae (x::l)=(fmR x&&ae l):=by rw[ae]
def AB':ae []=true:=by rw[ae]
def Qn(z:Eh):Int:=if z.nodes>200\/z.depth>20 then 2 else 0
def qt(z:Eh)(b:Bool):Int:=if Qn z=0 then(if b then 0 else 1)else Qn z
def ckP(x:Ei):Int:=qt (lY x) (Na x)
def Up(x:Ej):Int:=qt (lZ x) (Rr x)
def ckR(x:Ek):Int:=qt (szR x) (fmR x)
abbrev xJ:Stp:=Stp.z
def ZA(x:Stp):Bool :=
 if Xk x xJ then true
 else if !tnB x.var\/x.key.length<1\/4<x.key.length \/ !x.key.all Uk then false
 else if x.kind=1 then(Uk x.field||decide (x.field=⟨#[]⟩))&&(x.n==0&&x.m==0)
 else if x.kind=2 then decide (x.field=⟨#[]⟩)&&(x.n==0&&x.m==0)
 else if x.kind=3 then decide (x.field=⟨#[]⟩)&&(decide (0<=x.n)&&(decide (x.n<=1073741824)&&x.m==0))
 else if x.kind=4 then Uk x.field&&(decide (0<=x.n)&&(decide (x.n<=x.m)&&decide (x.m<=65535)))
 else if x.kind=5 then Uk x.field&&(x.n==0&&x.m==0)
 else if x.kind=6 then decide (x.field=⟨#[]⟩)&&(decide (1<=x.n)&&(decide (x.n<=65535)&&(decide (1<=x.m)&&decide (x.m<=1073741824))))
 else false
def dB(x:Stp):Int:=if ZA x then 0 else 1
def Q7:List El->Int
 |[]=>0
 |x::l=>if Up x.policy=0 then(if dB x.step=0 then Q7 l else dB x.step)else Up x.policy
def XC(l:List El):Int:=if 8<l.length then 2 else Q7 l
mutual
def Ob:Ej->Int
 |⟨k,_,_,_,args⟩=>if k=5 then i64 (J0 args 0+1)else J0 args 0
def J0:List Ej->Int->Int
 |[],o=>o
 |x::l,o=>J0 l (Qx o (Ob x))
end
mutual
def Yh:Ej->Int
 |⟨k,_,_,_,args⟩=>if k=2 then i64 (Lz args 0+1)else Lz args 0
def Lz:List Ej->Int->Int
 |[],o=>o
 |x::l,o=>Lz l (i64 (o+Yh x))
end
theorem M4(x:Ej):Ob x=if x.kind=5 then i64 (J0 x.args 0+1)else J0 x.args 0:=by cases x;rw[Ob]
def Zo(x:Ej)(l:List Ej)(o:Int):J0 (x::l) o=J0 l (Qx o (Ob x)):=by rw[J0]
def dQ(o:Int):J0 [] o=o:=by rw[J0]
theorem Og(x:Ej):Yh x=if x.kind=2 then i64 (Lz x.args 0+1)else Lz x.args 0:=by cases x;rw[Yh]
def d_(x:Ej)(l:List Ej)(o:Int):Lz (x::l) o=Lz l (i64 (o+Yh x)):=by rw[Lz]
def ls(o:Int):Lz [] o=o:=by rw[Lz]
def Oo(x:Ej):Bool :=
 let n:=Ob x
 let k:=Yh x
 n==0||(n==1&&decide (k<=8)||(n==2&&decide (k<=4)||(n==3&&decide (k<=3)||n==4&&decide (k<=2))))
def Xj(x:Ei):Bool:=decide ((lY x).nodes<=400)&&decide ((lY x).depth<=60)
def nf(x:Ej):Bool:=decide ((lZ x).nodes<=400)&&(decide ((lZ x).depth<=60)&&decide ((lY x.pred).nodes<=400))
def iY(x:Ek):Bool:=decide ((szR x).nodes<=400)&&decide ((szR x).depth<=60)
def LB(l:List El):Bool:=l.all λx=>nf x.policy&&decide ((x.step.key.length:Int)<=20)
def O6(l:List El):Bool:=LB (l.take 12)&&decide ((l.length:Int)<=12)
def ng(n:Em)(a b c:Int):Bool:=decide ((n.nodes.length:Int)<=a)&&(decide ((n.links.length:Int)<=b)&&decide ((n.edges.length:Int)<=c))
def MC(t:En):Bool :=
 (O6 t.program&&(decide ((t.ports.length:Int)<=80)&&(decide ((t.wires.length:Int)<=80)&&(decide ((t.routes.length:Int)<=20)&&decide ((t.demands.length:Int)<=80))))) &&
  ((t.program.all λx=>decide (Ob x.policy<=2)&&Oo x.policy)&&(t.routes.all λx=>Xj x.pred&&iY x.path))
def Sh(f:Fld):Bool :=
 decide (1<=f.width)&&(decide (f.width<=16)&&(decide (16<=f.at_)&&(decide (f.at_<=143)&&decide (f.at_ % 16+f.width<=16))))
def Ky(a b:Fld):Bool:=decide (a.at_<i64 (b.at_+b.width))&&decide (b.at_<i64 (a.at_+a.width))
def Ju(l:List Fld):Nat->List Fld->Int
 |_,[]=>0
 |i,x::r=>if !nmB x.name\/x.name=GI then 4 else if(l.take i).any (λy=>decide (y.name=x.name))then 4
  else if !Sh x then 1 else if(l.take i).any (λy=>Ky y x)then 1 else Ju l (i+1) r
def PB(l:List Fld):Int:=if 16<l.length then 2 else Ju l 0 l
def Io(n:Em)(k:Int):Bool:=decide (0<=k)&&decide (k<n.nodes.length)
def JZ:Fld:=⟨GI,0,16⟩
def Ff(l:List Fld)(s:ByteArray):Fld×Bool :=
 if s=GI then(JZ,true)else match l.find? (λf=>decide (f.name=s))with
  |some f=>(f,true)
  |none=>(Fld.z,false)
def XH:Nat->Int
 | 0=>1
 |n+1=>i64 (XH n*2)
def KY(f:Fld):Int:=i64 (XH f.width.toNat - 1)
mutual
def Se:Ei->List Ei
 |⟨k,f,n,m,xs⟩=>⟨k,f,n,m,xs⟩::M7 xs
def M7:List Ei->List Ei
 |[]=>[]
 |x::l=>Se x++M7 l
end
mutual
def M8:Ej->List Ej
 |⟨k,p,f,n,xs⟩=>⟨k,p,f,n,xs⟩::MZ xs
def MZ:List Ej->List Ej
 |[]=>[]
 |x::l=>M8 x++MZ l
end
def LZ(x:Ei):Se x=x::M7 x.args:=by cases x;rw[Se]
def Jf(x:Ei)(l:List Ei):M7 (x::l)=Se x++M7 l:=by rw[M7]
def Lk:M7 []=[]:=by rw[M7]
def Kv(x:Ej):M8 x=x::MZ x.args:=by cases x;rw[M8]
def Ip(x:Ej)(l:List Ej):MZ (x::l)=M8 x++MZ l:=by rw[MZ]
def KT:MZ []=[]:=by rw[MZ]
def Kr(x:Ei):FU x.c=x.field.size+5+FU (GH x.args):=by
 show FU [_,_,_,_,_]=_
 simp only[FU,AV.bulk];omega
def Iz(x:Ej):FU x.c=FU x.pred.c+x.field.size+4+FU (F6 x.args):=by
 show FU [_,_,_,_,_,_,_,_,_]=_
 rw[Kr]
 simp only[FU,AV.bulk];omega
def eG:∀x:Ei,(Se x).length<=FU x.c:=by
 refine I2 _ λx ih=>?_
 rw[LZ,Kr,He]
 have:∀l:List Ei,(∀y∈l,(Se y).length<=FU y.c)->(M7 l).length<=FU (l.map λx => .agg x.c):=by
  intro l
  induction l with
  |nil=>intro _;simp[Lk]
  |cons y l ihl =>
   intro h
   have h1:=h y sm
   have h2:=ihl λz hz=>h z (by simp[hz])
   rw[Jf,AF]
   simp only[AS,FU,AV.bulk]
   omega
 have:=this x.args ih
 simp only[AD]
 omega
def RY:∀x:Ej,(M8 x).length<=FU x.c:=by
 refine HM _ λx ih=>?_
 rw[Kv,Iz,Gf]
 have:∀l:List Ej,(∀y∈l,(M8 y).length<=FU y.c)->(MZ l).length<=FU (l.map λx => .agg x.c):=by
  intro l
  induction l with
  |nil=>intro _;simp[KT]
  |cons y l ihl =>
   intro h
   have h1:=h y sm
   have h2:=ihl λz hz=>h z (by simp[hz])
   rw[Ip,AF]
   simp only[AS,FU,AV.bulk]
   omega
 have:=this x.args ih
 simp only[AD]
 omega
def sL:∀x:Ej,∀y∈M8 x,FU y.c<=FU x.c:=by
 refine HM _ λx ih=>λy hy=>?_
 rw[Kv]at hy
 rcases AY.1 hy with rfl|hy
 ·exact Nat.le_refl _
 have:∀l:List Ej,(∀z∈l,∀y∈M8 z,FU y.c<=FU z.c) -> ∀y∈MZ l,FU y.c<=FU (l.map λx => .agg x.c):=by
  intro l
  induction l with
  |nil=>intro _ y hy;rw[KT]at hy;cases hy
  |cons z l ihl =>
   intro h y hy
   rw[Ip]at hy
   simp only[AS,FU,AV.bulk]
   rcases List.mem_append.1 hy with hy|hy
   ·have:=h z sm y hy;omega
   ·have:=ihl (λz hz=>h z (by simp[hz])) y hy;omega
 have:=this x.args ih y hy
 have h2:=Iz x
 rw[Gf]at h2
 omega
def P3(l:List Fld)(x:Ei):Int :=
 if x.kind≠3/\x.kind≠4/\x.kind≠5 then 0
 else if(Ff l x.field).2=false then 4
 else if KY (Ff l x.field).1<(if x.kind=5 then x.m else x.n)\/(x.kind=4/\(Ff l x.field).1.width<x.m)then 1 else 0
def MB(l:List Fld):List Ei->Int
 |[]=>0
 |x::r=>if P3 l x=0 then MB l r else P3 l x
def Rs(l:List Fld)(x:Ei):Int:=MB l (Se x)
def UA(l:List Fld)(x:Ei):Int:=if ckP x=0 then Rs l x else ckP x
def RZ(l:List Fld)(x:Ej):Int :=
 if x.kind=1 then Rs l x.pred
 else if x.kind=2 then(if(Ff l x.field).2=false then 4 else if KY (Ff l x.field).1<x.n then 1 else 0)
 else 0
def L0(l:List Fld):List Ej->Int
 |[]=>0
 |x::r=>if RZ l x=0 then L0 l r else RZ l x
def Km(l:List Fld)(x:Ej):Int:=if Up x=0 then L0 l (M8 x)else Up x
def Jb(l:List ByteArray):Nat->List ByteArray->Bool
 |_,[]=>true
 |i,x::r => !(l.take i).any (λy=>decide (y=x))&&Jb l (i+1) r
def J5(s:Stp):List ByteArray:=if s.field=⟨#[]⟩then s.key else s.key++[s.field]
def MU(l:List Fld)(s:Stp):Int :=
 if dB s≠0\/s.kind=0 then dB s
 else if !(J5 s).all (λy=>(Ff l y).2)then 4
 else if !Jb s.key 0 s.key then 1
 else if s.kind=4/\KY (Ff l s.field).1<s.m then 1 else 0
def Lc(k:Int):Int:=if k=1 then 1 else if k=2\/k=3 then 2 else if k=4\/k=5 then 3 else 4
def I3(l:List Fld)(key:List ByteArray):List Int:=key.map λy=>(Ff l y).1.width
def L3(s:Stp):Bool:=s.kind==4||s.kind==6
def Xm(a b:List Int):Bool:=decide (a=b)
def UE(l:List Fld)(s t:Stp):Bool :=
 !((L3 s&&L3 t)&&(s.n !=t.n||s.m !=t.m))&&(Xm (I3 l s.key) (I3 l t.key)&&Lc s.kind==Lc t.kind)
def Ng(l:List Fld):List El->Int
 |[]=>0
 |x::r=>if Km l x.policy=0 then(if MU l x.step=0 then Ng l r else MU l x.step)else Km l x.policy
def LT(l:List Fld)(s t:Stp):Bool:=(s.kind !=0&&t.kind !=0)&&(decide (s.var=t.var) && !UE l s t)
def LP(l:List Fld)(p:List El):Nat->List El->Bool
 |_,[]=>true
 |i,x::r => !(p.take i).any (λy=>LT l y.step x.step)&&LP l p (i+1) r
def QN(l:List Fld)(p:List El):Int :=
 if XC p≠0 then XC p else if Ng l p≠0 then Ng l p else if LP l p 0 p then 0 else 11
def Jn(n:Int):Bool->List Int->List Int
 |d,[]=>if d then[]else[n]
 |d,x::r=>(if n<=x/\d=false then[n]else[])++((if x≠n then[x]else[])++Jn n (d||decide (n<=x)) r)
def Sd(l:List Int)(n:Int):List Int:=Jn n false l
def Mk(o:List Int):List Ej->List Int
 |[]=>o
 |y::r=>Mk (if y.kind=2/\y.field=GI then Sd o y.n else o) r
def Nk(x:Ej):List Int:=Mk [] (M8 x)
def IY{α:Type}(p:α->Bool)(q:α->α->Bool)(l:List α):Nat->List α->Bool
 |_,[]=>true
 |i,x::r=>(p x && !(l.take i).any (λy=>q y x))&&IY p q l (i+1) r
def IN{α:Type}(p:α->Bool)(q:α->α->Bool)(l:List α):Bool:=IY p q l 0 l
def tz(l:List ByteArray)(s:ByteArray):Bool:=l.any (λy=>decide (y=s))
def HZ(t:En)(n:Int):Bool:=decide (0<=n)&&decide (n<(t.ports.length:Int))
def O_(t:En)(n:Int):Int:=(t.ports[n.toNat]?.getD Port.z).edge
def J'(t:En)(n:Int):Bool:=HZ t n&&O_ t n == -1
def KV(t:En)(n:Int):Bool:=HZ t n&&O_ t n != -1
def Sg(x:Port):Bool:=nmB x.name
def SP(y x:Port):Bool:=decide (y.name=x.name)
def P1(m:Int)(x:Port):Bool:=decide (-1<=x.edge)&&decide (x.edge<m)
def QG(y x:Port):Bool:=x.edge != -1&&y.edge==x.edge
def RX(t:En)(x:Wire):Bool:=J' t x.src&&J' t x.dst
def RW(y x:Wire):Bool:=y.src==x.src
def Ii(s:Eo)(t:En):Int :=
 if nmB t.name=false then 4 else if IN Sg SP t.ports=false then 4
 else if IN (P1 s.network.edges.length) QG t.ports=false then 1 else if IN (RX t) RW t.wires=false then 1 else 0
def Kn(t:En):List El->Int
 |[]=>0
 |x::r=>if(Nk x.policy).all (HZ t)=false then 1 else if x.step.field=GI\/(x.step.kind=5/\tz x.step.key GI=true)then 1 else Kn t r
def Mw(s:Eo)(t:En):Int:=if QN s.fields t.program≠0 then QN s.fields t.program else Kn t t.program
mutual
def knB(l:List ByteArray):Ek->Bool
 |⟨k,n,xs⟩ => !(k==2 && !tz l n)&&aY l xs
def aY(l:List ByteArray):List Ek->Bool
 |[]=>true
 |x::r=>knB l x&&aY l r
end
theorem Ji(l:List ByteArray)(x:Ek):knB l x=(!(x.kind==2 && !tz l x.node)&&aY l x.args):=by cases x;rw[knB]
theorem NF(l:List ByteArray)(x:Ek)(r:List Ek):aY l (x::r)=(knB l x&&aY l r):=by rw[aY]
theorem Rn(l:List ByteArray):aY l []=true:=by rw[aY]
def IH(n:Em):List ByteArray:=n.nodes.map (·.name)
def Kk(n:Em):List ByteArray:=n.edges.map (·.name)
def lk(s:Eo)(x:Route):Int :=
 if UA s.fields x.pred≠0 then UA s.fields x.pred else if ckR x.path≠0 then ckR x.path else if knB (IH s.network) x.path=false then 4 else 0
def J1(s:Eo):List Route->Int
 |[]=>0
 |x::r=>if lk s x=0 then J1 s r else lk s x
def ly(t:En)(d:Demand):Bool :=
 KV t d.src&&(KV t d.dst&&(d.src !=d.dst&&(decide (0<=d.floor)&&(decide (d.floor<=d.ceiling)&&decide (d.ceiling<=1048576)))))
def k_(y x:Demand):Bool:=y.src==x.src&&y.dst==x.dst
def JK(s:Eo)(t:En):Int :=
 if 64<t.ports.length\/64<t.wires.length\/16<t.routes.length\/64<t.demands.length then 2
 else if Ii s t≠0 then Ii s t else if Mw s t≠0 then Mw s t
 else if J1 s t.routes≠0 then J1 s t.routes else if IN (ly t) k_ t.demands=false then 1 else 0
def eM(x:ByteArray):Bool:=nmB x
def cw(y x:ByteArray):Bool:=decide (y=x)
def TX(n:Em)(x:Node):Bool:=decide (0<=x.rules)&&(decide (x.rules<=4000)&&(decide (0<=x.entries)&&decide (x.entries<=100000)))
def TZ(n:Em)(x:Link):Bool:=Io n x.src&&(Io n x.dst&&(x.src !=x.dst&&(decide (0<=x.capacity)&&decide (x.capacity<=1048576))))
def JE(n:Em):Int :=
 if 200<n.nodes.length\/2000<n.links.length\/400<n.edges.length then 2
 else if IN eM cw (IH n)=false\/IN eM cw (Kk n)=false then 4
 else if n.nodes.all (TX n)=false then 1 else if n.links.all (TZ n)=false then 1 else if n.edges.all (λx=>Io n x.node)=false then 1 else 0
def MV(n:Int):Bool:=decide (0<=n)&&decide (n<=65535)
def Yi(n:Int): ∀(l:List Int) (d:Bool),(Jn n d l).length<=l.length+(if d then 0 else 1)
 |[],d=>by cases d<;>simp[Jn]
 |x::r,d=>by
  have ih:=Yi n r (d||decide (n<=x))
  have g1:(if x≠n then[x]else[]).length<=1:=by split<;>simp
  simp only[Jn,AF,AD]
  cases d<;>by_cases hx:n<=x<;>simp[hx]at ih g1 ⊢ <;> omega
def AAE(o:List Int)(n:Int):(Sd o n).length<=o.length+1:=by
 have:=Yi n o false
 simpa [Sd]using this
def lw(x:Ej):(Nk x).length<=(M8 x).length:=by
 have h1:∀(n:Int) (l:List Int) (d:Bool),(Jn n d l).length<=l.length+1:=by
  have h2:∀(n:Int) (l:List Int),(Jn n true l).length<=l.length:=by
   intro n l
   induction l with
   |nil=>simp[Jn]
   |cons x r ih =>
    simp only[Jn,BT,Bool.true_eq_false,and_false,if_false,AR,AF,AD]
    have:(if x≠n then[x]else[]).length<=1:=by split<;>simp
    omega
  intro n l
  induction l with
  |nil=>intro d;cases d<;>simp[Jn]
  | cons x r ih =>
   intro d
   cases d with
   |true=>have:=h2 n (x::r);simp at this ⊢;omega
   | false =>
    simp only[Jn,AF,AD]
    have g1:(if x≠n then[x]else[]).length<=1:=by split<;>simp
    by_cases hx:n<=x
    ·have:=h2 n r
     simp[hx]
     simp at this g1
     omega
    ·have:=ih false
     simp[hx]
     simp at this g1
     omega
 have h3:∀(l:List Ej) (o:List Int),(Mk o l).length<=o.length+l.length:=by
  intro l
  induction l with
  |nil=>intro o;simp[Mk]
  |cons y r ih =>
   intro o
   rw[Mk]
   refine AL (ih _) ?_
   have:=h1 y.n o false
   simp only[AD]
   split
   ·unfold Sd;omega
   ·omega
 have:=h3 (M8 x) []
 simpa [Nk]using this
def ZN{l:List Fld}(h:PB l=0): ∀ f∈l,f.width<=16:=by
 have:∀(r:List Fld) (i:Nat),Ju l i r=0 -> ∀f∈r,f.width<=16:=by
  intro r
  induction r with
  |nil=>intro i _ f hf;cases hf
  | cons x r ih =>
   intro i h f hf
   rw[Ju]at h
   split at h
   ·cases h
   split at h
   ·cases h
   split at h
   ·cases h
   split at h
   ·cases h
   rename_i hp _
   rcases AY.1 hf with rfl|hf
   ·simp only[Sh,BS,Bool.and_eq_false_iff,not_or,Bool.not_eq_false,decide_eq_true_eq]at hp
    omega
   ·exact ih _ h f hf
 unfold PB at h
 split at h
 ·cases h
 ·exact this l 0 h
open Go.Proofs
@[go_sem] def rW(x:Ei)(v:Int)(o0:Option Nat):Hq (x.cf o0) [.int .i64 v]=({ x with kind:=v }:Ei).cf o0:=rfl
@[go_sem] def rV(x:Ei)(v:ByteArray)(o0:Option Nat):splice (x.cf o0) 1 [.str v]=({ x with field:=v }:Ei).cf o0:=rfl
@[go_sem] def AD9(x:Ei)(v:Int)(o0:Option Nat):splice (x.cf o0) 2 [.int .i64 v]=({ x with n:=v }:Ei).cf o0:=rfl
@[go_sem] def ye(x:Ei)(v:List Ei)(o0:Option Nat)(p:Option Nat):splice (x.cf o0) 4 [.sl p (GH v)]=({ x with args:=v }:Ei).cf p:=rfl
@[go_sem] def lJ(x:Ej)(v:Int)(o0 o1:Option Nat):Hq (x.cf o0 o1) [.int .i64 v]=({ x with kind:=v }:Ej).cf o0 o1:=rfl
@[go_sem] def pd(x:Ej)(v:Ei)(o0 o1:Option Nat)(p0:Option Nat):splice (x.cf o0 o1) 1 (v.cf p0)=({ x with pred:=v }:Ej).cf p0 o1:=rfl
@[go_sem] def lI(x:Ej)(v:ByteArray)(o0 o1:Option Nat):splice (x.cf o0 o1) 6 [.str v]=({ x with field:=v }:Ej).cf o0 o1:=rfl
@[go_sem] def yu(x:Ej)(v:Int)(o0 o1:Option Nat):splice (x.cf o0 o1) 7 [.int .i64 v]=({ x with n:=v }:Ej).cf o0 o1:=rfl
@[go_sem] def pf(x:Ej)(v:List Ej)(o0 o1:Option Nat)(p:Option Nat):splice (x.cf o0 o1) 8 [.sl p (F6 v)]=({ x with args:=v }:Ej).cf o0 p:=rfl
@[ext] structure Pat where
 mask:Ep
 bits:Ep
 deriving DecidableEq,Inhabited
def Pat.c(x:Pat):List AV:=[.int .i64 x.mask.h0,.int .i64 x.mask.h1,.int .i64 x.mask.h2,.int .i64 x.mask.h3,.int .i64 x.mask.h4,.int .i64 x.mask.h5,.int .i64 x.mask.h6,.int .i64 x.mask.h7,.int .i64 x.mask.h8,.int .i64 x.mask.h9,.int .i64 x.bits.h0,.int .i64 x.bits.h1,.int .i64 x.bits.h2,.int .i64 x.bits.h3,.int .i64 x.bits.h4,.int .i64 x.bits.h5,.int .i64 x.bits.h6,.int .i64 x.bits.h7,.int .i64 x.bits.h8,.int .i64 x.bits.h9]
@[go_sem] def AVd(x:Pat):x.c.length=20:=rfl
@[go_sem] def AVe(x:Pat):x.c.map borrow1=x.c:=rfl
@[go_sem] def AVc(x:Pat):x.c.any GB=false:=by
 rfl
@[go_sem] def AHi(x:Pat):x.c.take 20=x.c:=rfl
@[go_sem] def Pat.cf_pure(x:Pat):FW x.c=true:=by
 simp[Pat.c,FW,AV.pure]
@[go_sem] def ph(k:Nat)(x:Pat):Fo k x.c=true:=by
 simp[Pat.c,Fo,AV.bnd]
def Pat.c_bnd(k:Nat)(x:Pat):Fo k x.c=true:=ph k x
@[go_sem] def yf(x:Pat)(v:Ep):Hq x.c v.c=({ x with mask:=v }:Pat).c:=rfl
@[go_sem] def yv(x:Pat)(v:Ep):splice x.c 10 v.c=({ x with bits:=v }:Pat).c:=rfl
def Pat.z:Pat:=⟨⟨0,0,0,0,0,0,0,0,0,0⟩,⟨0,0,0,0,0,0,0,0,0,0⟩⟩
@[go_sem] def Pat.zero:Fk AA 242=some (.agg Pat.z.c):=kr
def Pat.ok(_:Pat):Prop:=True
def F2(l:List Ep):List AV:=l.map λx => .agg x.c
@[go_sem] def AV9(l:List Ep):(F2 l).length=l.length:=by simp[F2]
def Hs{l:List Ep}{i:Nat}{x:Ep}(h:l[i]? =some x):(F2 l)[i]? =some (.agg x.c):=by simp[F2,h]
def gO(l:List Ep): ∀x∈F2 l,x.cells.length=10:=by
 intro x hx;obtain⟨y,_,rfl⟩:=AO.1 hx;rfl
@[go_sem] def AFF(l:List Ep):(∀x∈F2 l,x.cells.length=10)=True:=eq_true (gO l)
@[go_sem] def AV8:F2 []=[]:=rfl
@[go_sem] def AG4(l:List Ep)(k:Nat):(F2 l).take k=F2 (l.take k):=by simp[F2]
@[go_sem] def AV_(a b:List Ep):F2 a++F2 b=F2 (a++b):=by simp[F2]
@[go_sem] def AIb(a:List Ep)(x:Ep):F2 a++[.agg x.c]=F2 (a++[x]):=by simp[F2]
@[go_sem] def m8(l:List Ep):FW (F2 l)=true:=by
 induction l with
 |nil=>rfl
 |cons x xs ih=>simpa [F2,FW,AV.pure]using⟨kj x,ih⟩
set_option maxRecDepth 50000
def jC(c:UInt8):FT AA 354 [.int .u8 c.toNat] (.bool (loB c)):=by
 refine pC AJH rfl ?_
 simp only[f354,go_sem]
 repeat' (first|apply cg<;>intro hc<;>simp only[go_sem,hc])
 all_goals (simp only[loB,bz];grind)
def AFz(c:UInt8):FT AA 380 [.int .u8 c.toNat] (.bool (dgB c)):=by
 refine pC AI3 rfl ?_
 simp only[f380,go_sem]
 repeat' (first|apply cg<;>intro hc<;>simp only[go_sem,hc])
 all_goals (simp only[dgB,bz];grind)
def oL(c:UInt8):FT AA 372 [.int .u8 c.toNat] (.bool (wdB c)):=by
 refine pC AI7 rfl ?_
 simp only[f372,go_sem]
 repeat' (first|((first|apply pK (jC _)|apply pK (AFz _));simp only[go_sem])|apply cg<;>intro hc<;>simp only[go_sem,hc])
 all_goals (simp only[wdB,bz];grind)
def Ae5(s:ByteArray)(hs:s.size<=1073741824):FT AA 356 [.str s] (.int .i64 (Mj s.data.toList)):=by
 refine pC AI' rfl ?_
 simp only[f356,go_sem]
 refine Wc s (λl=>s.size - l.length+Mj l) (λk=>[(0,.str s),(3,.int .i64 k)]) FR rfl ?_ ?_
 ·intro k x xs hd hx hF h0 h1 hw hl
  rw[S9]at hF
  simp only[AD,Mj]at hF
  simp only[go_sem,h0,h1,hx]
  repeat' (first|(apply pK (oL _);simp only[go_sem])|apply cg<;>intro hc<;>simp only[go_sem,hc,hw])
  ·simp only[BS]at hc
   rw[hc]at hF
   have:Mj s.data.toList=k:=by simp at hF;omega
   rw[this]
  ·simp only[CT]at hc
   simp only[Mj,hc]
   simp;omega
 ·intro hF hlt
  simp only[go_sem,hlt,dF]
  rw[S9]at hF
  simp[Mj]at hF
  rw[hF]
def ACN:EvOk AA (al.evt [] AGx):=ETree.ok AA5 (λ_ h=>by cases h) (AA0 _) WB
def lN:FW (HJ.map AV.str)=true:=kr
def AF2:FT AA 371 [] (.sl (some 1) (HJ.map AV.str)):=FT.run ACN 100 rfl lN kr
def ACg(s:ByteArray):FT AA 355 [.str s] (.bool (TM s)):=by
 refine pC AJD rfl ?_
 simp only[f355,go_sem]
 repeat' (first|(apply pK AF2;simp only[go_sem])|apply cg<;>intro hc<;>simp only[go_sem,hc])
 refine Fe HJ (λl=>l.any (λy=>decide (y=s))) (λk=>[(0,.str s),(3,.sl (some 1) (HJ.map AV.str)),(4,.int .i64 k)]) dc rfl ?_ ?_
 ·intro k x xs hd hx hF h0 h1 hw
  have hg:(HJ.map AV.str)[k]? =some (.str x):=by simp[hx]
  simp only[go_sem,h0,h1,hg,Ap,FV]
  repeat' (first|apply cg<;>intro hc<;>simp only[go_sem,hc,hw])
  ·simp only[TM,hF,Au,hc,BT]
 ·intro hF hlt
  simp only[go_sem,hlt,dF,Ap]
  rw[TM,hF];rfl
def ACq(s:ByteArray)(hs:s.size<=1073741824):FT AA 346 [.str s] (.bool (tnB s)):=by
 refine pC AJL rfl ?_
 by_cases hz:s.size=0
 ·have hz2:((s.size:Int)==0)=true:=by simp[hz]
  simp only[f346,go_sem,hz2]
  simp[tnB,hz]
 ·have h0:(0:Int)<(s.size:Int):=FR
  obtain⟨x,xs,hx⟩:∃x xs,s.data.toList=x::xs:=by
   cases h:s.data.toList with
   |nil=>rw[<- S9,h]at hz;simp at hz
   |cons x xs=>exact⟨x,xs,rfl⟩
  have hx0:(s.data[0]?).getD 0=x:=by rw[<- Array.getElem?_toList,hx];rfl
  have hne:((s.size:Int)==0)=false:=by simp[hz]
  simp only[f346,go_sem,hne]
  repeat' (first|((first|apply pK (jC _)|apply pK (ACg _)|apply pK (Ae5 _ hs));simp only[go_sem,hx])|apply cg<;>intro hc<;>simp only[go_sem,hc,h0,hx0])
  all_goals (simp only[tnB,hx];grind)
def bF(s:ByteArray)(hs:s.size<=1073741824):FT AA 324 [.str s] (.bool (tnB s)):=by
 refine pC AJz rfl ?_
 simp only[f324,go_sem]
 repeat' (first|(apply pK (ACq _ hs);simp only[go_sem])|apply cg<;>intro hc<;>simp only[go_sem,hc])
def Uq(s:ByteArray)(hs:s.size<=1073741824):FT AA 329 [.str s] (.bool (Uk s)):=by
 refine pC AJf rfl ?_
 simp only[f329,go_sem]
 repeat' (first|(apply pK (bF _ hs);simp only[go_sem])|apply cg<;>intro hc<;>simp only[go_sem,hc])
 all_goals first
  |rfl
  |(simp only[FV,Uk,GI,hc,Bn,BT,Aw];rfl)
  |grind[FV,Uk,GI,Bn,BT,Aw]
  |(simp only[Uk,GI,hc,BT,Aw];grind)
  |(simp[Uk,GI,BT,Aw, *];done)
  |(simp_all[FV,Uk,GI,hc,Bn,BT,Aw];done)
  |skip
def Ur(s:ByteArray)(hs:s.size<=1073741824):FT AA 166 [.str s] (.bool (nmB s)):=by
 refine pC AQW rfl ?_
 simp only[f166,go_sem]
 refine Wc s (λl=>s_ (s.size - l.length) l) (λk=>[(0,.str s),(3,.int .i64 k)]) FR rfl ?_ ?_
 ·intro k x xs hd hx hF h0 h1 hw hl
  have e1:s.size - (x::xs).length=k:=Hy
  have e2:s.size - xs.length=k+1:=FR
  rw[e1,S9,AP]at hF
  simp only[go_sem,h0,h1,hx]
  repeat' (first|apply cg<;>intro hc<;>simp only[go_sem,hc,h0,h1,hx,hw,e2])
  all_goals first|(simp only[nmB,hF,s_,loB,dgB,bz];grind)|(simp only[s_,loB,dgB,bz];grind)|skip
 ·intro hF hlt
  simp only[go_sem,hlt,dF]
  rw[S9,AP]at hF
  repeat' (first|apply cg<;>intro hc<;>simp only[go_sem,hc])
  all_goals (simp only[nmB,hF,s_];grind)
def P4{cs:List AV}{l:List AV}(h:HU (.agg cs::l)):HU cs:=h.1
def fits{o:Option Nat}{es:List AV}{l:List AV}(h:HU (.sl o es::l)):es.length<=9223372036854775807:=h.1.1
def WS(a b:Eh):FT AA 224 [.agg a.c,.agg b.c] (.agg (a.more b).c):=by
 refine pB ANN rfl ?_
 simp only[f224,go_sem]
 rfl
def rE:∀x:Ei,FT AA 162 [.agg x.c] (.agg (lY x).c):=by
 refine I2 _ λx ih=>?_
 refine FT.fit ABu.c λhf=>?_
 have hl:=K1 (P4 hf)
 refine pB ABu rfl ?_
 simp only[f162,go_sem]
 refine Fg x.args (λo l=>U0 l o) (λ_ _=>True) (λk o=>[(1,.ptr 0 0),(2,.ptr 1 0),(3,.ptr 2 0),(4,.int .i64 k)]) (λk o=>[some x.c,some Sizes.z.c,some o.c]) ⟨1,1⟩ hl trivial rfl rfl ?_ ?_
 ·intro k o y ys hd hx _ hF h0 h1 hw
  have hm:=AB hx
  simp only[go_sem,h0,h1,GQ hx]
  repeat' (first|((first|apply pK (ih _ hm)|apply pK (WS _ _));simp only[go_sem,hw])|apply cg<;>intro hc<;>simp only[go_sem,hc,h0,h1,hw,GQ hx])
  exact⟨_,Ya _ _ _,rfl,rfl⟩
 ·intro o _ hF
  simp only[go_sem,AQ,dF]
  rw[zb,hF,dP]
def AHK:∀x:Ek,FT AA 223 [.agg x.c] (.agg (szR x).c):=by
 refine Pz _ λx ih=>?_
 refine FT.fit ABq.c λhf=>?_
 have hl:=MQ (P4 hf)
 refine pB ABq rfl ?_
 simp only[f223,go_sem]
 refine Fg x.args (λo l=>Zj l o) (λ_ _=>True) (λk o=>[(1,.ptr 0 0),(2,.ptr 1 0),(3,.ptr 2 0),(4,.int .i64 k)]) (λk o=>[some x.c,some Sizes.z.c,some o.c]) ⟨1,1⟩ hl trivial rfl rfl ?_ ?_
 ·intro k o y ys hd hx _ hF h0 h1 hw
  have hm:=AB hx
  simp only[go_sem,h0,h1,Kb hx]
  repeat' (first|((first|apply pK (ih _ hm)|apply pK (WS _ _));simp only[go_sem,hw])|apply cg<;>intro hc<;>simp only[go_sem,hc,h0,h1,hw,Kb hx])
  exact⟨_,rz _ _ _,rfl,rfl⟩
 ·intro o _ hF
  simp only[go_sem,AQ,dF]
  rw[AH3,hF,za]
def AHL:∀x:Ej,FT AA 277 [.agg x.c] (.agg (lZ x).c):=by
 refine HM _ λx ih=>?_
 refine FT.fit ABj.c λhf=>?_
 have hl:=Ic (P4 hf)
 refine pB ABj rfl ?_
 simp only[f277,go_sem]
 repeat' (first|((first|apply pK (rE _)|apply pK (WS _ _));simp only[go_sem])|apply cg<;>intro hc<;>simp only[go_sem,hc])
 ·have hs:lZ x=P0 x.args (Sizes.more ⟨1,1⟩ (lY x.pred)):=by rw[Zk,iP (by simpa using hc)]
  refine Fg x.args (λo l=>P0 l o) (λ_ _=>True) (λk o=>[(1,.ptr 0 0),(2,.ptr 1 0),(3,.ptr 2 0),(4,.int .i64 k)]) (λk o=>[some x.c,some Sizes.z.c,some o.c]) (Sizes.more ⟨1,1⟩ (lY x.pred)) hl trivial rfl rfl ?_ ?_
  ·intro k o y ys hd hx _ hF h0 h1 hw
   have hm:=AB hx
   simp only[go_sem,h0,h1,Ft hx]
   repeat' (first|((first|apply pK (ih _ hm)|apply pK (WS _ _));simp only[go_sem,hw])|apply cg<;>intro hc<;>simp only[go_sem,hc,h0,h1,hw,Ft hx])
   exact⟨_,M3 _ _ _,rfl,rfl⟩
  ·intro o _ hF
   rw[Oa]at hF
   simp only[go_sem,AQ,dF]
   rw[hs,hF]
 ·have hs:lZ x=P0 x.args ⟨1,1⟩:=by rw[Zk,iN (by simpa using hc)]
  refine Fg x.args (λo l=>P0 l o) (λ_ _=>True) (λk o=>[(1,.ptr 0 0),(2,.ptr 1 0),(3,.ptr 2 0),(4,.int .i64 k)]) (λk o=>[some x.c,some Sizes.z.c,some o.c]) (⟨1,1⟩) hl trivial rfl rfl ?_ ?_
  ·intro k o y ys hd hx _ hF h0 h1 hw
   have hm:=AB hx
   simp only[go_sem,h0,h1,Ft hx]
   repeat' (first|((first|apply pK (ih _ hm)|apply pK (WS _ _));simp only[go_sem,hw])|apply cg<;>intro hc<;>simp only[go_sem,hc,h0,h1,hw,Ft hx])
   exact⟨_,M3 _ _ _,rfl,rfl⟩
  ·intro o _ hF
   rw[Oa]at hF
   simp only[go_sem,AQ,dF]
   rw[hs,hF]
def jB:∀x:Ej,FT AA 159 [.agg x.c] (.int .i64 (Ob x)):=by
 refine HM _ λx ih=>?_
 refine FT.fit ABv.c λhf=>?_
 have hl:=Ic (P4 hf)
 refine pC ABv rfl ?_
 simp only[f159,go_sem]
 refine Fg x.args (λo l=>J0 l o) (λ_ _=>True) (λk o=>[(1,.ptr 0 0),(3,.int .i64 o),(4,.int .i64 k)]) (λk o=>[some x.c]) 0 hl trivial rfl rfl ?_ ?_
 ·intro k o y ys hd hx _ hF h0 h1 hw
  have hm:=AB hx
  simp only[go_sem,h0,h1,Ft hx]
  repeat' (first|(apply pK (ih _ hm);simp only[go_sem,hw])|apply cg<;>intro hc<;>simp only[go_sem,hc,h0,h1,hw,Ft hx])
  exact⟨_,Zo _ _ _,rfl,rfl⟩
 ·intro o _ hF
  rw[dQ]at hF
  simp only[go_sem,AQ,dF]
  repeat' (first|apply cg<;>intro hc<;>simp only[go_sem,hc])
  all_goals first
   |rfl
   |(simp only[M4,hF,i64];rfl)
   |grind[M4,i64]
   |(simp only[M4,hF,i64];grind)
   |(simp[M4,hF,i64, *];done)
   |(simp_all[M4,hF,i64];done)
   |skip
def AFr:∀x:Ej,FT AA 222 [.agg x.c] (.int .i64 (Yh x)):=by
 refine HM _ λx ih=>?_
 refine FT.fit ABr.c λhf=>?_
 have hl:=Ic (P4 hf)
 refine pC ABr rfl ?_
 simp only[f222,go_sem]
 refine Fg x.args (λo l=>Lz l o) (λ_ _=>True) (λk o=>[(1,.ptr 0 0),(3,.int .i64 o),(4,.int .i64 k)]) (λk o=>[some x.c]) 0 hl trivial rfl rfl ?_ ?_
 ·intro k o y ys hd hx _ hF h0 h1 hw
  have hm:=AB hx
  simp only[go_sem,h0,h1,Ft hx]
  repeat' (first|(apply pK (ih _ hm);simp only[go_sem,hw])|apply cg<;>intro hc<;>simp only[go_sem,hc,h0,h1,hw,Ft hx])
  exact⟨_,d_ _ _ _,rfl,rfl⟩
 ·intro o _ hF
  rw[ls]at hF
  simp only[go_sem,AQ,dF]
  repeat' (first|apply cg<;>intro hc<;>simp only[go_sem,hc])
  all_goals first
   |rfl
   |(simp only[Og,hF,i64];rfl)
   |grind[Og,i64]
   |(simp only[Og,hF,i64];grind)
   |(simp[Og,hF,i64, *];done)
   |(simp_all[Og,hF,i64];done)
   |skip
def ACf(x:Ej):FT AA 160 [.agg x.c] (.bool (Oo x)):=by
 refine pC AQt rfl ?_
 simp only[f160,go_sem]
 repeat' (first|((first|apply pK (jB _)|apply pK (AFr _));simp only[go_sem])|apply cg<;>intro hc<;>simp only[go_sem,hc])
 all_goals first
  |rfl
  |(simp only[Oo];rfl)
  |grind[Oo]
  |(simp only[Oo];grind)
  |(simp[Oo, *];done)
  |(simp_all[Oo];done)
  |skip
def ACi(x:Ei):FT AA 92 [.agg x.c] (.bool (Xj x)):=by
 refine pC AYg rfl ?_
 simp only[f92,go_sem]
 repeat' (first|(apply pK (rE _);simp only[go_sem])|apply cg<;>intro hc<;>simp only[go_sem,hc])
 all_goals first
  |rfl
  |(simp only[Xj];rfl)
  |grind[Xj]
  |(simp only[Xj];grind)
  |(simp[Xj, *];done)
  |(simp_all[Xj];done)
  |skip
def AU6(x:Ek):FT AA 161 [.agg x.c] (.bool (iY x)):=by
 refine pC AQp rfl ?_
 simp only[f161,go_sem]
 repeat' (first|(apply pK (AHK _);simp only[go_sem])|apply cg<;>intro hc<;>simp only[go_sem,hc])
 all_goals first
  |rfl
  |(simp only[iY];rfl)
  |grind[iY]
  |(simp only[iY];grind)
  |(simp[iY, *];done)
  |(simp_all[iY];done)
  |skip
def ACj(x:Ej):FT AA 221 [.agg x.c] (.bool (nf x)):=by
 refine pC ANX rfl ?_
 simp only[f221,go_sem]
 repeat' (first|((first|apply pK (AHL _)|apply pK (rE _));simp only[go_sem])|apply cg<;>intro hc<;>simp only[go_sem,hc])
 all_goals first
  |rfl
  |(simp only[nf];rfl)
  |grind[nf]
  |(simp only[nf];grind)
  |(simp[nf, *];done)
  |(simp_all[nf];done)
  |skip
def AU8(x:List El):FT AA 158 [.sl none (F4 x)] (.bool (O6 x)):=by
 refine FT.fit ABw.c λhf=>?_
 have hl:=fits hf
 rw[KZ]at hl
 refine pC ABw rfl ?_
 simp only[f158,go_sem]
 refine Fe x (λr=>LB (r.take (12 - (x.length - r.length)))) (λk=>[(0,.sl none (F4 x)),(3,.int .i64 k)]) hl rfl ?_ ?_
 ·intro k y ys hd hx hF h0 h1 hw
  have hk:=Fq hd
  have e1:x.length - (ys.length+1)=k:=FR
  have e2:x.length - ys.length=k+1:=FR
  simp only[AD,e1,AP,Bm]at hF
  simp only[go_sem,h1]
  rcases Nat.lt_or_ge k 12 with h12|h12
  ·have e3:12 - k=(12 - (k+1))+1:=FR
   rw[e3,List.take_succ_cons]at hF
   repeat' (first|(apply pK (ACj _);simp only[go_sem])|apply cg<;>intro hc<;>simp only[go_sem,hc,h0,hw,F7 hx,e1,e2])
   all_goals first
    |rfl
    |(simp only[O6,LB,e3];rfl)
    |grind[O6,LB]
    |(simp only[O6,LB,e3];grind)
    |(simp[O6,LB,e3, *];done)
    |(simp_all[O6,LB,e3];done)
    |skip
  ·have e3:12 - k=0:=FR
   rw[e3,List.take_zero]at hF
   have OS:¬(k:Int)<12:=FR
   simp only[go_sem,OS,dF]
   repeat' (first|(apply pK (ACj _);simp only[go_sem,h0,h1,hw,F7 hx,e1,e2])|apply cg<;>intro hc<;>simp only[go_sem,hc,h0,h1,hw,F7 hx,e1,e2])
   all_goals first
    |rfl
    |(simp only[O6,LB];rfl)
    |grind[O6,LB]
    |(simp only[O6,LB];grind)
    |(simp[O6,LB, *];done)
    |(simp_all[O6,LB];done)
    |skip
 ·intro hF hlt
  simp only[go_sem,hlt,dF]
  repeat' (first|apply cg<;>intro hc<;>simp only[go_sem,hc])
  all_goals first
   |rfl
   |(simp only[O6,LB];rfl)
   |grind[O6,LB]
   |(simp only[O6,LB];grind)
   |(simp[O6,LB, *];done)
   |(simp_all[O6,LB];done)
   |skip
def AU5(t:En):FT AA 91 [.agg t.c] (.bool (MC t)):=by
 refine FT.fit AG7.c λhf=>?_
 have hl1:=RC (P4 hf)
 have hl2:=R8 (P4 hf)
 refine pC AG7 rfl ?_
 simp only[f91,go_sem]
 repeat' (first|(apply pK (AU8 _);simp only[go_sem])|apply cg<;>intro hc<;>simp only[go_sem,hc])
 all_goals first
  |rfl
  |(simp only[MC];rfl)
  |grind[MC]
  |(simp only[MC];grind)
  |(simp[MC, *];done)
  |(simp_all[MC];done)
  |skip
 refine Fe t.program (λr=>r.all λx=>decide (Ob x.policy<=2)&&Oo x.policy) (λk=>[(1,.ptr 0 0),(4,.int .i64 k)]) hl1 rfl ?_ ?_
 ·intro k y ys hd hx hF h0 h1 hw
  simp only[go_sem,h0,h1,F7 hx]
  repeat' (first|((first|apply pK (jB _)|apply pK (ACf _));simp only[go_sem])|apply cg<;>intro hc<;>simp only[go_sem,hc,h0,hw,F7 hx])
  all_goals first
   |rfl
   |(simp only[MC,Al];rfl)
   |grind[MC]
   |(simp only[MC,Al,A8];grind)
   |(simp[MC,Al,A8, *];done)
   |(simp_all[MC,Al,A8];done)
   |skip
  skip
 ·intro hF hlt
  simp only[go_sem,hlt,dF]
  refine Fe t.routes (λr=>r.all λx=>Xj x.pred&&iY x.path) (λk=>[(1,.ptr 0 0),(5,.int .i64 k)]) hl2 rfl ?_ ?_
  ·intro k y ys hd hx hF h0 h1 hw
   simp only[go_sem,h0,h1,It hx]
   repeat' (first|((first|apply pK (ACi _)|apply pK (AU6 _));simp only[go_sem,h0,It hx])|apply cg<;>intro hc<;>simp only[go_sem,hc,hw])
   all_goals first
    |rfl
    |(simp only[MC,Al];rfl)
    |grind[MC]
    |(simp only[MC,Al,A8];grind)
    |(simp[MC,Al,A8, *];done)
    |(simp_all[MC,Al,A8];done)
    |skip
   skip
  ·intro hF2 hlt2
   simp only[go_sem,hlt2,dF]
   repeat' (first|apply cg<;>intro hc<;>simp only[go_sem,hc])
   all_goals first
    |rfl
    |(simp only[MC];rfl)
    |grind[MC]
    |(simp only[MC,Al,A8];grind)
    |(simp[MC,Al,A8, *];done)
    |(simp_all[MC,Al,A8];done)
    |skip
   skip
def rH:∀x y:Ei,FT AA 64 [.agg x.c,.agg y.c] (.bool (ZD x y)):=by
 refine I2 _ λx ih=>λy=>?_
 refine FT.fit AG'.c λhf=>?_
 have hl:=K1 (P4 hf)
 refine pC AG' rfl ?_
 simp only[f64,go_sem]
 repeat' (first|apply cg<;>intro hc<;>simp only[go_sem,hc,FV])
 all_goals first
  |rfl
  |(simp only[Ih];rfl)
  |grind[Ih]
  |(simp only[Ih];grind)
  |(simp[Ih, *];done)
  |(simp_all[Ih];done)
  |skip
 have hll:x.args.length=y.args.length:=by grind
 refine Fe x.args (λr=>S3 r (y.args.drop (x.args.length - r.length))) (λk=>[(2,.ptr 0 0),(3,.ptr 1 0),(5,.int .i64 k)]) hl rfl ?_ ?_
 ·intro k z zs hd hx hF h0 h1 hw
  have hk:=Fq hd
  obtain⟨w,hy⟩:∃w,y.args[k]? =some w:=⟨_,AH FR⟩
  have e1:x.args.length - (z::zs).length=k:=Hy
  have e2:x.args.length - zs.length=k+1:=FR
  have e3:y.args.drop k=w::y.args.drop (k+1):=by rw[BG FR];congr 1;grind
  have h2:(k:Int)<(y.args.length:Int):=FR
  rw[e1,e3,AP,BC,I9]at hF
  have hm:=AB hx
  simp only[go_sem,h0,h1,GQ hx,GQ hy]
  repeat' (first|(apply pK (ih _ hm _);simp only[go_sem])|apply cg<;>intro hc<;>simp only[go_sem,hc,hw,e2])
  all_goals first
   |rfl
   |(simp only[Ih,hF];rfl)
   |grind[Ih,I9]
   |(simp only[Ih,I9,hF];grind)
   |(simp[Ih,I9,hF, *];done)
   |(simp_all[Ih,I9,hF];done)
   |skip
 ·intro hF hlt
  simp only[go_sem,hlt,dF]
  all_goals first
   |rfl
   |(simp only[Ih];rfl)
   |grind[Ih,MD]
   |(simp only[Ih,MD];grind)
   |(simp[Ih,MD, *];done)
   |(simp_all[Ih,MD];done)
   |skip
def AHO(x y:Stp):FT AA 122 [.agg x.c,.agg y.c] (.bool (Xk x y)):=by
 refine FT.fit ABz.c λhf=>?_
 have hl:=jy (P4 hf)
 refine pC ABz rfl ?_
 simp only[f122,go_sem]
 repeat' (first|apply cg<;>intro hc<;>simp only[go_sem,hc,FV])
 all_goals first
  |rfl
  |(simp only[Xk];rfl)
  |grind[Xk]
  |(simp only[Xk];grind)
  |(simp[Xk, *];done)
  |(simp_all[Xk];done)
  |skip
 have hll:x.key.length=y.key.length:=by grind
 refine Fe x.key (λr=>Nt r (y.key.drop (x.key.length - r.length))) (λk=>[(2,.ptr 0 0),(3,.ptr 1 0),(5,.int .i64 k)]) hl rfl ?_ ?_
 ·intro k z zs hd hx hF h0 h1 hw
  have hk:=Fq hd
  obtain⟨w,hy⟩:∃w,y.key[k]? =some w:=⟨_,AH FR⟩
  have e1:x.key.length - (z::zs).length=k:=Hy
  have e2:x.key.length - zs.length=k+1:=FR
  have e3:y.key.drop k=w::y.key.drop (k+1):=by rw[BG FR];congr 1;grind
  have h2:(k:Int)<(y.key.length:Int):=FR
  rw[e1,e3,AP,BC,Jr]at hF
  have hm:=AB hx
  simp only[go_sem,h0,h1,Gk hx,Gk hy,FV]
  repeat' (first|apply cg<;>intro hc<;>simp only[go_sem,hc,hw,e2])
  all_goals first
   |rfl
   |(simp only[Xk,hF];rfl)
   |grind[Xk,Jr]
   |(simp only[Xk,Jr,hF];grind)
   |(simp[Xk,Jr,hF, *];done)
   |(simp_all[Xk,Jr,hF];done)
   |skip
 ·intro hF hlt
  simp only[go_sem,hlt,dF]
  all_goals first
   |rfl
   |(simp only[Xk];rfl)
   |grind[Xk,L9]
   |(simp only[Xk,L9];grind)
   |(simp[Xk,L9, *];done)
   |(simp_all[Xk,L9];done)
   |skip
def AHN : ∀ x:Ei,FU x.c<=1073741824->FT AA 290 [.agg x.c] (.bool (Na x)):=by
 refine I2 _ λx ih=>λhb=>?_
 have hl:x.args.length<=9223372036854775807:=AL (Vh (JB hb)) dc
 refine pC AKn rfl ?_
 simp only[f290,go_sem]
 repeat' (first|(apply pK (Uq _ (QU hb));simp only[go_sem])|apply cg<;>intro hc<;>simp only[go_sem,hc,FV])
 all_goals first
  |rfl
  |(simp only[Hn,So,K5,RM];rfl)
  |grind[Hn,So,K5,RM]
  |(simp only[Hn,So,K5,RM];grind)
  |(simp[Hn,So,K5,RM, *];done)
  |(simp_all[Hn,So,K5,RM];done)
  |skip
 all_goals
  have ho:((So x).1&&x.args.length==(So x).2)=true:=by grind[So,K5,RM]
  refine Fe x.args (λr=>V8 r) (λk=>[(1,.ptr 0 0),(6,.int .i64 x.args.length),(8,.int .i64 k)]) hl (by grind) ?_ ?_
  ·intro k y ys hd hx hF h0 h1 hw
   have hm:=AB hx
   have hby:FU y.c<=1073741824:=by have:=Vi (JB hb) hm;simpa only[AV.bulk]using this
   simp only[go_sem,h0,h1,GQ hx]
   repeat' (first|(apply pK (ih _ hm hby);simp only[go_sem])|apply cg<;>intro hc<;>simp only[go_sem,hc,hw])
   ·rw[Hn,ho,hF,Kg]
    simp only[BS]at hc
    rw[hc];rfl
   ·rw[Kg]
    simp only[CT]at hc
    rw[hc];rfl
  ·intro hF hlt
   simp only[go_sem,hlt,dF]
   rw[Hn,ho,hF,NI];rfl
def Ae9 : ∀ x:Ej,FU x.c<=1073741824->FT AA 289 [.agg x.c] (.bool (Rr x)):=by
 refine HM _ λx ih=>λhb=>?_
 have hl:x.args.length<=9223372036854775807:=AL (Qp (IL hb)) dc
 refine pC AKr rfl ?_
 simp only[f289,go_sem]
 repeat' (first|((first|apply pK (Uq _ (OI hb))|apply pK (FT.lend (rH x.pred Pred.z))|apply pK (AHN _ (MS hb)));simp only[go_sem,FV])|apply cg<;>intro hc<;>simp only[go_sem,hc])
 all_goals first
  |rfl
  |(simp only[IT,VR,RM];rfl)
  |grind[IT,VR,RM]
  |(simp only[IT,VR,RM];grind)
  |(simp[IT,VR,RM, *];done)
  |(simp_all[IT,VR,RM];done)
  |skip
 all_goals
  have ho:((VR x).1&&x.args.length==(VR x).2)=true:=by grind[VR,RM]
  refine Fe x.args (λr=>V9 r) (λk=>[(1,.ptr 0 0),(6,.int .i64 x.args.length),(8,.int .i64 k)]) hl (by grind) ?_ ?_
  ·intro k y ys hd hx hF h0 h1 hw
   have hm:=AB hx
   have hby:FU y.c<=1073741824:=by have:=Qq (IL hb) hm;simpa only[AV.bulk]using this
   simp only[go_sem,h0,h1,Ft hx]
   repeat' (first|(apply pK (ih _ hm hby);simp only[go_sem])|apply cg<;>intro hc<;>simp only[go_sem,hc,hw])
   ·rw[IT,ho,hF,Kh]
    simp only[BS]at hc
    rw[hc];rfl
   ·rw[Kh]
    simp only[CT]at hc
    rw[hc];rfl
  ·intro hF hlt
   simp only[go_sem,hlt,dF]
   rw[IT,ho,hF,NJ];rfl
def Ae8 : ∀ x:Ek,FU x.c<=1073741824->FT AA 283 [.agg x.c] (.bool (fmR x)):=by
 refine Pz _ λx ih=>λhb=>?_
 have hl:x.args.length<=9223372036854775807:=AL (tQ (QT hb)) dc
 refine pC ALF rfl ?_
 simp only[f283,go_sem]
 repeat' (first|(apply pK (bF _ (YF hb));simp only[go_sem,FV])|apply cg<;>intro hc<;>simp only[go_sem,hc])
 all_goals first
  |rfl
  |(simp only[Q5,ym];rfl)
  |grind[Q5,ym]
  |(simp only[Q5,ym];grind)
  |(simp[Q5,ym, *];done)
  |(simp_all[Q5,ym];done)
  |skip
 all_goals
  have ho:((ym x).1&&x.args.length==(ym x).2)=true:=by grind[ym]
  refine Fe x.args (λr=>ae r) (λk=>[(1,.ptr 0 0),(4,.int .i64 x.args.length),(6,.int .i64 k)]) hl (by grind) ?_ ?_
  ·intro k y ys hd hx hF h0 h1 hw
   have hm:=AB hx
   have hby:FU y.c<=1073741824:=by have:=tT (QT hb) hm;simpa only[AV.bulk]using this
   simp only[go_sem,h0,h1,Kb hx]
   repeat' (first|(apply pK (ih _ hm hby);simp only[go_sem])|apply cg<;>intro hc<;>simp only[go_sem,hc,hw])
   ·rw[Q5,ho,hF,ZB]
    simp only[BS]at hc
    rw[hc];rfl
   ·rw[ZB]
    simp only[CT]at hc
    rw[hc];rfl
  ·intro hF hlt
   simp only[go_sem,hlt,dF]
   rw[Q5,ho,hF,AB'];rfl
def AFv(z:Eh):FT AA 323 [.agg z.c] (.int .i64 (Qn z)):=by
 refine pC AJ3 rfl ?_
 simp only[f323,go_sem]
 repeat' (first|apply cg<;>intro hc<;>simp only[go_sem,hc])
 all_goals first
  |rfl
  |(simp only[Qn];rfl)
  |grind[Qn]
  |(simp only[Qn];grind)
  |(simp[Qn, *];done)
  |(simp_all[Qn];done)
  |skip
def WT(z:Eh)(b:Bool):FT AA 282 [.agg z.c,.bool b] (.int .i64 (qt z b)):=by
 refine pC ALJ rfl ?_
 simp only[f282,go_sem]
 repeat' (first|(apply pK (AFv _);simp only[go_sem])|apply cg<;>intro hc<;>simp only[go_sem,hc])
 all_goals first
  |rfl
  |(simp only[qt];rfl)
  |grind[qt]
  |(simp only[qt];grind)
  |(simp[qt, *];done)
  |(simp_all[qt];done)
  |skip
def AfB(x:Ei)(hb:FU x.c<=1073741824):FT AA 232 [.agg x.c] (.int .i64 (ckP x)):=by
 refine pC AMs rfl ?_
 simp only[f232,go_sem]
 repeat' (first|((first|apply pK (rE _)|apply pK (AHN _ hb)|apply pK (WT _ _));simp only[go_sem])|apply cg<;>intro hc<;>simp only[go_sem,hc])
 all_goals first
  |rfl
  |(simp only[ckP];rfl)
  |grind[ckP]
  |(simp only[ckP];grind)
  |(simp[ckP, *];done)
  |(simp_all[ckP];done)
  |skip
def ACn(x:Ej)(hb:FU x.c<=1073741824):FT AA 231 [.agg x.c] (.int .i64 (Up x)):=by
 refine pC AMw rfl ?_
 simp only[f231,go_sem]
 repeat' (first|((first|apply pK (AHL _)|apply pK (Ae9 _ hb)|apply pK (WT _ _));simp only[go_sem])|apply cg<;>intro hc<;>simp only[go_sem,hc])
 all_goals first
  |rfl
  |(simp only[Up];rfl)
  |grind[Up]
  |(simp only[Up];grind)
  |(simp[Up, *];done)
  |(simp_all[Up];done)
  |skip
def AfA(x:Ek)(hb:FU x.c<=1073741824):FT AA 227 [.agg x.c] (.int .i64 (ckR x)):=by
 refine pC AM' rfl ?_
 simp only[f227,go_sem]
 repeat' (first|((first|apply pK (AHK _)|apply pK (Ae8 _ hb)|apply pK (WT _ _));simp only[go_sem])|apply cg<;>intro hc<;>simp only[go_sem,hc])
 all_goals first
  |rfl
  |(simp only[ckR];rfl)
  |grind[ckR]
  |(simp only[ckR];grind)
  |(simp[ckR, *];done)
  |(simp_all[ckR];done)
  |skip
def Ae7(x:Stp)(hb:FU x.c<=1073741824):FT AA 293 [.agg x.c] (.bool (ZA x)):=by
 have hl:x.key.length<=9223372036854775807:=AL (Ug (MP hb)) dc
 refine pC AKb rfl ?_
 simp only[f293,go_sem]
 repeat' (first|((first|apply pK (FT.lend (AHO x Stp.z))|apply pK (bF _ (pT hb)));simp only[go_sem])|apply cg<;>intro hc<;>simp only[go_sem,hc])
 all_goals first
  |rfl
  |(simp only[ZA];rfl)
  |grind[ZA]
  |(simp only[ZA];grind)
  |(simp[ZA, *];done)
  |(simp_all[ZA];done)
  |skip
 refine Fe x.key (λr=>r.all Uk) (λk=>[(1,.ptr 0 0),(5,.int .i64 k)]) hl rfl ?_ ?_
 ·intro k y ys hd hx hF h0 h1 hw
  have hm:=AB hx
  have hby:y.size<=1073741824:=by have:=AFC (MP hb) hm;simp only[AV.bulk]at this;omega
  simp only[go_sem,h0,h1,Gk hx]
  repeat' (first|(apply pK (Uq _ hby);simp only[go_sem])|apply cg<;>intro hc<;>simp only[go_sem,hc,hw])
  all_goals first
   |rfl
   |(simp only[ZA,Al];rfl)
   |grind[ZA]
   |(simp only[ZA,Al];grind)
   |(simp[ZA,Al, *];done)
   |(simp_all[ZA,Al];done)
   |skip
 ·intro hF hlt
  simp only[go_sem,hlt,dF]
  repeat' (first|(apply pK (Uq _ (be hb));simp only[go_sem])|apply cg<;>intro hc<;>simp only[go_sem,hc,FV])
  all_goals first
   |rfl
   |(simp only[ZA];rfl)
   |grind[ZA]
   |(simp only[ZA,A8];grind)
   |(simp[ZA,A8, *];done)
   |(simp_all[ZA,A8];done)
   |skip
def AHQ(x:Stp)(hb:FU x.c<=1073741824):FT AA 234 [.agg x.c] (.int .i64 (dB x)):=by
 refine pC AMk rfl ?_
 simp only[f234,go_sem]
 repeat' (first|(apply pK (Ae7 _ hb);simp only[go_sem])|apply cg<;>intro hc<;>simp only[go_sem,hc])
 all_goals first
  |rfl
  |(simp only[dB];rfl)
  |grind[dB]
  |(simp only[dB];grind)
  |(simp[dB, *];done)
  |(simp_all[dB];done)
  |skip
def AfC(x:List El)(hb:FU (F4 x)<=1073741824):FT AA 175 [.sl none (F4 x)] (.int .i64 (XC x)):=by
 have hl:x.length<=9223372036854775807:=AL (Lm hb) dc
 refine pC APv rfl ?_
 simp only[f175,go_sem]
 repeat' (first|apply cg<;>intro hc<;>simp only[go_sem,hc])
 all_goals first
  |rfl
  |(simp only[XC];rfl)
  |grind[XC]
  |(simp only[XC];grind)
  |(simp[XC, *];done)
  |(simp_all[XC];done)
  |skip
 refine Fe x (λr=>Q7 r) (λk=>[(0,.sl none (F4 x)),(3,.int .i64 k)]) hl rfl ?_ ?_
 ·intro k y ys hd hx hF h0 h1 hw
  have hm:=AB hx
  have hby:FU y.c<=1073741824:=by have:=Ka hb hm;simpa only[AV.bulk]using this
  simp only[go_sem,h0,h1,F7 hx]
  repeat' (first|((first|apply pK (ACn _ (Hu hby))|apply pK (AHQ _ (K0 hby)));simp only[go_sem])|apply cg<;>intro hc<;>simp only[go_sem,hc,h0,hw,F7 hx])
  all_goals first
   |rfl
   |(simp only[XC,Q7];rfl)
   |grind[XC,Q7]
   |(simp only[XC,Q7];grind)
   |(simp[XC,Q7, *];done)
   |(simp_all[XC,Q7];done)
   |skip
 ·intro hF hlt
  simp only[go_sem,hlt,dF]
  all_goals first
   |rfl
   |(simp only[XC];rfl)
   |grind[XC,Q7]
   |(simp only[XC,Q7];grind)
   |(simp[XC,Q7, *];done)
   |(simp_all[XC,Q7];done)
   |skip
def AF3:FT AA 294 [] (.agg JZ.c):=by
 have h:FT AA 294 [] (.agg JZ.c):=FT.run ACN 100 rfl kr kr
 exact h
def Q9(l:List Fld)(s:ByteArray):FT AA 236 [.sl none (GL l),.str s] (.tup [.agg (Ff l s).1.c,.bool (Ff l s).2]):=by
 refine FT.fit ABo.c λhf=>?_
 have hl:=fits hf
 rw[Ov]at hl
 refine pB ABo rfl ?_
 simp only[f236,go_sem,FV]
 repeat' (first|(apply pK AF3;simp only[go_sem])|apply cg<;>intro hc<;>simp only[go_sem,hc])
 all_goals first
  |rfl
  |(simp only[Ff,GI];rfl)
  |grind[Ff,GI]
  |(simp only[Ff,GI];grind)
  |(simp[Ff,GI, *];done)
  |(simp_all[Ff,GI];done)
  |skip
 ·refine Fe l (λr=>r.find? (λf=>decide (f.name=s))) (λk=>[(0,.sl none (GL l)),(1,.str s),(4,.ptr 0 0),(6,.int .i64 k)]) hl rfl ?_ ?_
  ·intro k y ys hd hx hF h0 h1 hw
   simp only[go_sem,h0,h1,II hx,FV]
   repeat' (first|apply cg<;>intro hc<;>simp only[go_sem,hc,h0,hw,II hx])
   all_goals first
    |rfl
    |(simp only[Ff,GI];rfl)
    |grind[Ff,GI]
    |(simp only[Ff,GI];grind)
    |(simp[Ff,GI, *];done)
    |(simp_all[Ff,GI];done)
    |skip
  ·intro hF hlt
   simp only[go_sem,hlt,dF]
   all_goals first
    |rfl
    |(simp only[Ff,GI];rfl)
    |grind[Ff,GI]
    |(simp only[Ff,GI];grind)
    |(simp[Ff,GI, *];done)
    |(simp_all[Ff,GI];done)
    |skip
def AFs(n:Int)(hn:n<9223372036854775807):FT AA 295 [.int .i64 n] (.int .i64 (XH n.toNat)):=by
 refine pC AKX rfl ?_
 simp only[f295,go_sem]
 refine bO n.toNat (λk=>[(0,.int .i64 n),(3,.int .i64 (XH k)),(4,.int .i64 k)]) (λ_=>[]) rfl rfl ?_
 intro k hk
 by_cases h:(k:Int)<n
 ·have hw:=Mg (k:=k) FR
  simp only[go_sem,h,dT,hw]
  exact⟨FR,rfl,rfl⟩
 ·have:k=n.toNat:=FR
  subst this
  simp only[go_sem,h,dF]
def bE(f:Fld)(hn:f.width<9223372036854775807):FT AA 237 [.agg f.c] (.int .i64 (KY f)):=by
 refine pC AMZ rfl ?_
 simp only[f237,go_sem]
 repeat' (first|(apply pK (AFs _ hn);simp only[go_sem])|apply cg<;>intro hc<;>simp only[go_sem,hc])
 all_goals first
  |rfl
  |(simp only[KY];rfl)
  |grind[KY]
  |(simp only[KY];grind)
  |(simp[KY, *];done)
  |(simp_all[KY];done)
  |skip
def AU3:∀x:Ei,FU x.c<=1073741824->FT AA 291 [.agg x.c] (.sl none (GH (Se x))):=by
 refine I2 _ λx ih=>λhb=>?_
 have hl:x.args.length<=9223372036854775807:=AL (Vh (JB hb)) dc
 have hn:=AL (eG x) hb
 refine pB AKj rfl ?_
 simp only[f291,go_sem]
 refine Fg x.args (λo l=>o++M7 l) (λ_ _=>True) (λk o=>[(1,.ptr 0 0),(3,.sl (some 5) (GH o)),(4,.int .i64 k)]) (λk o=>[some x.c]) [x] hl trivial (by rw[He];rfl) rfl ?_ ?_
 ·intro k o y ys hd hx _ hF h0 h1 hw
  have hm:=AB hx
  have hby:FU y.c<=1073741824:=by have:=Vi (JB hb) hm;simpa only[AV.bulk]using this
  have hlen:o.length+(Se y).length<=1073741824:=by
   have:=congrArg List.length hF
   rw[Jf]at this
   rw[LZ]at hn
   simp at this hn
   omega
  simp only[go_sem,h0,h1,GQ hx]
  repeat' (first|(apply pK (ih _ hm hby);simp only[go_sem,hw])|apply cg<;>intro hc<;>simp only[go_sem,hc,h0,h1,hw,GQ hx])
  exact⟨FR,FR,o++Se y,by rw[Jf,AE],rfl,rfl⟩
 ·intro o _ hF
  simp only[go_sem,AQ,dF]
  rw[LZ]
  simp only[Lk,Af]at hF
  rw[<- hF];rfl
def ACb:∀x:Ej,FU x.c<=1073741824->FT AA 235 [.agg x.c] (.sl none (F6 (M8 x))):=by
 refine HM _ λx ih=>λhb=>?_
 have hl:x.args.length<=9223372036854775807:=AL (Qp (IL hb)) dc
 have hn:=AL (RY x) hb
 refine pB AMg rfl ?_
 simp only[f235,go_sem]
 refine Fg x.args (λo l=>o++MZ l) (λ_ _=>True) (λk o=>[(1,.ptr 0 0),(3,.sl (some 9) (F6 o)),(4,.int .i64 k)]) (λk o=>[some x.c]) [x] hl trivial (by rw[Gf];rfl) rfl ?_ ?_
 ·intro k o y ys hd hx _ hF h0 h1 hw
  have hm:=AB hx
  have hby:FU y.c<=1073741824:=by have:=Qq (IL hb) hm;simpa only[AV.bulk]using this
  have hlen:o.length+(M8 y).length<=1073741824:=by
   have:=congrArg List.length hF
   rw[Ip]at this
   rw[Kv]at hn
   simp at this hn
   omega
  simp only[go_sem,h0,h1,Ft hx]
  repeat' (first|(apply pK (ih _ hm hby);simp only[go_sem,hw])|apply cg<;>intro hc<;>simp only[go_sem,hc,h0,h1,hw,Ft hx])
  exact⟨FR,FR,o++M8 y,by rw[Ip,AE],rfl,rfl⟩
 ·intro o _ hF
  simp only[go_sem,AQ,dF]
  rw[Kv]
  simp only[KT,Af]at hF
  rw[<- hF];rfl
def AU4(l:List Fld)(x:Ei)(hl : ∀ f∈l,f.width<=9000000000000000000):FT AA 292 [.sl none (GL l),.agg x.c] (.int .i64 (P3 l x)):=by
 have hw:(Ff l x.field).1.width<9223372036854775807:=by
  unfold Ff
  split
  ·decide
  ·split
   ·rename_i f hf
    have:=hl f (DH hf)
    show f.width<_
    omega
   ·decide
 refine pC AKf rfl ?_
 simp only[f292,go_sem]
 repeat' (first|((first|apply pK (Q9 _ _)|apply pK (bE _ hw));simp only[go_sem])|apply cg<;>intro hc<;>simp only[go_sem,hc])
 all_goals first
  |rfl
  |(simp only[P3];rfl)
  |grind[P3]
  |(simp only[P3];grind)
  |(simp[P3, *];done)
  |(simp_all[P3];done)
  |skip
def ACh(l:List Fld)(x:Ei)(hl:∀f∈l,f.width<=9000000000000000000)(hb:FU x.c<=1073741824):FT AA 233 [.sl none (GL l),.agg x.c] (.int .i64 (Rs l x)):=by
 have hn:=AL (eG x) hb
 refine pC AMo rfl ?_
 simp only[f233,go_sem]
 repeat' (first|(apply pK (AU3 _ hb);simp only[go_sem])|apply cg<;>intro hc<;>simp only[go_sem,hc])
 refine Fe (Se x) (λr=>MB l r) (λk=>[(0,.sl none (GL l)),(5,.sl none (GH (Se x))),(6,.int .i64 k)]) FR rfl ?_ ?_
 ·intro k y ys hd hx hF h0 h1 hw
  simp only[go_sem,h0,h1,GQ hx]
  repeat' (first|(apply pK (AU4 _ _ hl);simp only[go_sem])|apply cg<;>intro hc<;>simp only[go_sem,hc,hw])
  all_goals first
   |rfl
   |(simp only[Rs,MB];rfl)
   |grind[Rs,MB]
   |(simp only[Rs,MB];grind)
   |(simp[Rs,MB, *];done)
   |(simp_all[Rs,MB];done)
   |skip
 ·intro hF hlt
  simp only[go_sem,hlt,dF]
  all_goals first
   |rfl
   |(simp only[Rs];rfl)
   |grind[Rs,MB]
   |(simp only[Rs,MB];grind)
   |(simp[Rs,MB, *];done)
   |(simp_all[Rs,MB];done)
   |skip
abbrev yo(l:List Fld):Prop:=∀f∈l,f.width<=9000000000000000000
def aj{l:List Fld}(hl:yo l)(s:ByteArray):(Ff l s).1.width<9223372036854775807:=by
 unfold Ff
 split
 ·decide
 ·split
  ·rename_i f hf
   have:=hl f (DH hf)
   show f.width<_
   omega
  ·decide
def ACe(s:Stp):FT AA 186 [.agg s.c] (.bool (L3 s)):=by
 refine pC AO9 rfl ?_
 simp only[f186,go_sem]
 repeat' (first|apply cg<;>intro hc<;>simp only[go_sem,hc])
 all_goals first
  |rfl
  |(simp only[L3];rfl)
  |grind[L3]
  |(simp only[L3];grind)
  |(simp[L3, *];done)
  |(simp_all[L3];done)
  |skip
def ACk(k:Int):FT AA 184 [.int .i64 k] (.int .i64 (Lc k)):=by
 refine pC APH rfl ?_
 simp only[f184,go_sem]
 repeat' (first|apply cg<;>intro hc<;>simp only[go_sem,hc])
 all_goals first
  |rfl
  |(simp only[Lc];rfl)
  |grind[Lc]
  |(simp only[Lc];grind)
  |(simp[Lc, *];done)
  |(simp_all[Lc];done)
  |skip
def oM(l:List Fld)(key:List ByteArray)(hk:key.length<=1073741824):FT AA 185 [.sl none (GL l),.sl none (HB key)] (.sl none (GK (I3 l key))):=by
 refine pB APC rfl ?_
 simp only[f185,go_sem]
 refine Fg key (λo r=>o++I3 l r) (λk o=>o.length=k) (λk o=>[(0,.sl none (GL l)),(1,.sl none (HB key)),(5,.sl (some 1) (GK o)),(6,.int .i64 k)]) (λk o=>[]) [] FR rfl rfl rfl ?_ ?_
 ·intro k o y ys hd hx hI hF h0 h1 hw
  have hk2:=Fq hd
  simp only[go_sem,h0,h1,Gk hx]
  repeat' (first|(apply pK (Q9 _ _);simp only[go_sem,hw])|apply cg<;>intro hc<;>simp only[go_sem,hc,h0,h1,hw,Gk hx])
  exact⟨FR,FR,o++[(Ff l y).1.width],by simp[I3],by simp[hI],rfl,rfl⟩
 ·intro o hI hF
  simp only[go_sem,AQ,dF]
  simp only[I3,List.map_nil,Af,AR]at hF
  rw[I3,hF]
def Ae'(a b:List Int):FT AA 238 [.sl none (GK a),.sl none (GK b)] (.bool (Xm a b)):=by
 refine FT.fit ABn.c λhf=>?_
 have hl:=fits hf
 rw[HR]at hl
 refine pC ABn rfl ?_
 simp only[f238,go_sem]
 repeat' (first|apply cg<;>intro hc<;>simp only[go_sem,hc])
 all_goals first
  |rfl
  |(simp only[Xm];rfl)
  |grind[Xm]
  |(simp only[Xm];grind)
  |(simp[Xm, *];done)
  |(simp_all[Xm];done)
  |skip
 have hll:a.length=b.length:=by grind
 refine Fe a (λr=>decide (r=b.drop (a.length - r.length))) (λk=>[(0,.sl none (GK a)),(1,.sl none (GK b)),(5,.int .i64 k)]) hl rfl ?_ ?_
 ·intro k z zs hd hx hF h0 h1 hw
  have hk:=Fq hd
  obtain⟨w,hy⟩:∃w,b[k]? =some w:=⟨_,AH FR⟩
  have e1:a.length - (zs.length+1)=k:=FR
  have e2:a.length - zs.length=k+1:=FR
  have e3:b.drop k=w::b.drop (k+1):=by rw[BG FR];congr 1;grind
  have h2:(k:Int)<(b.length:Int):=FR
  simp only[AD,e1,AP,BC,e3]at hF
  simp only[go_sem,h0,h1,Gl hx,Gl hy]
  repeat' (first|apply cg<;>intro hc<;>simp only[go_sem,hc,hw,e1,e2,e3])
  all_goals first
   |rfl
   |(simp only[Xm,hF,List.cons.injEq];rfl)
   |grind[Xm,List.cons.injEq]
   |(simp only[Xm,hF,List.cons.injEq];grind)
   |(simp[Xm,hF,List.cons.injEq, *];done)
   |(simp_all[Xm,hF,List.cons.injEq];done)
   |skip
 ·intro hF hlt
  simp only[go_sem,hlt,dF]
  simp only[AP,BC,List.length_nil,Bm]at hF
  have h3:b.drop a.length=[]:=by rw[hll];simp
  simp only[h3]at hF
  rw[Xm,hF];rfl
def AVE(l:List Fld)(s t:Stp)(h1:s.key.length<=1073741824)(h2:t.key.length<=1073741824):FT AA 178 [.sl none (GL l),.agg s.c,.agg t.c] (.bool (UE l s t)):=by
 refine pC APf rfl ?_
 simp only[f178,go_sem]
 repeat' (first|((first|apply pK (ACe _)|apply pK (oM _ _ h1)|apply pK (oM _ _ h2)|apply pK (Ae' _ _)|apply pK (ACk _));simp only[go_sem])|apply cg<;>intro hc<;>simp only[go_sem,hc])
 all_goals first
  |rfl
  |(simp only[UE];rfl)
  |grind[UE]
  |(simp only[UE];grind)
  |(simp[UE, *];done)
  |(simp_all[UE];done)
  |skip
def ACm(l:List Fld)(x:Ei)(hl:yo l)(hb:FU x.c<=1073741824):FT AA 174 [.sl none (GL l),.agg x.c] (.int .i64 (UA l x)):=by
 refine pC APz rfl ?_
 simp only[f174,go_sem]
 repeat' (first|((first|apply pK (AfB _ hb)|apply pK (ACh _ _ hl hb));simp only[go_sem])|apply cg<;>intro hc<;>simp only[go_sem,hc])
 all_goals first
  |rfl
  |(simp only[UA];rfl)
  |grind[UA]
  |(simp only[UA];grind)
  |(simp[UA, *];done)
  |(simp_all[UA];done)
  |skip
def AU'(l:List Fld)(x:Ej)(hl:yo l)(hb:FU x.c<=1073741824):FT AA 176 [.sl none (GL l),.agg x.c] (.int .i64 (Km l x)):=by
 have hn:=AL (RY x) hb
 refine pC APq rfl ?_
 simp only[f176,go_sem]
 repeat' (first|((first|apply pK (ACn _ hb)|apply pK (ACb _ hb));simp only[go_sem])|apply cg<;>intro hc<;>simp only[go_sem,hc])
 all_goals first
  |rfl
  |(simp only[Km];rfl)
  |grind[Km]
  |(simp only[Km];grind)
  |(simp[Km, *];done)
  |(simp_all[Km];done)
  |skip
 refine Fe (M8 x) (λr=>L0 l r) (λk=>[(0,.sl none (GL l)),(5,.int .i64 0),(6,.sl none (F6 (M8 x))),(7,.int .i64 k)]) FR (by grind) ?_ ?_
 ·intro k y ys hd hx hF h0 h1 hw
  have hm:=AB hx
  have hby:=AL (sL x y hm) hb
  simp only[go_sem,h0,h1,Ft hx]
  repeat' (first|((first|apply pK (ACh _ _ hl (MS hby))|apply pK (Q9 _ _)|apply pK (bE _ (aj hl _)));simp only[go_sem,h0,Ft hx])|apply cg<;>intro hc<;>simp only[go_sem,hc,h0,hw,Ft hx])
  all_goals first
   |rfl
   |(simp only[Km,L0,RZ,At];rfl)
   |grind[Km,L0,RZ,At]
   |(simp only[Km,L0,RZ,At];grind)
   |(simp[Km,L0,RZ,At, *];done)
   |(simp_all[Km,L0,RZ,At];done)
   |skip
 ·intro hF hlt
  simp only[go_sem,hlt,dF]
  all_goals first
   |rfl
   |(simp only[Km];rfl)
   |grind[Km,L0]
   |(simp only[Km,L0];grind)
   |(simp[Km,L0, *];done)
   |(simp_all[Km,L0];done)
   |skip
def JM{α:Type}{l:List α}{i k:Nat}{x:α}(h:(l.take i)[k]? =some x):l[k]? =some x:=by
 rw[Aj]at h
 split at h
 ·exact h
 ·cases h
def Jz{α:Type}{l:List α}{i:Nat}(h:i<=l.length):(l.take i).length=i:=Hy
def AU_(l:List Fld)(s:Stp)(hl:yo l)(hb:FU s.c<=1073741824):FT AA 177 [.sl none (GL l),.agg s.c] (.int .i64 (MU l s)) := by
  have hk:s.key.length<=1073741824 := Ug (MP hb)
  have g0:s.key.length*16<=140737488355328 := by omega
  have g1:s.key.length<=9223372036854775807 := by omega
  have g2:(s.key.length+1)*16<=140737488355328 := by omega
  have g3:s.key.length<=9223372036854775806 := by omega
  refine pC APk rfl ?_
  simp only[f177,go_sem]
  repeat' (first|(apply pK (AHQ _ hb);simp only[go_sem])|apply cg<;>intro hc<;>simp only[go_sem,hc,FV,g0,g1,g2,g3])
  all_goals first
    |rfl
    |(simp only[MU];rfl)
    |grind[MU]
    |(simp only[MU];grind)
    |(simp[MU, *];done)
    |(simp_all[MU];done)
    |skip
  · have hnm:J5 s=s.key++[s.field] := by grind [J5]
    have hnl:(s.key++[s.field]).length<=1073741825 := by first|omega|(simp;omega)
    refine Fe (s.key++[s.field]) (λr=>r.all (λy=>(Ff l y).2)) (λk=>[(0,.sl none (GL l)),(3,.ptr 0 0),(6,.sl (some 1) (HB (s.key++[s.field]))),(7,.int .i64 k)]) FR rfl ?_ ?_
    · intro k y ys hd hx hF h0 h1 hw
      simp only[go_sem,h0,h1,Gk hx]
      repeat' (first|(apply pK (Q9 _ _);simp only[go_sem])|apply cg<;>intro hc<;>simp only[go_sem,hc,hw])
      all_goals first
        | (have h5 : (J5 s).all (fun y => (Ff l y).2) = false := by rw [hnm, hF]; simp_all
           grind[MU])
        |simp_all
    · intro hF hlt
      simp only[go_sem,hlt,dF]
      refine Fe s.key (λr=>Jb s.key (s.key.length - r.length) r) (λk=>[(0,.sl none (GL l)),(3,.ptr 0 0),(10,.int .i64 k)]) FR rfl ?_ ?_
      · intro k y ys hd hx hF2 h0 h1 hw
        have hk2 := Fq hd
        have e1:s.key.length - (ys.length+1)=k := by omega
        have e2:s.key.length - ys.length=k+1 := by omega
        have ht:(s.key.take k).length=k := Jz FR
        simp only[AD,e1,AP]at hF2
        simp only[go_sem,h1]
        refine Fe (s.key.take k) (λr=>r.any (λz=>decide (z=y))) (λi=>[(0,.sl none (GL l)),(3,.ptr 0 0),(10,.int .i64 k),(11,.int .i64 i)]) FR rfl ?_ ?_
        · intro i z zs hd3 hx3 hF3 h03 OS hw3
          rw[ht]at OS
          have hx4 := JM hx3
          have lA:(i:Int)<(s.key.length:Int) := by omega
          simp only[go_sem,h03,OS,h0,Gk hx4,Gk hx,FV]
          repeat' (first|apply cg<;>intro hc<;>simp only[go_sem,hc,hw3])
          all_goals first
            | (have h5 : Jb s.key 0 s.key = false := by rw [hF2, Jb, hF3, Au, hc]; rfl
               have h6:(J5 s).all (λy=>(Ff l y).2)=true := by rw[hnm,hF];rfl
               grind[MU])
            |(rw[Au,hc];rfl)
        · intro hF3 hlt3
          rw[ht]at hlt3
          simp only[go_sem,ht,hlt3,dF,hw]
          rw[e1,e2,Jb,hF3];rfl
      · intro hF2 hlt2
        have h5:Jb s.key 0 s.key=true := by simp only[AP]at hF2;rw[hF2];rfl
        have h6:(J5 s).all (λy=>(Ff l y).2)=true := by rw[hnm,hF];rfl
        simp only[go_sem,hlt2,dF]
        repeat' (first|((first|apply pK (Q9 _ _)|apply pK (bE _ (aj hl _)));simp only[go_sem])|apply cg<;>intro hc<;>simp only[go_sem,hc])
        all_goals grind[MU]
  · have hnm:J5 s=s.key := by grind [J5]
    have hnl:(s.key).length<=1073741825 := by first|omega|(simp;omega)
    refine Fe (s.key) (λr=>r.all (λy=>(Ff l y).2)) (λk=>[(0,.sl none (GL l)),(3,.ptr 0 0),(6,.sl (some 1) (HB (s.key))),(7,.int .i64 k)]) FR rfl ?_ ?_
    · intro k y ys hd hx hF h0 h1 hw
      simp only[go_sem,h0,h1,Gk hx]
      repeat' (first|(apply pK (Q9 _ _);simp only[go_sem])|apply cg<;>intro hc<;>simp only[go_sem,hc,hw])
      all_goals first
        | (have h5 : (J5 s).all (fun y => (Ff l y).2) = false := by rw [hnm, hF]; simp_all
           grind[MU])
        |simp_all
    · intro hF hlt
      simp only[go_sem,hlt,dF]
      refine Fe s.key (λr=>Jb s.key (s.key.length - r.length) r) (λk=>[(0,.sl none (GL l)),(3,.ptr 0 0),(10,.int .i64 k)]) FR rfl ?_ ?_
      · intro k y ys hd hx hF2 h0 h1 hw
        have hk2 := Fq hd
        have e1:s.key.length - (ys.length+1)=k := by omega
        have e2:s.key.length - ys.length=k+1 := by omega
        have ht:(s.key.take k).length=k := Jz FR
        simp only[AD,e1,AP]at hF2
        simp only[go_sem,h1]
        refine Fe (s.key.take k) (λr=>r.any (λz=>decide (z=y))) (λi=>[(0,.sl none (GL l)),(3,.ptr 0 0),(10,.int .i64 k),(11,.int .i64 i)]) FR rfl ?_ ?_
        · intro i z zs hd3 hx3 hF3 h03 OS hw3
          rw[ht]at OS
          have hx4 := JM hx3
          have lA:(i:Int)<(s.key.length:Int) := by omega
          simp only[go_sem,h03,OS,h0,Gk hx4,Gk hx,FV]
          repeat' (first|apply cg<;>intro hc<;>simp only[go_sem,hc,hw3])
          all_goals first
            | (have h5 : Jb s.key 0 s.key = false := by rw [hF2, Jb, hF3, Au, hc]; rfl
               have h6:(J5 s).all (λy=>(Ff l y).2)=true := by rw[hnm,hF];rfl
               grind[MU])
            |(rw[Au,hc];rfl)
        · intro hF3 hlt3
          rw[ht]at hlt3
          simp only[go_sem,ht,hlt3,dF,hw]
          rw[e1,e2,Jb,hF3];rfl
      · intro hF2 hlt2
        have h5:Jb s.key 0 s.key=true := by simp only[AP]at hF2;rw[hF2];rfl
        have h6:(J5 s).all (λy=>(Ff l y).2)=true := by rw[hnm,hF];rfl
        simp only[go_sem,hlt2,dF]
        repeat' (first|((first|apply pK (Q9 _ _)|apply pK (bE _ (aj hl _)));simp only[go_sem])|apply cg<;>intro hc<;>simp only[go_sem,hc])
        all_goals grind[MU]
def AHP(l:List Fld)(p:List El)(hl:yo l)(hb:FU (F4 p)<=1073741824):FT AA 98 [.sl none (GL l),.sl none (F4 p)] (.int .i64 (QN l p)) := by
  have hn := Lm hb
  refine pC AYD rfl ?_
  simp only[f98,go_sem]
  repeat' (first|(apply pK (AfC _ hb);simp only[go_sem])|apply cg<;>intro hc<;>simp only[go_sem,hc])
  all_goals first
    |rfl
    |(simp only[QN];rfl)
    |grind[QN]
    |(simp only[QN];grind)
    |(simp[QN, *];done)
    |(simp_all[QN];done)
    |skip
  refine Fe p (λr=>Ng l r) (λk=>[(0,.sl none (GL l)),(1,.sl none (F4 p)),(6,.int .i64 k)]) FR rfl ?_ ?_
  · intro k y ys hd hx hF h0 h1 hw
    have hby:FU y.c<=1073741824 := by have := Ka hb (AB hx);simpa only[AV.bulk]using this
    simp only[go_sem,h0,h1,F7 hx]
    repeat' (first|((first|apply pK (AU' _ _ hl (Hu hby))|apply pK (AU_ _ _ hl (K0 hby)));simp only[go_sem])|apply cg<;>intro hc<;>simp only[go_sem,hc,h0,hw,F7 hx])
    all_goals first
      |rfl
      |(simp only[QN,Ng];rfl)
      |grind[QN,Ng]
      |(simp only[QN,Ng];grind)
      |(simp[QN,Ng, *];done)
      |(simp_all[QN,Ng];done)
      |skip
  · intro hF hlt
    simp only[go_sem,hlt,dF]
    refine Fe p (λr=>LP l p (p.length - r.length) r) (λk=>[(0,.sl none (GL l)),(1,.sl none (F4 p)),(9,.int .i64 k)]) FR rfl ?_ ?_
    · intro k y ys hd hx hF2 h0 h1 hw
      have hk := Fq hd
      have e1:p.length - (ys.length+1)=k := by omega
      have e2:p.length - ys.length=k+1 := by omega
      have hby:FU y.c<=1073741824 := by have := Ka hb (AB hx);simpa only[AV.bulk]using this
      have hy := Ug (MP (K0 hby))
      have ht:(p.take k).length=k := Jz FR
      simp only[AD,e1,AP]at hF2
      simp only[go_sem,h1]
      refine Fe (p.take k) (λr=>r.any (λz=>LT l z.step y.step)) (λi=>[(0,.sl none (GL l)),(1,.sl none (F4 p)),(9,.int .i64 k),(10,.int .i64 i)]) FR rfl ?_ ?_
      · intro i z zs hd3 hx3 hF3 h03 OS hw3
        rw[ht]at OS
        have hx4 := JM hx3
        have lA:(i:Int)<(p.length:Int) := by omega
        have hbz:FU z.c<=1073741824 := by have := Ka hb (AB hx4);simpa only[AV.bulk]using this
        have hz := Ug (MP (K0 hbz))
        simp only[go_sem,h03,OS,h0,F7 hx4,F7 hx]
        repeat' (first|(apply pK (AVE _ _ _ hz hy);simp only[go_sem])|apply cg<;>intro hc<;>simp only[go_sem,hc,hw3,FV])
        all_goals first
          | (have hcl : LT l z.step y.step = true := by grind [LT]
             have h5:LP l p 0 p=false := by rw[hF2,LP,hF3,Au,hcl];rfl
             grind[QN,Ng])
          |grind[LT]
      · intro hF3 hlt3
        rw[ht]at hlt3
        simp only[go_sem,ht,hlt3,dF,hw]
        rw[e1,e2,LP,hF3];rfl
    · intro hF2 hlt2
      simp only[go_sem,hlt2,dF]
      all_goals first
        |rfl
        |(simp only[QN];rfl)
        |grind[QN,LP,Ng]
        |(simp only[QN,LP,Ng];grind)
        |(simp[QN,LP,Ng, *];done)
        |(simp_all[QN,LP,Ng];done)
        |skip
def AU2(l:List Int)(n:Int)(hl:l.length<=1073741824):FT AA 322 [.sl none (GK l),.int .i64 n] (.sl none (GK (Sd l n))):=by
 refine pB AJ7 rfl ?_
 simp only[f322,go_sem]
 refine Fg l (λ(s:List Int×Bool) r=>s.1++Jn n s.2 r) (λk s=>s.1.length<=2*k) (λk s=>[(0,.sl none (GK l)),(1,.int .i64 n),(5,.sl (some 1) (GK s.1)),(6,.bool s.2),(7,.int .i64 k)]) (λk o=>[]) ([],false) FR sm rfl rfl ?_ ?_
 ·intro k s y ys hd hx hI hF h0 h1 hw
  have hk2:=Fq hd
  have g1:(s.1.length+1)*8<=140737488355328:=FR
  have g2:s.1.length<=9223372036854775806:=FR
  have g3:(s.1.length+1+1)*8<=140737488355328:=FR
  have g4:s.1.length+1<=9223372036854775806:=FR
  have g5:s.1.length<=9223372036854775805:=FR
  simp only[go_sem,h0,h1,Gl hx]
  repeat' (first|apply cg<;>intro hc<;>simp only[go_sem,hc,h0,hw,Gl hx,AF,List.length_singleton,g1,g2,g3,g5])
  all_goals first
   |exact⟨(s.1++[n,y],true),by grind[Jn],Hy,rfl,rfl⟩
   |exact⟨(s.1++[n],true),by grind[Jn],Hy,rfl,rfl⟩
   |exact⟨(s.1++[y],s.2),by grind[Jn],Hy,rfl,rfl⟩
   |exact⟨(s.1,s.2),by grind[Jn],Hy,rfl,rfl⟩
   |skip
 ·intro s hI hF
  have g1:(s.1.length+1)*8<=140737488355328:=FR
  have g2:s.1.length<=9223372036854775806:=FR
  simp only[go_sem,AQ,dF]
  repeat' (first|apply cg<;>intro hc<;>simp only[go_sem,hc,g1,g2])
  all_goals first
   |rfl
   |(simp only[Sd];rfl)
   |grind[Sd,Jn]
   |(simp only[Sd,Jn];grind)
   |(simp[Sd,Jn, *];done)
   |(simp_all[Sd,Jn];done)
   |skip
def PE(t:En)(n:Int):FT AA 280 [.agg t.c,.int .i64 n] (.bool (HZ t n)):=by
 refine pC ALQ rfl ?_
 simp only[f280,go_sem]
 repeat' (first|apply cg<;>intro hc<;>simp only[go_sem,hc])
 all_goals first
  |rfl
  |(simp only[HZ];rfl)
  |grind[HZ]
  |(simp only[HZ];grind)
  |(simp[HZ, *];done)
  |(simp_all[HZ];done)
  |skip
def VC{t:En}{n:Int}(h:HZ t n=true):0<=n/\n<(t.ports.length:Int) /\ ∃p,t.ports[n.toNat]? =some p/\O_ t n=p.edge/\(J8 t.ports)[n.toNat]? =some (.agg p.c):=by
 simp only[HZ,AM,decide_eq_true_eq]at h
 have hg:=AH (l:=t.ports) (i:=n.toNat) FR
 exact⟨h.1,h.2,_,hg,by simp[O_,hg],HY hg⟩
def AFx(t:En)(n:Int):FT AA 278 [.agg t.c,.int .i64 n] (.bool (J' t n)):=by
 refine pC ALY rfl ?_
 cases hp:HZ t n with
 | false =>
  simp only[f278,go_sem]
  repeat' (first|(apply pK (PE _ _);simp only[go_sem,hp])|apply cg<;>intro hc<;>simp only[go_sem,hc,hp])
  all_goals first
   |rfl
   |(simp only[J'];rfl)
   |grind[J']
   |(simp only[J'];grind)
   |(simp[J', *];done)
   |(simp_all[J'];done)
   |skip
 | true =>
  obtain⟨h1,h2,p,h3,h4,h5⟩:=VC hp
  simp only[f278,go_sem]
  repeat' (first|(apply pK (PE _ _);simp only[go_sem,hp,h1,h5])|apply cg<;>intro hc<;>simp only[go_sem,hc,hp,h1,h2,h5])
  all_goals first
   |rfl
   |(simp only[J'];rfl)
   |grind[J']
   |(simp only[J'];grind)
   |(simp[J', *];done)
   |(simp_all[J'];done)
   |skip
def AFu(t:En)(n:Int):FT AA 229 [.agg t.c,.int .i64 n] (.bool (KV t n)):=by
 refine pC AM4 rfl ?_
 cases hp:HZ t n with
 | false =>
  simp only[f229,go_sem]
  repeat' (first|(apply pK (PE _ _);simp only[go_sem,hp])|apply cg<;>intro hc<;>simp only[go_sem,hc,hp])
  all_goals first
   |rfl
   |(simp only[KV];rfl)
   |grind[KV]
   |(simp only[KV];grind)
   |(simp[KV, *];done)
   |(simp_all[KV];done)
   |skip
 | true =>
  obtain⟨h1,h2,p,h3,h4,h5⟩:=VC hp
  simp only[f229,go_sem]
  repeat' (first|(apply pK (PE _ _);simp only[go_sem,hp,h1,h5])|apply cg<;>intro hc<;>simp only[go_sem,hc,hp,h1,h2,h5])
  all_goals first
   |rfl
   |(simp only[KV];rfl)
   |grind[KV]
   |(simp only[KV];grind)
   |(simp[KV, *];done)
   |(simp_all[KV];done)
   |skip
def AHM(l:List ByteArray)(s:ByteArray):FT AA 281 [.sl none (HB l),.str s] (.bool (tz l s)):=by
 refine FT.fit ABi.c λhf=>?_
 have hl:=fits hf
 rw[L7]at hl
 refine pC ABi rfl ?_
 simp only[f281,go_sem]
 refine Fe l (λr=>r.any (λy=>decide (y=s))) (λk=>[(0,.sl none (HB l)),(1,.str s),(5,.int .i64 k)]) hl rfl ?_ ?_
 ·intro k y ys hd hx hF h0 h1 hw
  simp only[go_sem,h0,h1,Gk hx,FV]
  repeat' (first|apply cg<;>intro hc<;>simp only[go_sem,hc,hw])
  all_goals first
   |(rw[tz,hF,Au,hc];rfl)
   |(rw[Au,hc];rfl)
 ·intro hF hlt
  simp only[go_sem,hlt,dF]
  rw[tz,hF];rfl
def ACc(x:Ej)(hb:FU x.c<=1073741824):FT AA 279 [.agg x.c] (.sl none (GK (Nk x))):=by
 have hn:=AL (RY x) hb
 refine pB ALU rfl ?_
 simp only[f279,go_sem]
 repeat' (first|(apply pK (ACb _ hb);simp only[go_sem])|apply cg<;>intro hc<;>simp only[go_sem,hc])
 have step:∀(y:Ej) (ys:List Ej) (o:List Int),Mk o (y::ys)=Mk (if y.kind=2/\y.field=GI then Sd o y.n else o) ys:=λy ys o=>by rw[Mk]
 have len1:∀(o:List Int) (n:Int),(Sd o n).length<=o.length+1:=λo n=>AAE o n
 refine Fg (M8 x) (λ(o:Option Nat×List Int) r=>Mk o.2 r) (λk o=>o.2.length<=k) (λk o=>[(3,.sl o.1 (GK o.2)),(4,.sl none (F6 (M8 x))),(5,.int .i64 k)]) (λk o=>[some x.c]) (some 1,[]) FR sm rfl rfl ?_ ?_
 ·intro k o y ys hd hx hI hF h0 h1 hw
  have hk2:=Fq hd
  simp only[go_sem,h0,h1,Ft hx]
  repeat' (first|(apply pK (AU2 o.2 y.n (show o.2.length<=1073741824 by omega));simp only[go_sem,hw])|apply cg<;>intro hc<;>simp only[go_sem,hc,h0,hw,Ft hx,FV])
  all_goals first
   |exact⟨(none,Sd o.2 y.n),by rw[step,iP (by simp_all[GI])],by have:=len1 o.2 y.n;simp only;omega,rfl,rfl⟩
   |exact⟨o,by rw[step,iN (by simp_all[GI])],FR,rfl,rfl⟩
   |skip
 ·intro o hI hF
  simp only[go_sem,AQ,dF]
  rw[Nk,hF,Mk]
def AVA(s:Eo)(t:En)(hl:yo s.fields)(hb:FU t.c<=1073741824):FT AA 226 [.agg s.c,.agg t.c] (.int .i64 (Mw s t)) := by
  have hbp := HE hb
  have hn := Lm hbp
  refine pC ANE rfl ?_
  simp only[f226,go_sem]
  repeat' (first|(apply pK (AHP _ _ hl hbp);simp only[go_sem])|apply cg<;>intro hc<;>simp only[go_sem,hc])
  all_goals first
    |rfl
    |(simp only[Mw];rfl)
    |grind[Mw]
    |(simp only[Mw];grind)
    |(simp[Mw, *];done)
    |(simp_all[Mw];done)
    |skip
  refine Fe t.program (λr=>Kn t r) (λk=>[(3,.ptr 1 0),(6,.int .i64 k)]) FR rfl ?_ ?_
  · intro k y ys hd hx hF h0 h1 hw
    have hby:FU y.c<=1073741824 := by have := Ka hbp (AB hx);simpa only[AV.bulk]using this
    have hp1 := lw y.policy
    have hp2 := AL (RY y.policy) (Hu hby)
    simp only[go_sem,h0,h1,F7 hx]
    repeat' (first|(apply pK (ACc _ (Hu hby));simp only[go_sem])|apply cg<;>intro hc<;>simp only[go_sem,hc,h0,h1,hw,F7 hx,FV])
    refine Fe (Nk y.policy) (λr=>r.all (HZ t)) (λi=>[(3,.ptr 1 0),(6,.int .i64 k),(7,.sl none (GK (Nk y.policy))),(8,.int .i64 i)]) FR rfl ?_ ?_
    · intro i z zs hd3 hx3 hF3 h03 OS hw3
      simp only[go_sem,h03,OS,Gl hx3]
      repeat' (first|(apply pK (PE _ _);simp only[go_sem])|apply cg<;>intro hc<;>simp only[go_sem,hc,hw3])
      all_goals first
        | (have h5 : (Nk y.policy).all (HZ t) = false := by rw [hF3, Al]; simp_all
           grind[Mw,Kn])
        |simp_all
    · intro hF3 hlt3
      have h5:(Nk y.policy).all (HZ t)=true := by rw[hF3];rfl
      simp only[go_sem,hlt3,dF,h0,F7 hx,FV]
      repeat' (first|(apply pK (AHM _ _);simp only[go_sem])|apply cg<;>intro hc<;>simp only[go_sem,hc,hw])
      all_goals first
        |rfl
        |(simp only[Mw,Kn,GI];rfl)
        |grind[Mw,Kn,GI]
        |(simp only[Mw,Kn,GI];grind)
        |(simp[Mw,Kn,GI, *];done)
        |(simp_all[Mw,Kn,GI];done)
        |skip
  · intro hF hlt
    simp only[go_sem,hlt,dF]
    all_goals first
      |rfl
      |(simp only[Mw];rfl)
      |grind[Mw,Kn]
      |(simp only[Mw,Kn];grind)
      |(simp[Mw,Kn, *];done)
      |(simp_all[Mw,Kn];done)
      |skip
def rI(n:Em)(h1:n.nodes.length<=1073741824)(h2:n.edges.length<=1073741824):FT AA 163 [.agg n.c] (.tup [.sl none (HB (IH n)),.sl none (HB (Kk n))]):=by
 refine pB AQi rfl ?_
 simp only[f163,go_sem]
 refine Fg n.nodes (λo r=>o++r.map (·.name)) (λk o=>o.length=k) (λk o=>[(1,.ptr 0 0),(4,.sl (some 1) (HB o)),(5,.sl (some 1) (HB [])),(6,.int .i64 k)]) (λk o=>[some n.c]) [] FR rfl rfl rfl ?_ ?_
 ·intro k o y ys hd hx hI hF h0 h1 hw
  have hk2:=Fq hd
  simp only[go_sem,h0,h1,hw,Ln hx]
  repeat' (first|apply cg<;>intro hc<;>simp only[go_sem,hc,h0,h1,hw,Ln hx])
  exact⟨FR,FR,o++[y.name],sm,by simp[hI],rfl,rfl⟩
 ·intro o hI hF
  simp only[go_sem,AQ,dF]
  have ho:o=IH n:=by simpa [IH]using hF.symm
  subst ho
  refine Fg n.edges (λo r=>o++r.map (·.name)) (λk o=>o.length=k) (λk o=>[(1,.ptr 0 0),(4,.sl (some 1) (HB (IH n))),(5,.sl (some 1) (HB o)),(7,.int .i64 k)]) (λk o=>[some n.c]) [] FR rfl rfl rfl ?_ ?_
  ·intro k o y ys hd hx hI hF h0 h1 hw
   have hk2:=Fq hd
   simp only[go_sem,h0,h1,hw,Lo hx]
   repeat' (first|apply cg<;>intro hc<;>simp only[go_sem,hc,h0,h1,hw,Lo hx])
   exact⟨FR,FR,o++[y.name],sm,by simp[hI],rfl,rfl⟩
  ·intro o hI hF
   simp only[go_sem,AQ,dF]
   have ho:o=Kk n:=by simpa [Kk]using hF.symm
   subst ho
   rfl
def Ae6(n:Em)(h1:n.nodes.length<=1073741824)(h2:n.edges.length<=1073741824): ∀ x:Ek,FT AA 228 [.agg n.c,.agg x.c] (.bool (knB (IH n) x)):=by
 refine Pz _ λx ih=>?_
 refine FT.fit ABp.c λhf=>?_
 have hl:x.args.length<=9223372036854775807:=MQ (P4 (show HU [.agg x.c]from hf.2))
 refine pC ABp rfl ?_
 simp only[f228,go_sem]
 repeat' (first|((first|apply pK (rI n h1 h2)|apply pK (AHM _ _));simp only[go_sem])|apply cg<;>intro hc<;>simp only[go_sem,hc])
 all_goals first
  |rfl
  |(simp only[Ji];rfl)
  |grind[Ji]
  |(simp only[Ji];grind)
  |(simp[Ji, *];done)
  |(simp_all[Ji];done)
  |skip
 all_goals
  refine Fe x.args (λr=>aY (IH n) r) (λk=>[(2,.ptr 0 0),(3,.ptr 1 0),(7,.int .i64 k)]) hl rfl ?_ ?_
  ·intro k y ys hd hx hF h0 h1 hw
   have hm:=AB hx
   simp only[go_sem,h0,h1,Kb hx]
   repeat' (first|(apply pK (ih _ hm);simp only[go_sem])|apply cg<;>intro hc<;>simp only[go_sem,hc,hw])
   all_goals first
    |rfl
    |(simp only[Ji,NF];rfl)
    |grind[Ji,NF]
    |(simp only[Ji,NF];grind)
    |(simp[Ji,NF, *];done)
    |(simp_all[Ji,NF];done)
    |skip
  ·intro hF hlt
   simp only[go_sem,hlt,dF]
   all_goals first
    |rfl
    |(simp only[Ji];rfl)
    |grind[Ji,Rn]
    |(simp only[Ji,Rn];grind)
    |(simp[Ji,Rn, *];done)
    |(simp_all[Ji,Rn];done)
    |skip
def AVB(s:Eo)(t:En)(hb:FU t.c<=1073741824):FT AA 225 [.agg s.c,.agg t.c] (.int .i64 (Ii s t)) := by
  have hbp := Jc hb
  have hn := Rk hbp
  have hn2 := NA (Ht hb)
  refine pC ANJ rfl ?_
  simp only[f225,go_sem]
  repeat' (first|(apply pK (Ur _ (Wp hb));simp only[go_sem])|apply cg<;>intro hc<;>simp only[go_sem,hc])
  all_goals first
    |rfl
    |(simp only[Ii];rfl)
    |grind[Ii]
    |(simp only[Ii];grind)
    |(simp[Ii, *];done)
    |(simp_all[Ii];done)
    |skip
  refine Fe t.ports (λr=>IY Sg SP t.ports (t.ports.length - r.length) r) (λk=>[(2,.ptr 0 0),(3,.ptr 1 0),(6,.int .i64 k)]) FR rfl ?_ ?_
  · intro k y ys hd hx hF2 h0 h1 hw
    have hk2 := Fq hd
    have hmy := AB hx
    have e1:t.ports.length - (ys.length+1)=k := by omega
    have e2:t.ports.length - ys.length=k+1 := by omega
    have ht:(t.ports.take k).length=k := Jz FR
    have hby:FU y.c<=1073741824 := by have := ABM hbp hmy;simpa only[AV.bulk]using this
    simp only[AD,e1,AP]at hF2
    simp only[go_sem,h0,h1,HY hx]
    repeat' (first|(apply pK (Ur _ (cJ hby));simp only[go_sem])|apply cg<;>intro hc<;>simp only[go_sem,hc])
    all_goals first
      | (have hp : Sg y = false := by grind [Ii, Sg, SP, P1, QG, RX, RW]
         have h5:IY Sg SP t.ports 0 t.ports=false := by rw[hF2,IY,hp];rfl
         have h6:IN Sg SP t.ports=false := h5
         grind[Ii,Sg,SP,P1,QG,RX,RW])
      |skip
    have hp:Sg y=true := by grind[Ii,Sg,SP,P1,QG,RX,RW]
    refine Fe (t.ports.take k) (λr=>r.any (λz=>SP z y)) (λi=>[(2,.ptr 0 0),(3,.ptr 1 0),(6,.int .i64 k),(8,.int .i64 i)]) FR rfl ?_ ?_
    · intro i z zs hd3 hx3 hF3 h03 OS hw3
      rw[ht]at OS
      have hx4 := JM hx3
      have lA:(i:Int)<(t.ports.length:Int) := by omega
      have hmz := AB hx4
      simp only[go_sem,h03,OS,h0,HY hx4,HY hx,FV]
      repeat' (first|apply cg<;>intro hc<;>simp only[go_sem,hc,hw3])
      all_goals first
        | (have hq : SP z y = true := by grind [Ii, Sg, SP, P1, QG, RX, RW]
           have h5:IY Sg SP t.ports 0 t.ports=false := by rw[hF2,IY,hF3,Au,hq];simp
           have h6:IN Sg SP t.ports=false := h5
           grind[Ii,Sg,SP,P1,QG,RX,RW])
        | (have hq : SP z y = false := by grind [Ii, Sg, SP, P1, QG, RX, RW]
           first|(rw[Au,hq];rfl)|(rw[hq];rfl))
        |skip
    · intro hF3 hlt3
      rw[ht]at hlt3
      simp only[go_sem,ht,hlt3,dF,hw]
      rw[e1,e2,IY,hF3,hp];rfl
  · intro hF2 hlt2
    have hok:IN Sg SP t.ports=true := by simp only[AP]at hF2;exact hF2
    simp only[go_sem,hlt2,dF]
    refine Fe t.ports (λr=>IY (P1 s.network.edges.length) QG t.ports (t.ports.length - r.length) r) (λk=>[(2,.ptr 0 0),(3,.ptr 1 0),(9,.int .i64 k)]) FR rfl ?_ ?_
    · intro k y ys hd hx hF2 h0 h1 hw
      have hk2 := Fq hd
      have hmy := AB hx
      have e1:t.ports.length - (ys.length+1)=k := by omega
      have e2:t.ports.length - ys.length=k+1 := by omega
      have ht:(t.ports.take k).length=k := Jz FR
      simp only[AD,e1,AP]at hF2
      simp only[go_sem,h0,h1,HY hx]
      repeat' (first|apply cg<;>intro hc<;>simp only[go_sem,hc])
      all_goals first
        | (have hp : (P1 s.network.edges.length) y = false := by grind [Ii, Sg, SP, P1, QG, RX, RW]
           have h5:IY (P1 s.network.edges.length) QG t.ports 0 t.ports=false := by rw[hF2,IY,hp];rfl
           have h6:IN (P1 s.network.edges.length) QG t.ports=false := h5
           grind[Ii,Sg,SP,P1,QG,RX,RW])
        |skip
      have hp:(P1 s.network.edges.length) y=true := by grind[Ii,Sg,SP,P1,QG,RX,RW]
      refine Fe (t.ports.take k) (λr=>r.any (λz=>QG z y)) (λi=>[(2,.ptr 0 0),(3,.ptr 1 0),(9,.int .i64 k),(10,.int .i64 y.edge),(11,.int .i64 i)]) FR rfl ?_ ?_
      · intro i z zs hd3 hx3 hF3 h03 OS hw3
        rw[ht]at OS
        have hx4 := JM hx3
        have lA:(i:Int)<(t.ports.length:Int) := by omega
        have hmz := AB hx4
        simp only[go_sem,OS]
        repeat' (first|apply cg<;>intro hc<;>simp only[go_sem,hc,h03,hw3,HY hx4])
        all_goals first
          | (have hq : QG z y = true := by grind [Ii, Sg, SP, P1, QG, RX, RW]
             have h5:IY (P1 s.network.edges.length) QG t.ports 0 t.ports=false := by rw[hF2,IY,hF3,Au,hq];simp
             have h6:IN (P1 s.network.edges.length) QG t.ports=false := h5
             grind[Ii,Sg,SP,P1,QG,RX,RW])
          | (have hq : QG z y = false := by grind [Ii, Sg, SP, P1, QG, RX, RW]
             first|(rw[Au,hq];rfl)|(rw[hq];rfl))
          |skip
      · intro hF3 hlt3
        rw[ht]at hlt3
        simp only[go_sem,ht,hlt3,dF,hw]
        rw[e1,e2,IY,hF3,hp];rfl
    · intro hF2b hlt2
      have hokb:IN (P1 s.network.edges.length) QG t.ports=true := by simp only[AP]at hF2b;exact hF2b
      simp only[go_sem,hlt2,dF]
      refine Fe t.wires (λr=>IY (RX t) RW t.wires (t.wires.length - r.length) r) (λk=>[(3,.ptr 1 0),(12,.int .i64 k)]) FR rfl ?_ ?_
      · intro k y ys hd hx hF2 h0 h1 hw
        have hk2 := Fq hd
        have hmy := AB hx
        have e1:t.wires.length - (ys.length+1)=k := by omega
        have e2:t.wires.length - ys.length=k+1 := by omega
        have ht:(t.wires.take k).length=k := Jz FR
        simp only[AD,e1,AP]at hF2
        simp only[go_sem,h0,h1,HW hx]
        repeat' (first|(apply pK (AFx _ _);simp only[go_sem])|apply cg<;>intro hc<;>simp only[go_sem,hc,h0,HW hx])
        all_goals first
          | (have hp : (RX t) y = false := by grind [Ii, Sg, SP, P1, QG, RX, RW]
             have h5:IY (RX t) RW t.wires 0 t.wires=false := by rw[hF2,IY,hp];rfl
             have h6:IN (RX t) RW t.wires=false := h5
             grind[Ii,Sg,SP,P1,QG,RX,RW])
          |skip
        have hp:(RX t) y=true := by grind[Ii,Sg,SP,P1,QG,RX,RW]
        refine Fe (t.wires.take k) (λr=>r.any (λz=>RW z y)) (λi=>[(3,.ptr 1 0),(12,.int .i64 k),(13,.int .i64 i)]) FR rfl ?_ ?_
        · intro i z zs hd3 hx3 hF3 h03 OS hw3
          rw[ht]at OS
          have hx4 := JM hx3
          have lA:(i:Int)<(t.wires.length:Int) := by omega
          have hmz := AB hx4
          simp only[go_sem,h03,OS,h0,HW hx4,HW hx]
          repeat' (first|apply cg<;>intro hc<;>simp only[go_sem,hc,hw3])
          all_goals first
            | (have hq : RW z y = true := by grind [Ii, Sg, SP, P1, QG, RX, RW]
               have h5:IY (RX t) RW t.wires 0 t.wires=false := by rw[hF2,IY,hF3,Au,hq];simp
               have h6:IN (RX t) RW t.wires=false := h5
               grind[Ii,Sg,SP,P1,QG,RX,RW])
            | (have hq : RW z y = false := by grind [Ii, Sg, SP, P1, QG, RX, RW]
               first|(rw[Au,hq];rfl)|(rw[hq];rfl))
            |skip
        · intro hF3 hlt3
          rw[ht]at hlt3
          simp only[go_sem,ht,hlt3,dF,hw]
          rw[e1,e2,IY,hF3,hp];rfl
      · intro hF2c hlt2
        have hokc:IN (RX t) RW t.wires=true := by simp only[AP]at hF2c;exact hF2c
        simp only[go_sem,hlt2,dF]
        all_goals first
          |rfl
          |(simp only[Ii];rfl)
          |grind[Ii]
          |(simp only[Ii];grind)
          |(simp[Ii, *];done)
          |(simp_all[Ii];done)
          |skip
def AVD(s:Eo)(t:En)(hl:yo s.fields)(hs:FU s.c<=1073741824)(hb:FU t.c<=1073741824):FT AA 169 [.agg s.c,.agg t.c] (.int .i64 (JK s t)) := by
  have hsn := NV hs
  have g1 := gH (NW hsn)
  have g2 := Rl (NX hsn)
  have hbr := NU hb
  have hn := Yw hbr
  have hn2 := Vp (Mf hb)
  refine pC AQJ rfl ?_
  simp only[f169,go_sem]
  repeat' (first|((first|apply pK (AVB _ _ hb)|apply pK (AVA _ _ hl hb));simp only[go_sem])|apply cg<;>intro hc<;>simp only[go_sem,hc])
  all_goals first
    |rfl
    |(simp only[JK];rfl)
    |grind[JK]
    |(simp only[JK];grind)
    |(simp[JK, *];done)
    |(simp_all[JK];done)
    |skip
  refine Fe t.routes (λr=>J1 s r) (λk=>[(2,.ptr 0 0),(3,.ptr 1 0),(6,.int .i64 k)]) FR rfl ?_ ?_
  · intro k y ys hd hx hF h0 h1 hw
    have hby:FU y.c<=1073741824 := by have := tP hbr (AB hx);simpa only[AV.bulk]using this
    simp only[go_sem,h0,h1,It hx]
    repeat' (first|((first|apply pK (ACm _ _ hl (YC hby))|apply pK (AfA _ (YD hby))|apply pK (Ae6 _ g1 g2 _));simp only[go_sem])|apply cg<;>intro hc<;>simp only[go_sem,hc,h0,hw,It hx])
    all_goals first
      |rfl
      |(simp only[JK,J1,lk];rfl)
      |grind[JK,J1,lk]
      |(simp only[JK,J1,lk];grind)
      |(simp[JK,J1,lk, *];done)
      |(simp_all[JK,J1,lk];done)
      |skip
  · intro hF hlt
    simp only[go_sem,hlt,dF]
    refine Fe t.demands (λr=>IY (ly t) k_ t.demands (t.demands.length - r.length) r) (λk=>[(3,.ptr 1 0),(7,.int .i64 k)]) FR rfl ?_ ?_
    · intro k y ys hd hx hF2 h0 h1 hw
      have hk2 := Fq hd
      have hmy := AB hx
      have e1:t.demands.length - (ys.length+1)=k := by omega
      have e2:t.demands.length - ys.length=k+1 := by omega
      have ht:(t.demands.take k).length=k := Jz FR
      simp only[AD,e1,AP]at hF2
      simp only[go_sem,h0,h1,K8 hx]
      repeat' (first|(apply pK (AFu _ _);simp only[go_sem])|apply cg<;>intro hc<;>simp only[go_sem,hc])
      all_goals first
        | (have hp : (ly t) y = false := by grind [JK, ly, k_, J1]
           have h5:IY (ly t) k_ t.demands 0 t.demands=false := by rw[hF2,IY,hp];rfl
           have h6:IN (ly t) k_ t.demands=false := h5
           grind[JK,ly,k_,J1])
        |skip
      have hp:(ly t) y=true := by grind[JK,ly,k_,J1]
      refine Fe (t.demands.take k) (λr=>r.any (λz=>k_ z y)) (λi=>[(3,.ptr 1 0),(7,.int .i64 k),(8,.ptr 2 0),(9,.int .i64 i)]) FR rfl ?_ ?_
      · intro i z zs hd3 hx3 hF3 h03 OS hw3
        rw[ht]at OS
        have hx4 := JM hx3
        have lA:(i:Int)<(t.demands.length:Int) := by omega
        have hmz := AB hx4
        simp only[go_sem,h03,OS,K8 hx4]
        repeat' (first|apply cg<;>intro hc<;>simp only[go_sem,hc,h03,hw3,K8 hx4])
        all_goals first
          | (have hq : k_ z y = true := by grind [JK, ly, k_, J1]
             have h5:IY (ly t) k_ t.demands 0 t.demands=false := by rw[hF2,IY,hF3,Au,hq];simp
             have h6:IN (ly t) k_ t.demands=false := h5
             grind[JK,ly,k_,J1])
          | (have hq : k_ z y = false := by grind [JK, ly, k_, J1]
             first|(rw[Au,hq];rfl)|(rw[hq];rfl))
          |skip
      · intro hF3 hlt3
        rw[ht]at hlt3
        simp only[go_sem,ht,hlt3,dF,hw]
        rw[e1,e2,IY,hF3,hp];rfl
    · intro hF2c hlt2
      have hokc:IN (ly t) k_ t.demands=true := by simp only[AP]at hF2c;exact hF2c
      simp only[go_sem,hlt2,dF]
      all_goals first
        |rfl
        |(simp only[JK];rfl)
        |grind[JK,J1]
        |(simp only[JK,J1];grind)
        |(simp[JK,J1, *];done)
        |(simp_all[JK,J1];done)
        |skip
def rG(l:List ByteArray)(hn:l.length<=1073741824)(hl : ∀ y∈l,y.size<=1073741824):FT AA 164 [.sl none (HB l)] (.bool (IN eM cw l)) := by
  refine pC AQe rfl ?_
  simp only[f164,go_sem]
  refine Fe l (λr=>IY eM cw l (l.length - r.length) r) (λk=>[(0,.sl none (HB l)),(3,.int .i64 k)]) FR rfl ?_ ?_
  · intro k y ys hd hx hF2 h0 h1 hw
    have hk2 := Fq hd
    have hmy := AB hx
    have e1:l.length - (ys.length+1)=k := by omega
    have e2:l.length - ys.length=k+1 := by omega
    have ht:(l.take k).length=k := Jz FR
    simp only[AD,e1,AP]at hF2
    simp only[go_sem,h0,h1,Gk hx]
    repeat' (first|(apply pK (Ur _ (hl y hmy));simp only[go_sem])|apply cg<;>intro hc<;>simp only[go_sem,hc])
    all_goals first
      | (have hp : eM y = false := by grind [eM, cw]
         have h5:IY eM cw l 0 l=false := by rw[hF2,IY,hp];rfl
         have h6:IN eM cw l=false := h5
         grind[eM,cw])
      |skip
    have hp:eM y=true := by grind[eM,cw]
    refine Fe (l.take k) (λr=>r.any (λz=>cw z y)) (λi=>[(0,.sl none (HB l)),(3,.int .i64 k),(5,.int .i64 i)]) FR rfl ?_ ?_
    · intro i z zs hd3 hx3 hF3 h03 OS hw3
      rw[ht]at OS
      have hx4 := JM hx3
      have lA:(i:Int)<(l.length:Int) := by omega
      have hmz := AB hx4
      simp only[go_sem,h03,OS,h0,Gk hx4,Gk hx,FV]
      repeat' (first|apply cg<;>intro hc<;>simp only[go_sem,hc,hw3])
      all_goals first
        | (have hq : cw z y = true := by grind [eM, cw]
           have h5:IY eM cw l 0 l=false := by rw[hF2,IY,hF3,Au,hq];simp
           have h6:IN eM cw l=false := h5
           grind[eM,cw])
        | (have hq : cw z y = false := by grind [eM, cw]
           first|(rw[Au,hq];rfl)|(rw[hq];rfl))
        |skip
    · intro hF3 hlt3
      rw[ht]at hlt3
      simp only[go_sem,ht,hlt3,dF,hw]
      rw[e1,e2,IY,hF3,hp];rfl
  · intro hF2c hlt2
    have hokc:IN eM cw l=true := by simp only[AP]at hF2c;exact hF2c
    simp only[go_sem,hlt2,dF]
    all_goals first
      |rfl
      |(simp only[hokc];rfl)
      |grind[]
      |(simp only[hokc];grind)
      |(simp[hokc, *];done)
      |(simp_all[hokc];done)
      |skip
def jD(n:Em)(k:Int):FT AA 165 [.agg n.c,.int .i64 k] (.bool (Io n k)):=by
 refine pC AQa rfl ?_
 simp only[f165,go_sem]
 repeat' (first|apply cg<;>intro hc<;>simp only[go_sem,hc])
 all_goals first
  |rfl
  |(simp only[Io];rfl)
  |grind[Io]
  |(simp only[Io];grind)
  |(simp[Io, *];done)
  |(simp_all[Io];done)
  |skip
def AF1(n:Em)(hb:FU n.c<=1073741824):FT AA 93 [.agg n.c] (.int .i64 (JE n)) := by
  have b1 := NW hb
  have b2 := NX hb
  have g1 := gH b1
  have g2 := Rl b2
  have g3 := ABQ (TF hb)
  have n1:(IH n).length<=1073741824 := by simpa [IH]using g1
  have n2:(Kk n).length<=1073741824 := by simpa [Kk]using g2
  have n3:∀y∈IH n,y.size<=1073741824 := by
    intro y hy
    obtain⟨x,hx,rfl⟩ := AO.1 hy
    have := ABO b1 hx
    exact cM (by simpa only[AV.bulk]using this)
  have n4:∀y∈Kk n,y.size<=1073741824 := by
    intro y hy
    obtain⟨x,hx,rfl⟩ := AO.1 hy
    have := ABT b2 hx
    exact cY (by simpa only[AV.bulk]using this)
  refine pC AYb rfl ?_
  simp only[f93,go_sem]
  repeat' (first|((first|apply pK (rI n g1 g2)|apply pK (rG _ n1 n3)|apply pK (rG _ n2 n4));simp only[go_sem])|apply cg<;>intro hc<;>simp only[go_sem,hc])
  all_goals first
    |rfl
    |(simp only[JE];rfl)
    |grind[JE]
    |(simp only[JE];grind)
    |(simp[JE, *];done)
    |(simp_all[JE];done)
    |skip
  refine Fe n.nodes (λr=>r.all (TX n)) (λk=>[(1,.ptr 0 0),(7,.int .i64 k)]) FR rfl ?_ ?_
  · intro k y ys hd hx hF h0 h1 hw
    simp only[go_sem,h0,h1,Ln hx]
    repeat' (first|apply cg<;>intro hc<;>simp only[go_sem,hc,hw])
    all_goals first
      | (have hp : TX n y = false := by grind [TX]
         have h5:n.nodes.all (TX n)=false := by rw[hF,Al,hp];rfl
         grind[JE])
      | (have hp : TX n y = true := by grind [TX]
         first|(rw[Al,hp];rfl)|(rw[hp];rfl))
      |skip
  · intro hF hlt
    have k1:n.nodes.all (TX n)=true := by rw[hF];rfl
    simp only[go_sem,hlt,dF]
    refine Fe n.links (λr=>r.all (TZ n)) (λk=>[(1,.ptr 0 0),(9,.int .i64 k)]) FR rfl ?_ ?_
    · intro k y ys hd hx hF h0 h1 hw
      simp only[go_sem,h0,h1,Su hx]
      repeat' (first|(apply pK (jD _ _);simp only[go_sem])|apply cg<;>intro hc<;>simp only[go_sem,hc,hw])
      all_goals first
        | (have hp : TZ n y = false := by grind [TZ]
           have h5:n.links.all (TZ n)=false := by rw[hF,Al,hp];rfl
           grind[JE])
        | (have hp : TZ n y = true := by grind [TZ]
           first|(rw[Al,hp];rfl)|(rw[hp];rfl))
        |skip
    · intro hF2 hlt2
      have k2:n.links.all (TZ n)=true := by rw[hF2];rfl
      simp only[go_sem,hlt2,dF]
      refine Fe n.edges (λr=>r.all (λx=>Io n x.node)) (λk=>[(1,.ptr 0 0),(11,.int .i64 k)]) FR rfl ?_ ?_
      · intro k y ys hd hx hF h0 h1 hw
        simp only[go_sem,h0,h1,Lo hx]
        repeat' (first|(apply pK (jD _ _);simp only[go_sem])|apply cg<;>intro hc<;>simp only[go_sem,hc,hw])
        all_goals first
          | (have hp : Io n y.node = false := by grind
             have h5:n.edges.all (λx=>Io n x.node)=false := by rw[hF,Al,hp];rfl
             grind[JE])
          | (have hp : Io n y.node = true := by grind
             first|(rw[Al,hp];rfl)|(rw[hp];rfl))
          |skip
      · intro hF3 hlt3
        have k3:n.edges.all (λx=>Io n x.node)=true := by rw[hF3];rfl
        simp only[go_sem,hlt3,dF]
        all_goals first
          |rfl
          |(simp only[JE];rfl)
          |grind[JE]
          |(simp only[JE];grind)
          |(simp[JE, *];done)
          |(simp_all[JE];done)
          |skip
def AU7(n:Em)(a b c:Int):FT AA 90 [.agg n.c,.int .i64 a,.int .i64 b,.int .i64 c] (.bool (ng n a b c)):=by
 refine pC AYn rfl ?_
 simp only[f90,go_sem]
 repeat' (first|apply cg<;>intro hc<;>simp only[go_sem,hc])
 all_goals first
  |rfl
  |(simp only[ng];rfl)
  |grind[ng]
  |(simp only[ng];grind)
  |(simp[ng, *];done)
  |(simp_all[ng];done)
  |skip
def AFt(f:Fld):FT AA 167 [.agg f.c] (.bool (Sh f)) := by
  refine pC AQS rfl ?_
  simp only[f167,go_sem]
  repeat' (first|apply cg<;>intro hc<;>simp only[go_sem,hc])
  all_goals first
    |grind[Sh]
    | (simp only [decide_eq_true_eq] at *
       refine⟨dc, ?_⟩
       rw[Int.tmod_eq_emod_of_nonneg FR,OY FR FR]
       grind[Sh])
def ACl(a b:Fld):FT AA 168 [.agg a.c,.agg b.c] (.bool (Ky a b)):=by
 refine pC AQO rfl ?_
 simp only[f168,go_sem]
 repeat' (first|apply cg<;>intro hc<;>simp only[go_sem,hc])
 all_goals first
  |rfl
  |(simp only[Ky,i64];rfl)
  |grind[Ky,i64]
  |(simp only[Ky,i64];grind)
  |(simp[Ky,i64, *];done)
  |(simp_all[Ky,i64];done)
  |skip
def AfD(l:List Fld)(hb:FU (GL l)<=1073741824):FT AA 94 [.sl none (GL l)] (.int .i64 (PB l)) := by
  have hn := Ph hb
  refine pC AYW rfl ?_
  simp only[f94,go_sem]
  repeat' (first|apply cg<;>intro hc<;>simp only[go_sem,hc])
  all_goals first
    |rfl
    |(simp only[PB];rfl)
    |grind[PB]
    |(simp only[PB];grind)
    |(simp[PB, *];done)
    |(simp_all[PB];done)
    |skip
  refine Fe l (λr=>Ju l (l.length - r.length) r) (λk=>[(0,.sl none (GL l)),(3,.int .i64 k)]) FR rfl ?_ ?_
  · intro k y ys hd hx hF2 h0 h1 hw
    have hk2 := Fq hd
    have e1:l.length - (ys.length+1)=k := by omega
    have e2:l.length - ys.length=k+1 := by omega
    have ht:(l.take k).length=k := Jz FR
    have hby:FU y.c<=1073741824 := by have := AFH hb (AB hx);simpa only[AV.bulk]using this
    simp only[AD,e1,AP]at hF2
    simp only[go_sem,h0,h1,II hx]
    repeat' (first|(apply pK (Ur _ (ko hby));simp only[go_sem])|apply cg<;>intro hc<;>simp only[go_sem,hc,h0,II hx,FV])
    all_goals first
      |rfl
      |(simp only[PB];rfl)
      |grind[PB,Ju,GI]
      |(simp only[PB];grind)
      |(simp[PB,Ju,GI, *];done)
      |(simp_all[PB,Ju,GI];done)
      |skip
    refine Fe (l.take k) (λr=>r.any (λz=>decide (z.name=y.name))) (λi=>[(0,.sl none (GL l)),(3,.int .i64 k),(5,.int .i64 i)]) FR rfl ?_ ?_
    · intro i z zs hd3 hx3 hF3 h03 OS hw3
      rw[ht]at OS
      have hx4 := JM hx3
      have lA:(i:Int)<(l.length:Int) := by omega
      simp only[go_sem,h03,OS,h0,II hx4,II hx,FV]
      repeat' (first|apply cg<;>intro hc<;>simp only[go_sem,hc,hw3])
      all_goals first
        | (have h5 : (l.take k).any (fun z => decide (z.name = y.name)) = true := by rw [hF3, Au, hc]; rfl
           grind[PB,Ju,GI])
        |(first|(rw[Au,hc];rfl)|(rw[hc];rfl))
        |skip
    · intro hF3 hlt3
      rw[ht]at hlt3
      have k1:(l.take k).any (λz=>decide (z.name=y.name))=false := by rw[hF3];rfl
      simp only[go_sem,ht,hlt3,dF,h0,II hx]
      repeat' (first|(apply pK (AFt _);simp only[go_sem])|apply cg<;>intro hc<;>simp only[go_sem,hc])
      all_goals first
        |rfl
        |(simp only[PB];rfl)
        |grind[PB,Ju,GI]
        |(simp only[PB];grind)
        |(simp[PB,Ju,GI, *];done)
        |(simp_all[PB,Ju,GI];done)
        |skip
      refine Fe (l.take k) (λr=>r.any (λz=>Ky z y)) (λi=>[(0,.sl none (GL l)),(3,.int .i64 k),(7,.int .i64 i)]) FR rfl ?_ ?_
      · intro i z zs hd4 hx5 hF4 h04 h15 hw4
        rw[ht]at h15
        have hx6 := JM hx5
        have lA:(i:Int)<(l.length:Int) := by omega
        simp only[go_sem,h04,h15,h0,II hx6,II hx]
        repeat' (first|(apply pK (ACl _ _);simp only[go_sem])|apply cg<;>intro hc<;>simp only[go_sem,hc,hw4])
        all_goals first
          | (have h5 : (l.take k).any (fun z => Ky z y) = true := by rw [hF4, Au, hc]; rfl
             grind[PB,Ju,GI])
          |(first|(rw[Au,hc];rfl)|(rw[hc];rfl))
          |skip
      · intro hF4 hlt4
        rw[ht]at hlt4
        have k2:(l.take k).any (λz=>Ky z y)=false := by rw[hF4];rfl
        simp only[go_sem,ht,hlt4,dF,hw]
        rw[e1,e2]
        grind[Ju,GI]
  · intro hF2 hlt2
    simp only[go_sem,hlt2,dF]
    all_goals first
      |rfl
      |(simp only[PB];rfl)
      |grind[PB,Ju]
      |(simp only[PB,Ju];grind)
      |(simp[PB,Ju, *];done)
      |(simp_all[PB,Ju];done)
      |skip
def Head.l(h:Ep):List Int:=[h.h0,h.h1,h.h2,h.h3,h.h4,h.h5,h.h6,h.h7,h.h8,h.h9]
def ADu(h:Ep):h.c=h.l.map (.int .i64):=rfl
def FZ(h:Ep):Bool:=h.l.all MV
def xd(h:Ep):FT AA 54 [.agg h.c] (.bool (FZ h)):=by
 refine pC AaN rfl ?_
 simp only[f54,go_sem]
 refine Fe h.l (λr=>r.all MV) (λk=>[(1,.ptr 0 0),(3,.int .i64 k)]) (by simp[Head.l]) rfl ?_ ?_
 ·intro k y ys hd hx hF h0 h1 hw
  have h2:(k:Int)<10:=h1
  have h3:(k:Int)<((10:Nat):Int):=h1
  have hg:h.c[k]? =some (.int .i64 y):=by rw[ADu,List.getElem?_map,hx];rfl
  simp only[go_sem,h0,h2,h3,hg]
  repeat' (first|apply cg<;>intro hc<;>simp only[go_sem,hc,h0,h3,hg,hw])
  all_goals first
   |rfl
   |(simp only[FZ];rfl)
   |grind[FZ,MV]
   |(simp only[FZ,MV];grind)
   |(simp[FZ,MV, *];done)
   |(simp_all[FZ,MV];done)
   |skip
 ·intro hF hlt
  have h2:¬((h.l.length:Nat):Int)<10:=by simp[Head.l]
  simp only[go_sem,h2,dF]
  rw[FZ,hF];rfl
@[go_sem] def Ag4:((0:Int)<((10:Nat):Int))=True:=dc
@[go_sem] def Ag3:((9:Int)<((10:Nat):Int))=True:=dc
def Ub(H:cj)(x y:Option (List AV)):(H++[x]).set H.length y=H++[y]:=sm
attribute [go_sem] Ub List.getElem?_concat_length
def zw(n:Nat)(Q:Exit->Kt)(e:Fs)(H2:cj):Prop :=
 ∃st av,H2[n]? =some (some (G8 st av))/\((st=0/\Q .normal e (H2.set n none))\/(st = -2/\Q .ret e (H2.set n none)) \/ ∃k:Nat,st=(k:Int)+1/\Q (.exit k) e (H2.set n none))
def Yd{P:Program}{n tag:Nat}{h:Hint}{g:Operand}{rs:Array Tmp}{assign body:Code}{Q:Exit->Kt}{e:Fs}{H:cj}{f:FuncId}{first captured:List AV}
  (hg:G6 P none e g = .fn (.func f) first captured)
  (hc:Fa P f (first.map AV.borrow++[.yld H.length ⟨tag,rs,assign,body⟩]++captured.map AV.borrow) (H++[some (G8 0 (Hj n e))]) (λ_ H2=>zw H.length Q e H2)):rfK P n h none g rs assign body Q e H :=
 ⟨trivial,tag,f,first,captured,hg,hc⟩
def IV(t:En)(n:Int):Int:=if HZ t n=true then O_ t n else -1
def Ik(e:Int):Nat->List Port->Int
 |_,[] => -1
 |i,x::r=>if 0<=e/\x.edge=e then(i:Int)else Ik e (i+1) r
def IS(t:En)(e:Int):Int:=Ik e 0 t.ports
def JQ(e:Int):Nat->List Port->Int
 |_,[] => -1
 |i,x::r=>if x.edge ≠ -1/\x.edge=e then(i:Int)else JQ e (i+1) r
def Hz(t:En)(e:Int):Int:=JQ e 0 t.ports
def Kj(p:Int)(h:Ep):Ep×Bool:=if p<0 then(Head.z,false)else({ { h with h0:=p }with h9:=0 },true)
def Rt(e:Int)(h:Ep):Ep×Bool:=if e<0 then(Head.z,false)else({ h with h0:=i64 (10000+e) },true)
def jA(n lo hi:Int):FT AA 42 [.int .i64 n,.int .i64 lo,.int .i64 hi] (.bool (decide (lo<=n)&&decide (n<=hi))):=by
 refine pC Aa6 rfl ?_
 simp only[f42,go_sem]
 repeat' (first|apply cg<;>intro hc<;>simp only[go_sem,hc])
 all_goals grind
def ACr(t:En)(n:Int):FT AA 14 [.agg t.c,.int .i64 n] (.int .i64 (IV t n)):=by
 refine FT.fit AHF.c λhf=>?_
 have hl:=NT (P4 hf)
 have hw:IntKind.i64.wrap ((t.ports.length:Int) - 1)=(t.ports.length:Int) - 1:=OY FR FR
 refine pC AHF rfl ?_
 cases hp:HZ t n with
 | false =>
  have hq:(decide (0<=n)&&decide (n<=(t.ports.length:Int) - 1))=false:=by unfold HZ at hp;grind
  simp only[f14,go_sem]
  repeat' (first|(apply pK (jA _ _ _);simp only[go_sem,hw,hq])|apply cg<;>intro hc<;>simp only[go_sem,hc,hw,hq])
  all_goals first
   |rfl
   |(simp only[IV,hp];rfl)
   |grind[IV]
   |(simp only[IV,hp];grind)
   |(simp[IV,hp, *];done)
   |(simp_all[IV,hp];done)
   |skip
 | true =>
  obtain⟨h1,h2,p,h3,h4,h5⟩:=VC hp
  have hq:(decide (0<=n)&&decide (n<=(t.ports.length:Int) - 1))=true:=by grind
  simp only[f14,go_sem]
  repeat' (first|(apply pK (jA _ _ _);simp only[go_sem,hw,h1])|apply cg<;>intro hc<;>simp only[go_sem,hc,h1,h5])
  all_goals first
   |rfl
   |(simp only[IV,hp];rfl)
   |grind[IV]
   |(simp only[IV,hp];grind)
   |(simp[IV,hp, *];done)
   |(simp_all[IV,hp];done)
   |skip
def jE(t:En)(e:Int):FT AA 171 [.agg t.c,.int .i64 e] (.int .i64 (IS t e)):=by
 refine FT.fit ABt.c λhf=>?_
 have hl:=NT (P4 hf)
 refine pC ABt rfl ?_
 simp only[f171,go_sem]
 refine Fe t.ports (λr=>Ik e (t.ports.length - r.length) r) (λk=>[(1,.int .i64 e),(2,.ptr 0 0),(5,.int .i64 k)]) hl rfl ?_ ?_
 ·intro k y ys hd hx hF h0 h1 hw
  have hk2:=Fq hd
  have e1:t.ports.length - (ys.length+1)=k:=FR
  have e2:t.ports.length - ys.length=k+1:=FR
  simp only[AD,e1,AP]at hF
  simp only[go_sem,h1]
  repeat' (first|apply cg<;>intro hc<;>simp only[go_sem,hc,h0,hw,HY hx,e1,e2])
  all_goals first
   |rfl
   |(simp only[IS,Ik];rfl)
   |grind[IS,Ik]
   |(simp only[IS,Ik];grind)
   |(simp[IS,Ik, *];done)
   |(simp_all[IS,Ik];done)
   |skip
 ·intro hF hlt
  simp only[go_sem,hlt,dF]
  all_goals first
   |rfl
   |(simp only[IS];rfl)
   |grind[IS,Ik]
   |(simp only[IS,Ik];grind)
   |(simp[IS,Ik, *];done)
   |(simp_all[IS,Ik];done)
   |skip
def AVH(t:En)(h:Ep):FT AA 48 [.agg t.c,.agg h.c] (.tup [.agg (Rt (IV t h.h0) h).1.c,.bool (Rt (IV t h.h0) h).2]):=by
 refine pB Aai rfl ?_
 simp only[f48,go_sem]
 repeat' (first|(apply pK (ACr _ _);simp only[go_sem])|apply cg<;>intro hc<;>simp only[go_sem,hc])
 all_goals first
  |rfl
  |(simp only[Rt,i64];rfl)
  |grind[Rt,i64]
  |(simp only[Rt,i64];grind)
  |(simp[Rt,i64, *];done)
  |(simp_all[Rt,i64];done)
  |skip
def ACd(t:En)(H:cj):Fa AA 77 [.agg t.c] H (λv H'=>v = .fn (.func 138) [] [.ptr H.length 0]/\H'=H++[some t.c]):=by
 refine aC AZS rfl ?_
 simp only[f77,go_sem]
def oP (t:En) (hl:t.ports.length<=1073741824) (o p:Nat) (L:LoopRec) (H0:cj) (Inv:Nat->cj->Prop) (Q:cj->Prop)
  (hp:∀k H,Inv k H->H[p]? =some (some t.c)) (hg:∀k H x,Inv k H->Inv k (H++[x]))
  (round:∀k x H,t.ports[k]? =some x->x.edge ≠ -1->Inv k H->NR AA o L [.int .i64 k,.int .i64 x.edge] H (λv H'=>(v = .bool true/\Inv (k+1) H')\/(v = .bool false/\Q H')))
  (skip:∀k x H,t.ports[k]? =some x->x.edge = -1->Inv k H->Inv (k+1) H)
  (fin:∀H,Inv t.ports.length H->Q H) (h0:Inv 0 H0):Fa AA 138 [.yld o L,.ptr p 0] H0 (λ_ H'=>Q H'):=by
 refine aC ASD rfl ?_
 have hp0:=hp 0 H0 h0
 simp only[f138,go_sem,hp0]
 refine Ku (σ:=Nat×cj) (λs=>[(0,.yld o L),(6,.sl none (J8 t.ports)),(7,.int .i64 t.ports.length),(8,.int .i64 s.1)]) (λs=>s.2) (λs=>s.1<=t.ports.length/\Inv s.1 s.2) (λs=>t.ports.length - s.1) (0,H0) ⟨BU _,h0⟩ rfl rfl ?_
 rintro ⟨k,H⟩ ⟨hk,hI⟩
 by_cases hlt:k<t.ports.length
 ·obtain⟨x,hx⟩:∃x,t.ports[k]? =some x:=⟨_,AH hlt⟩
  have h0:(0:Int)<=(k:Int):=FR
  have h1:(k:Int)<(t.ports.length:Int):=FR
  have hw:=Mg (k:=k) FR
  simp only[go_sem,h0,h1,HY hx,dT]
  repeat' (first|apply cg<;>intro hc<;>simp only[go_sem,hc,hw])
  ·refine N'.intro (round k x _ hx (by simpa using hc) (hg _ _ _ hI)) λv H' hr=>?_
   rcases hr with⟨rfl,hi⟩|⟨rfl,hq⟩
   ·simp only[go_sem,hw,Bool.not_true]
    exact⟨(k+1,H'),⟨FR,hi⟩,FR,rfl,rfl⟩
   ·simp only[go_sem,Aw]
    exact hq
  ·exact⟨(k+1,H++[some x.c]),⟨FR,hg _ _ _ (skip k x H hx (by simpa using hc) hI)⟩,FR,rfl,rfl⟩
 ·have h1:¬(k:Int)<(t.ports.length:Int):=FR
  have hkl:k=t.ports.length:=FR
  simp only[go_sem,h1,dF]
  exact fin H (hkl▸hI)
def AVF(t:En)(hl:t.ports.length<=1073741824)(e:Int):FT AA 39 [.agg t.c,.int .i64 e] (.int .i64 (Hz t e)):=by
 refine pC AbJ rfl ?_
 simp only[f39,go_sem]
 refine Fu.intro (ACd t _) λv H' hr=>?_
 obtain⟨rfl,rfl⟩:=hr
 simp only[go_sem]
 have step:∀(k:Nat) (x:Port),t.ports[k]? =some x->JQ e k (t.ports.drop k)=if x.edge ≠ -1/\x.edge=e then(k:Int)else JQ e (k+1) (t.ports.drop (k+1)):=λk x hx=>by
  obtain⟨hlt,rfl⟩:=AC.1 hx
  rw[BG hlt,JQ]
 refine Yd (tag:=39) rfl (Fa.mono (oP t hl 4 3 _ _
  (λk H => ∃g,H=some t.c::some [.int .i64 e]::some [.int .i64 0]::some t.c::some (G8 0 (Hj 15 [(3,.ptr 1 0),(4,.ptr 2 0),(8,.fn (.func 138) [] [.ptr 3 0])]))::g/\Hz t e=JQ e k (t.ports.drop k))
  (λH=>(∃g,H=some t.c::some [.int .i64 e]::some [.int .i64 0]::some t.c::some (G8 0 (Hj 15 [(3,.ptr 1 0),(4,.ptr 2 0),(8,.fn (.func 138) [] [.ptr 3 0])]))::g/\Hz t e = -1)
   \/ ∃g r,H=some t.c::some [.int .i64 e]::some [.int .i64 r]::some t.c::some (G8 (-2) (Hj 15 [(3,.ptr 1 0),(4,.ptr 2 0),(8,.fn (.func 138) [] [.ptr 3 0])]))::g/\Hz t e=r)
  ?_ ?_ ?_ ?_ ?_ ?_) λv H2 hq=>?_)
 ·rintro k H ⟨g,rfl,_⟩;rfl
 ·rintro k H x ⟨g,rfl,h⟩;exact⟨g++[x],rfl,h⟩
 ·rintro k x H hx hne ⟨g,rfl,h⟩
  refine LU (h:=h39) (n:=15) mixed rfl ⟨kr,kr⟩ dc _ _ _ _ rfl rfl rfl ?_
  show JF _ _ _ _ _ _ [(10,.int .i64 x.edge),(9,.int .i64 k),(0,.undef),(1,.undef),(2,.undef),(3,.ptr 1 0),(4,.ptr 2 0),(5,.undef),(6,.undef),(7,.undef),(8,.fn (.func 138) [] [.ptr 3 0]),(9,.undef),(10,.undef),(11,.undef),(12,.undef),(13,.undef),(14,.undef)] _
  simp only[go_sem]
  refine⟨_,rfl,Tl _ _ _ (λhc=>?_) (λhc=>?_)⟩
  ·simp only[go_sem,hc]
   exact⟨_,rfl,.inr (.inr ⟨g,(k:Int),rfl,by rw[h,step k x hx,iP ⟨hne,by simpa using hc⟩]⟩)⟩
  ·simp only[go_sem,hc]
   first
    |exact⟨_,rfl,g,rfl,by rw[h,step k x hx,iN (λc=>by rw[c.2]at hc;simp at hc)]⟩
    |exact⟨_,rfl,.inl ⟨g,rfl,by rw[h,step k x hx,iN (λc=>by rw[c.2]at hc;simp at hc)]⟩⟩
 ·rintro k x H hx hne ⟨g,rfl,h⟩
  exact⟨g,rfl,by rw[h,step k x hx,iN (λc=>c.1 hne)]⟩
 ·rintro H ⟨g,rfl,h⟩
  exact .inl ⟨g,rfl,by rw[h,List.drop_length];rfl⟩
 ·exact⟨[],rfl,rfl⟩
 ·rcases hq with⟨g,rfl,h⟩|⟨g,r,rfl,h⟩
  ·refine⟨0,_,rfl,.inl ⟨rfl, ?_⟩⟩
   show bL 0 _ .normal _ (some t.c::some [.int .i64 e]::some [.int .i64 0]::some t.c::none::g)
   simp only[go_sem,h]
   all_goals skip
  ·refine⟨-2,_,rfl,.inr (.inl ⟨rfl, ?_⟩)⟩
   show bL 0 _ .ret _ (some t.c::some [.int .i64 e]::some [.int .i64 r]::some t.c::none::g)
   simp only[go_sem,h]
   all_goals skip
def bG(t:En)(hl:t.ports.length<=1073741824)(h:Ep):FT AA 12 [.agg t.c,.agg h.c] (.tup [.agg (Kj (Hz t (i64 (h.h0 - 10000))) h).1.c,.bool (Kj (Hz t (i64 (h.h0 - 10000))) h).2]):=by
 refine pB AcQ rfl ?_
 simp only[f12,go_sem]
 repeat' (first|(apply pK (AVF _ hl _);simp only[go_sem])|apply cg<;>intro hc<;>simp only[go_sem,hc])
 all_goals first
  |rfl
  |(simp only[Kj,i64];rfl)
  |grind[Kj,i64]
  |(simp only[Kj,i64];grind)
  |(simp[Kj,i64, *];done)
  |(simp_all[Kj,i64];done)
  |skip
def mY{α:Type}{p:α->Bool}{q:α->α->Bool}{l:List α}(h:IN p q l=true): ∀ (k:Nat) (x:α),l[k]? =some x->p x=true /\ ∀ (j:Nat) (y:α),j<k->l[j]? =some y->q y x=false:=by
 have key:∀(n i:Nat),l.length - i=n->IY p q l i (l.drop i)=true -> ∀(k:Nat) (x:α),i<=k->l[k]? =some x->p x=true /\ ∀(j:Nat) (y:α),j<k->l[j]? =some y->q y x=false:=by
  intro n
  induction n with
  |zero =>
   intro i hi _ k x hk hx
   have:=(AC.1 hx).1
   omega
  | succ n ih =>
   intro i hi ho k x hk hx
   have hlt:i<l.length:=FR
   rw[BG hlt,IY]at ho
   simp only[AM,BS]at ho
   obtain⟨⟨h1,h2⟩,h3⟩:=ho
   rcases Nat.eq_or_lt_of_le hk with rfl|hk
   ·rw[AH hlt]at hx
    cases hx
    refine⟨h1,λj y hj hy=>?_⟩
    rw[List.any_eq_false]at h2
    have hm:y∈l.take i:=AB (i:=j) (by rw[Aj,iP hj];exact hy)
    simpa using h2 y hm
   ·exact ih (i+1) FR h3 k x hk hx
 intro k x hx
 exact key l.length 0 FR (by rw[BC];exact h) k x (BU _) hx
section
variable{s:Eo}{t:En}{h:Ep}
end
end Go.AI
