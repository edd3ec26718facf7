/- What the functions of the layers field,graph,token,syntax compute,in plain Lean. -/
import Derived.Test.YtebladleneahcaaGreatDoorQd
import Derived.Test.YtebladleneahcaaGreatDoorMf
import Derived.Test.YtebladleneahcaaGreatDoorMe
set_option linter.unusedSimpArgs false
set_option linter.unusedVariables false
set_option linter.defProp false
set_option maxHeartbeats 8000000
open Go.Proofs.Tryz
open Go.AI renaming Sizes->Ei,Pred->Ej,Policy->Ek,Regex->El,Stage->Em,Network->En,Tenant->Eo,Setup->Ep,Head->Er
open Bool renaming and_eq_true->AQ,false_or->Bp,not_eq_false'->CZ,not_eq_true'->BU,not_false->Aw,true_or->BV
open Int renaming lt_irrefl->AX
open List renaming all_cons->Al,all_nil->A6,any_cons->As,append_assoc->AE,append_nil->Ag,drop_eq_getElem_cons->BL,drop_zero->BN,getElem?_eq_getElem->AL,getElem?_eq_some_iff->AC,getElem?_take->Aj,length_append->AF,length_cons->AD,length_map->Aq,map_cons->AR,mem_cons->AW,mem_map->AN,mem_of_find?_eq_some->DJ,mem_of_getElem?->AB,nil_append->AO
open Nat renaming le_trans->AK,sub_self->AP,sub_zero->Bo,zero_le->BW
open Go.Proofs.Tryz renaming prog->AA
namespace Go.AI
def i64(n:Int):Int:=IntKind.i64.wrap n
def bz(c:UInt8):Int:=c.toNat
def loB(c:UInt8):Bool:=decide (97<=bz c)&&decide (bz c<=122)
def dgB(c:UInt8):Bool:=decide (48<=bz c)&&decide (bz c<=57)
def wdB(c:UInt8):Bool:=loB c||dgB c||bz c==95
def tW:Nat->List UInt8->Bool
 | _,[]=>true
 | i,c::l=>(loB c||((dgB c||bz c==95)&&i !=0))&&tW (i+1) l
def nmB(s:ByteArray):Bool:=tW 0 s.data.toList&&(decide (1<=(s.size:Int))&&decide ((s.size:Int)<=24))
def MP:List UInt8->Nat
 | []=>0
 | c::l=>if wdB c then MP l+1 else 0
def Th(s:ByteArray):Bool:=HI.any (λy=>decide (y=s))
def tnB(s:ByteArray):Bool :=
 (decide (1<=(s.size:Int))&&decide ((s.size:Int)<=24))&&((match s.data.toList with|c::_=>loB c|[]=>false)&&(((MP s.data.toList:Int)==(s.size:Int)) && !Th s))
def GI:ByteArray:=⟨#[112,111,114,116]⟩
def U5(s:ByteArray):Bool:=tnB s||decide (s=GI)
def Qv(a b:Int):Int:=if a<b then b else a
def Sizes.more(a b:Ei):Ei:=⟨i64 (a.nodes+b.nodes),Qv a.depth (i64 (b.depth+1))⟩
mutual
def ly:Ej->Ei
 | ⟨_,_,_,_,args⟩=>VO args ⟨1,1⟩
def VO:List Ej->Ei->Ei
 | [],o=>o
 | x::l,o=>VO l (o.more (ly x))
end
mutual
def lz:Ek->Ei
 | ⟨k,p,_,_,args⟩=>Pu args (if k=1 then Sizes.more ⟨1,1⟩ (ly p) else ⟨1,1⟩)
def Pu:List Ek->Ei->Ei
 | [],o=>o
 | x::l,o=>Pu l (o.more (lz x))
end
mutual
def szR:El->Ei
 | ⟨_,_,args⟩=>Z5 args ⟨1,1⟩
def Z5:List El->Ei->Ei
 | [],o=>o
 | x::l,o=>Z5 l (o.more (szR x))
end
def AAD(x:Ej):ly x=VO x.args ⟨1,1⟩:=by cases x;rw [ly]
def Y0(x:Ej)(l:List Ej)(o:Ei):VO (x::l) o=VO l (o.more (ly x)):=by rw [VO]
def de(o:Ei):VO [] o=o:=by rw [VO]
def Z6(x:Ek):lz x=Pu x.args (if x.kind=1 then Sizes.more ⟨1,1⟩ (ly x.pred) else ⟨1,1⟩):=by cases x;rw [lz]
def Mk(x:Ek)(l:List Ek)(o:Ei):Pu (x::l) o=Pu l (o.more (lz x)):=by rw [Pu]
def OS(o:Ei):Pu [] o=o:=by rw [Pu]
def AIT(x:El):szR x=Z5 x.args ⟨1,1⟩:=by cases x;rw [szR]
def sR(x:El)(l:List El)(o:Ei):Z5 (x::l) o=Z5 l (o.more (szR x)):=by rw [Z5]
def AAC(o:Ei):Z5 [] o=o:=by rw [Z5]
mutual
def rM:Ej->Ej->Bool
 | ⟨k,f,n,m,xs⟩,⟨k',f',n',m',ys⟩=>(k==k'&&(decide (f=f')&&(n==n'&&(m==m'&&xs.length==ys.length))))&&UT xs ys
def UT:List Ej->List Ej->Bool
 | [],_=>true
 | x::l,y::r=>rM x y&&UT l r
 | _::_,[]=>false
end
mutual
def eqO:Ek->Ek->Bool
 | ⟨k,p,f,n,xs⟩,⟨k',p',f',n',ys⟩=>rM p p'&&((k==k'&&(decide (f=f')&&(n==n'&&xs.length==ys.length)))&&AZo xs ys)
def AZo:List Ek->List Ek->Bool
 | [],_=>true
 | x::l,y::r=>eqO x y&&AZo l r
 | _::_,[]=>false
end
theorem Io(x y:Ej):rM x y=((x.kind==y.kind&&(decide (x.field=y.field)&&(x.n==y.n&&(x.m==y.m&&x.args.length==y.args.length))))&&UT x.args y.args):=by cases x;cases y;rw [rM]
theorem Jl(x y:Ej)(l r:List Ej):UT (x::l) (y::r)=(rM x y&&UT l r):=by rw [UT]
theorem M9(l:List Ej):UT [] l=true:=by rw [UT]
def Om:List ByteArray->List ByteArray->Bool
 | [],_=>true
 | x::l,y::r=>decide (x=y)&&Om l r
 | _::_,[]=>false
theorem K1(x y:ByteArray)(l r:List ByteArray):Om (x::l) (y::r)=(decide (x=y)&&Om l r):=by rw [Om]
theorem Ni(l:List ByteArray):Om [] l=true:=by rw [Om]
def dQ(x y:Stp):Bool :=
 (x.kind==y.kind&&(decide (x.var=y.var)&&(decide (x.field=y.field)&&(x.n==y.n&&(x.m==y.m&&x.key.length==y.key.length)))))&&Om x.key y.key
def RO(n:Int):Bool:=decide (0<=n)&&decide (n<=65535)
def Kz(x:Ej):Bool:=decide (x.field=⟨#[]⟩)&&(x.n==0&&x.m==0)
def S4(x:Ej):Bool×Nat :=
 if x.kind=1\/x.kind=2 then (Kz x,0)
 else if x.kind=3 then (U5 x.field&&(RO x.n&&x.m==0),0)
 else if x.kind=4 then (U5 x.field&&(RO x.n&&(decide (0<=x.m)&&decide (x.m<=16))),0)
 else if x.kind=5 then (U5 x.field&&(decide (0<=x.n)&&(decide (x.n<=x.m)&&decide (x.m<=65535))),0)
 else if x.kind=6 then (Kz x,1)
 else if x.kind=7\/x.kind=8 then (Kz x,2)
 else if x.kind=9 then (decide (x.field=⟨#[]⟩)&&(decide (0<=x.n)&&(decide (x.n<x.m)&&decide (x.m<=1073741824))),0)
 else (false,0)
mutual
def NL:Ej->Bool
 | ⟨k,f,n,m,xs⟩=>((S4 ⟨k,f,n,m,xs⟩).1&&xs.length==(S4 ⟨k,f,n,m,xs⟩).2)&&WV xs
def WV:List Ej->Bool
 | []=>true
 | x::l=>NL x&&WV l
end
theorem Hl(x:Ej):NL x=(((S4 x).1&&x.args.length==(S4 x).2)&&WV x.args):=by cases x;rw [NL]
def Ka(x:Ej)(l:List Ej):WV (x::l)=(NL x&&WV l):=by rw [WV]
def M2:WV []=true:=by rw [WV]
abbrev Pn:Ej:=Pred.z
def Vq(x:Ek):Bool×Nat :=
 if x.kind=1 then (NL x.pred&&(decide (x.field=⟨#[]⟩)&&x.n==0),0)
 else if x.kind=2 then (U5 x.field&&(rM x.pred Pn&&RO x.n),0)
 else if x.kind=3\/x.kind=4 then (rM x.pred Pn&&(decide (x.field=⟨#[]⟩)&&x.n==0),2)
 else if x.kind=5 then (rM x.pred Pn&&(decide (x.field=⟨#[]⟩)&&x.n==0),1)
 else (false,0)
mutual
def R0:Ek->Bool
 | ⟨k,p,f,n,xs⟩=>((Vq ⟨k,p,f,n,xs⟩).1&&xs.length==(Vq ⟨k,p,f,n,xs⟩).2)&&WW xs
def WW:List Ek->Bool
 | []=>true
 | x::l=>R0 x&&WW l
end
theorem IQ(x:Ek):R0 x=(((Vq x).1&&x.args.length==(Vq x).2)&&WW x.args):=by cases x;rw [R0]
def Kb(x:Ek)(l:List Ek):WW (x::l)=(R0 x&&WW l):=by rw [WW]
def M3:WW []=true:=by rw [WW]
def zS(x:El):Bool×Nat :=
 if x.kind=1\/x.kind=3 then (decide (x.node=⟨#[]⟩),0)
 else if x.kind=2 then (tnB x.node,0)
 else if x.kind=4\/x.kind=5 then (decide (x.node=⟨#[]⟩),2)
 else if x.kind=6 then (decide (x.node=⟨#[]⟩),1)
 else (false,0)
mutual
def fmR:El->Bool
 | ⟨k,n,xs⟩=>((zS ⟨k,n,xs⟩).1&&xs.length==(zS ⟨k,n,xs⟩).2)&&bG xs
def bG:List El->Bool
 | []=>true
 | x::l=>fmR x&&bG l
end
theorem Q5(x:El):fmR x=(((zS x).1&&x.args.length==(zS x).2)&&bG x.args):=by cases x;rw [fmR]
def Za(x:El)(l:List El):bG (x::l)=(fmR x&&bG l):=by rw [bG]
def ACY:bG []=true:=by rw [bG]
def Qj(z:Ei):Int:=if z.nodes>200\/z.depth>20 then 2 else 0
def rI(z:Ei)(b:Bool):Int:=if Qj z=0 then (if b then 0 else 1) else Qj z
def ckP(x:Ej):Int:=rI (ly x) (NL x)
def VB(x:Ek):Int:=rI (lz x) (R0 x)
def ckR(x:El):Int:=rI (szR x) (fmR x)
abbrev xo:Stp:=Stp.z
def ZZ(x:Stp):Bool :=
 if dQ x xo then true
 else if !tnB x.var\/x.key.length<1\/4<x.key.length \/ !x.key.all U5 then false
 else if x.kind=1 then (U5 x.field||decide (x.field=⟨#[]⟩))&&(x.n==0&&x.m==0)
 else if x.kind=2 then decide (x.field=⟨#[]⟩)&&(x.n==0&&x.m==0)
 else if x.kind=3 then decide (x.field=⟨#[]⟩)&&(decide (0<=x.n)&&(decide (x.n<=1073741824)&&x.m==0))
 else if x.kind=4 then U5 x.field&&(decide (0<=x.n)&&(decide (x.n<=x.m)&&decide (x.m<=65535)))
 else if x.kind=5 then U5 x.field&&(x.n==0&&x.m==0)
 else if x.kind=6 then decide (x.field=⟨#[]⟩)&&(decide (1<=x.n)&&(decide (x.n<=65535)&&(decide (1<=x.m)&&decide (x.m<=1073741824))))
 else false
def dR(x:Stp):Int:=if ZZ x then 0 else 1
def Q8:List Em->Int
 | []=>0
 | x::l=>if VB x.policy=0 then (if dR x.step=0 then Q8 l else dR x.step) else VB x.policy
def Xg(l:List Em):Int:=if 8<l.length then 2 else Q8 l
mutual
def OT:Ek->Int
 | ⟨k,_,_,_,args⟩=>if k=5 then i64 (Ju args 0+1) else Ju args 0
def Ju:List Ek->Int->Int
 | [],o=>o
 | x::l,o=>Ju l (Qv o (OT x))
end
mutual
def Y8:Ek->Int
 | ⟨k,_,_,_,args⟩=>if k=2 then i64 (Li args 0+1) else Li args 0
def Li:List Ek->Int->Int
 | [],o=>o
 | x::l,o=>Li l (i64 (o+Y8 x))
end
theorem Ml(x:Ek):OT x=if x.kind=5 then i64 (Ju x.args 0+1) else Ju x.args 0:=by cases x;rw [OT]
def aA(x:Ek)(l:List Ek)(o:Int):Ju (x::l) o=Ju l (Qv o (OT x)):=by rw [Ju]
def di(o:Int):Ju [] o=o:=by rw [Ju]
theorem OX(x:Ek):Y8 x=if x.kind=2 then i64 (Li x.args 0+1) else Li x.args 0:=by cases x;rw [Y8]
def eY(x:Ek)(l:List Ek)(o:Int):Li (x::l) o=Li l (i64 (o+Y8 x)):=by rw [Li]
def mF(o:Int):Li [] o=o:=by rw [Li]
def Of(x:Ek):Bool :=
 let n:=OT x
 let k:=Y8 x
 n==0||(n==1&&decide (k<=8)||(n==2&&decide (k<=4)||(n==3&&decide (k<=3)||n==4&&decide (k<=2))))
def YF(x:Ej):Bool:=decide ((ly x).nodes<=400)&&decide ((ly x).depth<=60)
def n9(x:Ek):Bool:=decide ((lz x).nodes<=400)&&(decide ((lz x).depth<=60)&&decide ((ly x.pred).nodes<=400))
def iv(x:El):Bool:=decide ((szR x).nodes<=400)&&decide ((szR x).depth<=60)
def K5(l:List Em):Bool:=l.all λx=>n9 x.policy&&decide ((x.step.key.length:Int)<=20)
def Oz(l:List Em):Bool:=K5 (l.take 12)&&decide ((l.length:Int)<=12)
def oA(n:En)(a b c:Int):Bool:=decide ((n.nodes.length:Int)<=a)&&(decide ((n.links.length:Int)<=b)&&decide ((n.edges.length:Int)<=c))
def Lu(t:Eo):Bool :=
 (Oz t.program&&(decide ((t.ports.length:Int)<=80)&&(decide ((t.wires.length:Int)<=80)&&(decide ((t.routes.length:Int)<=20)&&decide ((t.demands.length:Int)<=80))))) &&
  ((t.program.all λx=>decide (OT x.policy<=2)&&Of x.policy)&&(t.routes.all λx=>YF x.pred&&iv x.path))
def Sw(f:Fld):Bool :=
 decide (1<=f.width)&&(decide (f.width<=16)&&(decide (16<=f.at_)&&(decide (f.at_<=143)&&decide (f.at_ % 16+f.width<=16))))
def Kr(a b:Fld):Bool:=decide (a.at_<i64 (b.at_+b.width))&&decide (b.at_<i64 (a.at_+a.width))
def Jm(l:List Fld):Nat->List Fld->Int
 | _,[]=>0
 | i,x::r=>if !nmB x.name\/x.name=GI then 4 else if (l.take i).any (λy=>decide (y.name=x.name)) then 4
  else if !Sw x then 1 else if (l.take i).any (λy=>Kr y x) then 1 else Jm l (i+1) r
def O5(l:List Fld):Int:=if 16<l.length then 2 else Jm l 0 l
def If(n:En)(k:Int):Bool:=decide (0<=k)&&decide (k<n.nodes.length)
def JP:Fld:=⟨GI,0,16⟩
def Fc(l:List Fld)(s:ByteArray):Fld×Bool :=
 if s=GI then (JP,true) else match l.find? (λf=>decide (f.name=s)) with
  | some f=>(f,true)
  | none=>(Fld.z,false)
def Xl:Nat->Int
 | 0=>1
 | n+1=>i64 (Xl n*2)
def KU(f:Fld):Int:=i64 (Xl f.width.toNat - 1)
mutual
def St:Ej->List Ej
 | ⟨k,f,n,m,xs⟩=>⟨k,f,n,m,xs⟩::Mo xs
def Mo:List Ej->List Ej
 | []=>[]
 | x::l=>St x++Mo l
end
mutual
def Mp:Ek->List Ek
 | ⟨k,p,f,n,xs⟩=>⟨k,p,f,n,xs⟩::MG xs
def MG:List Ek->List Ek
 | []=>[]
 | x::l=>Mp x++MG l
end
def LP(x:Ej):St x=x::Mo x.args:=by cases x;rw [St]
def JV(x:Ej)(l:List Ej):Mo (x::l)=St x++Mo l:=by rw [Mo]
def La:Mo []=[]:=by rw [Mo]
def Kn(x:Ek):Mp x=x::MG x.args:=by cases x;rw [Mp]
def Ii(x:Ek)(l:List Ek):MG (x::l)=Mp x++MG l:=by rw [MG]
def KO:MG []=[]:=by rw [MG]
def Kk(x:Ej):FT x.c=x.field.size+5+FT (GG x.args):=by
 show FT [_,_,_,_,_]=_
 simp only [FT,AV.bulk];omega
def Is(x:Ek):FT x.c=FT x.pred.c+x.field.size+4+FT (F2 x.args):=by
 show FT [_,_,_,_,_,_,_,_,_]=_
 rw [Kk]
 simp only [FT,AV.bulk];omega
def eh : ∀ x:Ej,(St x).length<=FT x.c:=by
 refine JM _ λx ih=>?_
 rw [LP,Kk,Hd]
 have : ∀ l:List Ej,(∀ y∈l,(St y).length<=FT y.c)->(Mo l).length<=FT (l.map λx => .agg x.c):=by
  intro l
  induction l with
  | nil=>intro _;simp [La]
  | cons y l ihl =>
   intro h
   have h1:=h y sm
   have h2:=ihl λz hz=>h z (by simp [hz])
   rw [JV,AF]
   simp only [AR,FT,AV.bulk]
   omega
 have:=this x.args ih
 simp only [AD]
 omega
def Rf : ∀ x:Ek,(Mp x).length<=FT x.c:=by
 refine Hn _ λx ih=>?_
 rw [Kn,Is,Gg]
 have : ∀ l:List Ek,(∀ y∈l,(Mp y).length<=FT y.c)->(MG l).length<=FT (l.map λx => .agg x.c):=by
  intro l
  induction l with
  | nil=>intro _;simp [KO]
  | cons y l ihl =>
   intro h
   have h1:=h y sm
   have h2:=ihl λz hz=>h z (by simp [hz])
   rw [Ii,AF]
   simp only [AR,FT,AV.bulk]
   omega
 have:=this x.args ih
 simp only [AD]
 omega
def sj : ∀ x:Ek,∀ y∈Mp x,FT y.c<=FT x.c:=by
 refine Hn _ λx ih=>λy hy=>?_
 rw [Kn] at hy
 rcases AW.1 hy with rfl|hy
 ·exact Nat.le_refl _
 have : ∀ l:List Ek,(∀ z∈l,∀ y∈Mp z,FT y.c<=FT z.c) -> ∀ y∈MG l,FT y.c<=FT (l.map λx => .agg x.c):=by
  intro l
  induction l with
  | nil=>intro _ y hy;rw [KO] at hy;cases hy
  | cons z l ihl =>
   intro h y hy
   rw [Ii] at hy
   simp only [AR,FT,AV.bulk]
   rcases List.mem_append.1 hy with hy|hy
   ·have:=h z sm y hy;omega
   ·have:=ihl (λz hz=>h z (by simp [hz])) y hy;omega
 have:=this x.args ih y hy
 have h2:=Is x
 rw [Gg] at h2
 omega
def Px(l:List Fld)(x:Ej):Int :=
 if x.kind≠3/\x.kind≠4/\x.kind≠5 then 0
 else if (Fc l x.field).2=false then 4
 else if KU (Fc l x.field).1<(if x.kind=5 then x.m else x.n)\/(x.kind=4/\(Fc l x.field).1.width<x.m) then 1 else 0
def Lt(l:List Fld):List Ej->Int
 | []=>0
 | x::r=>if Px l x=0 then Lt l r else Px l x
def R1(l:List Fld)(x:Ej):Int:=Lt l (St x)
def UU(l:List Fld)(x:Ej):Int:=if ckP x=0 then R1 l x else ckP x
def Rg(l:List Fld)(x:Ek):Int :=
 if x.kind=1 then R1 l x.pred
 else if x.kind=2 then (if (Fc l x.field).2=false then 4 else if KU (Fc l x.field).1<x.n then 1 else 0)
 else 0
def Lj(l:List Fld):List Ek->Int
 | []=>0
 | x::r=>if Rg l x=0 then Lj l r else Rg l x
def Kf(l:List Fld)(x:Ek):Int:=if VB x=0 then Lj l (Mp x) else VB x
def JR(l:List ByteArray):Nat->List ByteArray->Bool
 | _,[]=>true
 | i,x::r => !(l.take i).any (λy=>decide (y=x))&&JR l (i+1) r
def Jz(s:Stp):List ByteArray:=if s.field=⟨#[]⟩ then s.key else s.key++[s.field]
def MB(l:List Fld)(s:Stp):Int :=
 if dR s≠0\/s.kind=0 then dR s
 else if !(Jz s).all (λy=>(Fc l y).2) then 4
 else if !JR s.key 0 s.key then 1
 else if s.kind=4/\KU (Fc l s.field).1<s.m then 1 else 0
def LT(k:Int):Int:=if k=1 then 1 else if k=2\/k=3 then 2 else if k=4\/k=5 then 3 else 4
def Iw(l:List Fld)(key:List ByteArray):List Int:=key.map λy=>(Fc l y).1.width
def Lm(s:Stp):Bool:=s.kind==4||s.kind==6
def YG(a b:List Int):Bool:=decide (a=b)
def UY(l:List Fld)(s t:Stp):Bool :=
 !((Lm s&&Lm t)&&(s.n !=t.n||s.m !=t.m))&&(YG (Iw l s.key) (Iw l t.key)&&LT s.kind==LT t.kind)
def NR(l:List Fld):List Em->Int
 | []=>0
 | x::r=>if Kf l x.policy=0 then (if MB l x.step=0 then NR l r else MB l x.step) else Kf l x.policy
def LL(l:List Fld)(s t:Stp):Bool:=(s.kind !=0&&t.kind !=0)&&(decide (s.var=t.var) && !UY l s t)
def LH(l:List Fld)(p:List Em):Nat->List Em->Bool
 | _,[]=>true
 | i,x::r => !(p.take i).any (λy=>LL l y.step x.step)&&LH l p (i+1) r
def QJ(l:List Fld)(p:List Em):Int :=
 if Xg p≠0 then Xg p else if NR l p≠0 then NR l p else if LH l p 0 p then 0 else 11
def Je(n:Int):Bool->List Int->List Int
 | d,[]=>if d then [] else [n]
 | d,x::r=>(if n<=x/\d=false then [n] else [])++((if x≠n then [x] else [])++Je n (d||decide (n<=x)) r)
def Sr(l:List Int)(n:Int):List Int:=Je n false l
def MQ(o:List Int):List Ek->List Int
 | []=>o
 | y::r=>MQ (if y.kind=2/\y.field=GI then Sr o y.n else o) r
def NV(x:Ek):List Int:=MQ [] (Mp x)
def Ig{α:Type}(p:α->Bool)(q:α->α->Bool)(l:List α):Nat->List α->Bool
 | _,[]=>true
 | i,x::r=>(p x && !(l.take i).any (λy=>q y x))&&Ig p q l (i+1) r
def IT{α:Type}(p:α->Bool)(q:α->α->Bool)(l:List α):Bool:=Ig p q l 0 l
def uT(l:List ByteArray)(s:ByteArray):Bool:=l.any (λy=>decide (y=s))
def HX(t:Eo)(n:Int):Bool:=decide (0<=n)&&decide (n<(t.ports.length:Int))
def O2(t:Eo)(n:Int):Int:=(t.ports[n.toNat]?.getD Port.z).edge
def J5(t:Eo)(n:Int):Bool:=HX t n&&O2 t n == -1
def KR(t:Eo)(n:Int):Bool:=HX t n&&O2 t n != -1
def Sv(x:Port):Bool:=nmB x.name
def Sb(y x:Port):Bool:=decide (y.name=x.name)
def RQ(m:Int)(x:Port):Bool:=decide (-1<=x.edge)&&decide (x.edge<m)
def RP(y x:Port):Bool:=x.edge != -1&&y.edge==x.edge
def Re(t:Eo)(x:Wire):Bool:=J5 t x.src&&J5 t x.dst
def Rc(y x:Wire):Bool:=y.src==x.src
def Iq(s:Ep)(t:Eo):Int :=
 if nmB t.name=false then 4 else if IT Sv Sb t.ports=false then 4
 else if IT (RQ s.network.edges.length) RP t.ports=false then 1 else if IT (Re t) Rc t.wires=false then 1 else 0
def Kg(t:Eo):List Em->Int
 | []=>0
 | x::r=>if (NV x.policy).all (HX t)=false then 1 else if x.step.field=GI\/(x.step.kind=5/\uT x.step.key GI=true) then 1 else Kg t r
def Mb(s:Ep)(t:Eo):Int:=if QJ s.fields t.program≠0 then QJ s.fields t.program else Kg t t.program
mutual
def knB(l:List ByteArray):El->Bool
 | ⟨k,n,xs⟩ => !(k==2 && !uT l n)&&bB l xs
def bB(l:List ByteArray):List El->Bool
 | []=>true
 | x::r=>knB l x&&bB l r
end
theorem JY(l:List ByteArray)(x:El):knB l x=(!(x.kind==2 && !uT l x.node)&&bB l x.args):=by cases x;rw [knB]
theorem My(l:List ByteArray)(x:El)(r:List El):bB l (x::r)=(knB l x&&bB l r):=by rw [bB]
theorem Rw(l:List ByteArray):bB l []=true:=by rw [bB]
def IF(n:En):List ByteArray:=n.nodes.map (·.name)
def Kd(n:En):List ByteArray:=n.edges.map (·.name)
def mB(s:Ep)(x:Route):Int :=
 if UU s.fields x.pred≠0 then UU s.fields x.pred else if ckR x.path≠0 then ckR x.path else if knB (IF s.network) x.path=false then 4 else 0
def Jv(s:Ep):List Route->Int
 | []=>0
 | x::r=>if mB s x=0 then Jv s r else mB s x
def mI(t:Eo)(d:Demand):Bool :=
 KR t d.src&&(KR t d.dst&&(d.src !=d.dst&&(decide (0<=d.floor)&&(decide (d.floor<=d.ceiling)&&decide (d.ceiling<=1048576)))))
def lR(y x:Demand):Bool:=y.src==x.src&&y.dst==x.dst
def Jr(s:Ep)(t:Eo):Int :=
 if 64<t.ports.length\/64<t.wires.length\/16<t.routes.length\/64<t.demands.length then 2
 else if Iq s t≠0 then Iq s t else if Mb s t≠0 then Mb s t
 else if Jv s t.routes≠0 then Jv s t.routes else if IT (mI t) lR t.demands=false then 1 else 0
def eu(x:ByteArray):Bool:=nmB x
def dM(y x:ByteArray):Bool:=decide (y=x)
def Tq(n:En)(x:Node):Bool:=decide (0<=x.rules)&&(decide (x.rules<=4000)&&(decide (0<=x.entries)&&decide (x.entries<=100000)))
def Ts(n:En)(x:Link):Bool:=If n x.src&&(If n x.dst&&(x.src !=x.dst&&(decide (0<=x.capacity)&&decide (x.capacity<=1048576))))
def I9(n:En):Int :=
 if 200<n.nodes.length\/2000<n.links.length\/400<n.edges.length then 2
 else if IT eu dM (IF n)=false\/IT eu dM (Kd n)=false then 4
 else if n.nodes.all (Tq n)=false then 1 else if n.links.all (Ts n)=false then 1 else if n.edges.all (λx=>If n x.node)=false then 1 else 0
def MC(n:Int):Bool:=decide (0<=n)&&decide (n<=65535)
def Y9(n:Int): ∀ (l:List Int) (d:Bool),(Je n d l).length<=l.length+(if d then 0 else 1)
 | [],d=>by cases d<;>simp [Je]
 | x::r,d=>by
  have ih:=Y9 n r (d||decide (n<=x))
  have g1:(if x≠n then [x] else []).length<=1:=by split<;>simp
  simp only [Je,AF,AD]
  cases d<;>by_cases hx:n<=x<;>simp [hx] at ih g1 ⊢ <;> omega
def AAg(o:List Int)(n:Int):(Sr o n).length<=o.length+1:=by
 have:=Y9 n o false
 simpa [Sr] using this
def mH(x:Ek):(NV x).length<=(Mp x).length:=by
 have h1 : ∀ (n:Int) (l:List Int) (d:Bool),(Je n d l).length<=l.length+1:=by
  have h2 : ∀ (n:Int) (l:List Int),(Je n true l).length<=l.length:=by
   intro n l
   induction l with
   | nil=>simp [Je]
   | cons x r ih =>
    simp only [Je,BV,Bool.true_eq_false,and_false,if_false,AO,AF,AD]
    have:(if x≠n then [x] else []).length<=1:=by split<;>simp
    omega
  intro n l
  induction l with
  | nil=>intro d;cases d<;>simp [Je]
  | cons x r ih =>
   intro d
   cases d with
   | true=>have:=h2 n (x::r);simp at this ⊢;omega
   | false =>
    simp only [Je,AF,AD]
    have g1:(if x≠n then [x] else []).length<=1:=by split<;>simp
    by_cases hx:n<=x
    ·have:=h2 n r
     simp [hx]
     simp at this g1
     omega
    ·have:=ih false
     simp [hx]
     simp at this g1
     omega
 have h3 : ∀ (l:List Ek) (o:List Int),(MQ o l).length<=o.length+l.length:=by
  intro l
  induction l with
  | nil=>intro o;simp [MQ]
  | cons y r ih =>
   intro o
   rw [MQ]
   refine AK (ih _) ?_
   have:=h1 y.n o false
   simp only [AD]
   split
   ·unfold Sr;omega
   ·omega
 have:=h3 (Mp x) []
 simpa [NV] using this
def Zi{l:List Fld}(h:O5 l=0): ∀ f∈l,f.width<=16:=by
 have : ∀ (r:List Fld) (i:Nat),Jm l i r=0 -> ∀ f∈r,f.width<=16:=by
  intro r
  induction r with
  | nil=>intro i _ f hf;cases hf
  | cons x r ih =>
   intro i h f hf
   rw [Jm] at h
   split at h
   ·cases h
   split at h
   ·cases h
   split at h
   ·cases h
   split at h
   ·cases h
   rename_i hp _
   rcases AW.1 hf with rfl|hf
   ·simp only [Sw,BU,Bool.and_eq_false_iff,not_or,Bool.not_eq_false,decide_eq_true_eq] at hp
    omega
   ·exact ih _ h f hf
 unfold O5 at h
 split at h
 ·cases h
 ·exact this l 0 h
open Go.Proofs
@[go_sem] def rz(x:Ej)(v:Int)(o0:Option Nat):Ht (x.cf o0) [.int .i64 v]=({ x with kind:=v }:Ej).cf o0:=rfl
@[go_sem] def ry(x:Ej)(v:ByteArray)(o0:Option Nat):splice (x.cf o0) 1 [.str v]=({ x with field:=v }:Ej).cf o0:=rfl
@[go_sem] def AEY(x:Ej)(v:Int)(o0:Option Nat):splice (x.cf o0) 2 [.int .i64 v]=({ x with n:=v }:Ej).cf o0:=rfl
@[go_sem] def zK(x:Ej)(v:List Ej)(o0:Option Nat)(p:Option Nat):splice (x.cf o0) 4 [.sl p (GG v)]=({ x with args:=v }:Ej).cf p:=rfl
@[go_sem] def lg(x:Ek)(v:Int)(o0 o1:Option Nat):Ht (x.cf o0 o1) [.int .i64 v]=({ x with kind:=v }:Ek).cf o0 o1:=rfl
@[go_sem] def qH(x:Ek)(v:Ej)(o0 o1:Option Nat)(p0:Option Nat):splice (x.cf o0 o1) 1 (v.cf p0)=({ x with pred:=v }:Ek).cf p0 o1:=rfl
@[go_sem] def lf(x:Ek)(v:ByteArray)(o0 o1:Option Nat):splice (x.cf o0 o1) 6 [.str v]=({ x with field:=v }:Ek).cf o0 o1:=rfl
@[go_sem] def zW(x:Ek)(v:Int)(o0 o1:Option Nat):splice (x.cf o0 o1) 7 [.int .i64 v]=({ x with n:=v }:Ek).cf o0 o1:=rfl
@[go_sem] def qI(x:Ek)(v:List Ek)(o0 o1:Option Nat)(p:Option Nat):splice (x.cf o0 o1) 8 [.sl p (F2 v)]=({ x with args:=v }:Ek).cf o0 p:=rfl
@[ext] structure Pat where
 mask:Er
 bits:Er
 deriving DecidableEq,Inhabited
def Pat.c(x:Pat):List AV:=[.int .i64 x.mask.h0,.int .i64 x.mask.h1,.int .i64 x.mask.h2,.int .i64 x.mask.h3,.int .i64 x.mask.h4,.int .i64 x.mask.h5,.int .i64 x.mask.h6,.int .i64 x.mask.h7,.int .i64 x.mask.h8,.int .i64 x.mask.h9,.int .i64 x.bits.h0,.int .i64 x.bits.h1,.int .i64 x.bits.h2,.int .i64 x.bits.h3,.int .i64 x.bits.h4,.int .i64 x.bits.h5,.int .i64 x.bits.h6,.int .i64 x.bits.h7,.int .i64 x.bits.h8,.int .i64 x.bits.h9]
@[go_sem] def AUc(x:Pat):x.c.length=20:=rfl
@[go_sem] def AUd(x:Pat):x.c.map borrow1=x.c:=rfl
@[go_sem] def AUb(x:Pat):x.c.any F8=false:=by
 rfl
@[go_sem] def AH9(x:Pat):x.c.take 20=x.c:=rfl
@[go_sem] def Pat.cf_pure(x:Pat):FV x.c=true:=by
 simp [Pat.c,FV,AV.pure]
@[go_sem] def qK(k:Nat)(x:Pat):Fl k x.c=true:=by
 simp [Pat.c,Fl,AV.bnd]
def Pat.c_bnd(k:Nat)(x:Pat):Fl k x.c=true:=qK k x
@[go_sem] def zL(x:Pat)(v:Er):Ht x.c v.c=({ x with mask:=v }:Pat).c:=rfl
@[go_sem] def zX(x:Pat)(v:Er):splice x.c 10 v.c=({ x with bits:=v }:Pat).c:=rfl
def Pat.z:Pat:=⟨⟨0,0,0,0,0,0,0,0,0,0⟩,⟨0,0,0,0,0,0,0,0,0,0⟩⟩
@[go_sem] def Pat.zero:Fi AA 294=some (.agg Pat.z.c):=kr
def Pat.ok(_:Pat):Prop:=True
def F3(l:List Er):List AV:=l.map λx => .agg x.c
@[go_sem] def AU9(l:List Er):(F3 l).length=l.length:=by simp [F3]
def IH{l:List Er}{i:Nat}{x:Er}(h:l[i]? =some x):(F3 l)[i]? =some (.agg x.c):=by simp [F3,h]
def gi(l:List Er): ∀ x∈F3 l,x.cells.length=10:=by
 intro x hx;obtain ⟨y,_,rfl⟩:=AN.1 hx;rfl
@[go_sem] def AFk(l:List Er):(∀ x∈F3 l,x.cells.length=10)=True:=eq_true (gi l)
@[go_sem] def AU8:F3 []=[]:=rfl
@[go_sem] def AHX(l:List Er)(k:Nat):(F3 l).take k=F3 (l.take k):=by simp [F3]
@[go_sem] def AVA(a b:List Er):F3 a++F3 b=F3 (a++b):=by simp [F3]
@[go_sem] def AI4(a:List Er)(x:Er):F3 a++[.agg x.c]=F3 (a++[x]):=by simp [F3]
@[go_sem] def nN(l:List Er):FV (F3 l)=true:=by
 induction l with
 | nil=>rfl
 | cons x xs ih=>simpa [F3,FV,AV.pure] using ⟨lG x,ih⟩
set_option maxRecDepth 50000
def jR(c:UInt8):A' AA 342 [.int .u8 c.toNat] (.bool (loB c)):=by
 refine pC AJn rfl ?_
 simp only [f342,go_sem]
 repeat' (first|(first|apply cS|apply gS)<;>intro hc<;>simp only [go_sem,hc])
 all_goals (simp only [loB,bz];grind)
def AGT(c:UInt8):A' AA 374 [.int .u8 c.toNat] (.bool (dgB c)):=by
 refine pC AJP rfl ?_
 simp only [f374,go_sem]
 repeat' (first|(first|apply cS|apply gS)<;>intro hc<;>simp only [go_sem,hc])
 all_goals (simp only [dgB,bz];grind)
def o6(c:UInt8):A' AA 365 [.int .u8 c.toNat] (.bool (wdB c)):=by
 refine pC AJS rfl ?_
 simp only [f365,go_sem]
 repeat' (first|((first|refine pK (jR _) ?_|refine pK (AGT _) ?_);simp only [go_sem])|(first|apply cS|apply gS)<;>intro hc<;>simp only [go_sem,hc])
 all_goals (simp only [wdB,bz];grind)
def AcK(s:ByteArray)(hs:s.size<=1073741824):A' AA 344 [.str s] (.int .i64 (MP s.data.toList)):=by
 refine pC AJh rfl ?_
 simp only [f344,go_sem]
 refine W0 s (λl=>s.size - l.length+MP l) (λk=>[(0,.str s),(3,.int .i64 k)]) FQ rfl ?_ ?_
 ·intro k x xs hd hx hF h0 h1 hw hl
  rw [TQ] at hF
  simp only [AD,MP] at hF
  simp only [go_sem,h0,h1,hx]
  repeat' (first|(refine pK (o6 _) ?_;simp only [go_sem])|(first|apply cS|apply gS)<;>intro hc<;>simp only [go_sem,hc,hw])
  ·simp only [BU] at hc
   rw [hc] at hF
   have:MP s.data.toList=k:=by simp at hF;omega
   rw [this]
  ·simp only [CZ] at hc
   simp only [MP,hc]
   simp;omega
 ·intro hF hlt
  simp only [go_sem,hlt,dF]
  rw [TQ] at hF
  simp [MP] at hF
  rw [hF]
def ACm:EvOk AA (bK.evt [] AHQ):=ETree.ok ABT (λ_ h=>by cases h) (ABO _) Wa
def lj:FV (HI.map AV.str)=true:=kr
def AGW:A' AA 364 [] (.sl (some 1) (HI.map AV.str)):=A'.run ACm 100 rfl lj kr
def AC5(s:ByteArray):A' AA 343 [.str s] (.bool (Th s)):=by
 refine pC AJk rfl ?_
 simp only [f343,go_sem]
 repeat' (first|(refine pK (AGW) ?_;simp only [go_sem])|(first|apply cS|apply gS)<;>intro hc<;>simp only [go_sem,hc])
 refine Fd HI (λl=>l.any (λy=>decide (y=s))) (λk=>[(0,.str s),(3,.sl (some 1) (HI.map AV.str)),(4,.int .i64 k)]) dc rfl ?_ ?_
 ·intro k x xs hd hx hF h0 h1 hw
  have hg:(HI.map AV.str)[k]? =some (.str x):=by simp [hx]
  simp only [go_sem,h0,h1,hg,Aq,FU]
  repeat' (first|(first|apply cS|apply gS)<;>intro hc<;>simp only [go_sem,hc,hw])
  ·simp only [Th,hF,As,hc,BV]
 ·intro hF hlt
  simp only [go_sem,hlt,dF,Aq]
  rw [Th,hF];rfl
def ADF(s:ByteArray)(hs:s.size<=1073741824):A' AA 326 [.str s] (.bool (tnB s)):=by
 refine pC AKB rfl ?_
 by_cases hz:s.size=0
 ·have hz2:((s.size:Int)==0)=true:=by simp [hz]
  simp only [f326,go_sem,hz2]
  simp [tnB,hz]
 ·have h0:(0:Int)<(s.size:Int):=FQ
  obtain ⟨x,xs,hx⟩ : ∃ x xs,s.data.toList=x::xs:=by
   cases h:s.data.toList with
   | nil=>rw [<- TQ,h] at hz;simp at hz
   | cons x xs=>exact ⟨x,xs,rfl⟩
  have hx0:(s.data[0]?).getD 0=x:=by rw [<- Array.getElem?_toList,hx];rfl
  have hne:((s.size:Int)==0)=false:=by simp [hz]
  simp only [f326,go_sem,hne]
  repeat' (first|((first|refine pK (jR _) ?_|refine pK (AC5 _) ?_|refine pK (AcK _ hs) ?_);simp only [go_sem,hx])|(first|apply cS|apply gS)<;>intro hc<;>simp only [go_sem,hc,h0,hx0])
  all_goals (simp only [tnB,hx];grind)
def bW(s:ByteArray)(hs:s.size<=1073741824):A' AA 293 [.str s] (.bool (tnB s)):=by
 refine pC ALE rfl ?_
 simp only [f293,go_sem]
 repeat' (first|(refine pK (ADF _ hs) ?_;simp only [go_sem])|(first|apply cS|apply gS)<;>intro hc<;>simp only [go_sem,hc])
def VC(s:ByteArray)(hs:s.size<=1073741824):A' AA 298 [.str s] (.bool (U5 s)):=by
 refine pC AKz rfl ?_
 simp only [f298,go_sem]
 repeat' (first|(refine pK (bW _ hs) ?_;simp only [go_sem])|(first|apply cS|apply gS)<;>intro hc<;>simp only [go_sem,hc])
 all_goals first
  | rfl
  | (simp only [FU,U5,GI,hc,Bp,BV,Aw];rfl)
  | grind [FU,U5,GI,Bp,BV,Aw]
  | (simp only [U5,GI,hc,BV,Aw];grind)
  | (simp [U5,GI,BV,Aw, *];done)
  | (simp_all [FU,U5,GI,hc,Bp,BV,Aw];done)
  | skip
def VD(s:ByteArray)(hs:s.size<=1073741824):A' AA 101 [.str s] (.bool (nmB s)):=by
 refine pC ASI rfl ?_
 simp only [f101,go_sem]
 refine W0 s (λl=>tW (s.size - l.length) l) (λk=>[(0,.str s),(3,.int .i64 k)]) FQ rfl ?_ ?_
 ·intro k x xs hd hx hF h0 h1 hw hl
  have e1:s.size - (x::xs).length=k:=by simp;omega
  have e2:s.size - xs.length=k+1:=FQ
  rw [e1,TQ,AP] at hF
  simp only [go_sem,h0,h1,hx]
  repeat' (first|(first|apply cS|apply gS)<;>intro hc<;>simp only [go_sem,hc,h0,h1,hx,hw,e2])
  all_goals first|(simp only [nmB,hF,tW,loB,dgB,bz];grind)|(simp only [tW,loB,dgB,bz];grind)|skip
 ·intro hF hlt
  simp only [go_sem,hlt,dF]
  rw [TQ,AP] at hF
  repeat' (first|(first|apply cS|apply gS)<;>intro hc<;>simp only [go_sem,hc])
  all_goals (simp only [nmB,hF,tW];grind)
def R2{cs:List AV}{l:List AV}(h:HU (.agg cs::l)):HU cs:=h.1
def fits{o:Option Nat}{es:List AV}{l:List AV}(h:HU (.sl o es::l)):es.length<=9223372036854775807:=h.1.1
def Ws(a b:Ei):A' AA 157 [.agg a.c,.agg b.c] (.agg (a.more b).c):=by
 refine pB APy rfl ?_
 simp only [f157,go_sem]
 rfl
def rX : ∀ x:Ej,A' AA 97 [.agg x.c] (.agg (ly x).c):=by
 refine JM _ λx ih=>?_
 refine A'.fit AHa.c λhf=>?_
 have hl:=Ku (R2 hf)
 refine pB AHa rfl ?_
 simp only [f97,go_sem]
 refine Fq x.args (λo l=>VO l o) (λ_ _=>True) (λk o=>[(1,.ptr 0 0),(2,.ptr 1 0),(3,.ptr 2 0),(4,.int .i64 k)]) (λk o=>[some x.c,some Sizes.z.c,some o.c]) ⟨1,1⟩ hl trivial rfl rfl ?_ ?_
 ·intro k o y ys hd hx _ hF h0 h1 hw
  have hm:=AB hx
  simp only [go_sem,h0,h1,GL hx]
  repeat' (first|((first|refine pK (ih _ hm) ?_|refine pK (Ws _ _) ?_);simp only [go_sem,hw])|(first|apply cS|apply gS)<;>intro hc<;>simp only [go_sem,hc,h0,h1,hw,GL hx])
  exact ⟨_,Y0 _ _ _,rfl,rfl⟩
 ·intro o _ hF
  simp only [go_sem,AX,dF]
  rw [AAD,hF,de]
def AHm : ∀ x:El,A' AA 156 [.agg x.c] (.agg (szR x).c):=by
 refine TY _ λx ih=>?_
 refine A'.fit ACK.c λhf=>?_
 have hl:=PI (R2 hf)
 refine pB ACK rfl ?_
 simp only [f156,go_sem]
 refine Fq x.args (λo l=>Z5 l o) (λ_ _=>True) (λk o=>[(1,.ptr 0 0),(2,.ptr 1 0),(3,.ptr 2 0),(4,.int .i64 k)]) (λk o=>[some x.c,some Sizes.z.c,some o.c]) ⟨1,1⟩ hl trivial rfl rfl ?_ ?_
 ·intro k o y ys hd hx _ hF h0 h1 hw
  have hm:=AB hx
  simp only [go_sem,h0,h1,Ng hx]
  repeat' (first|((first|refine pK (ih _ hm) ?_|refine pK (Ws _ _) ?_);simp only [go_sem,hw])|(first|apply cS|apply gS)<;>intro hc<;>simp only [go_sem,hc,h0,h1,hw,Ng hx])
  exact ⟨_,sR _ _ _,rfl,rfl⟩
 ·intro o _ hF
  simp only [go_sem,AX,dF]
  rw [AIT,hF,AAC]
def AHn : ∀ x:Ek,A' AA 231 [.agg x.c] (.agg (lz x).c):=by
 refine Hn _ λx ih=>?_
 refine A'.fit ACE.c λhf=>?_
 have hl:=JS (R2 hf)
 refine pB ACE rfl ?_
 simp only [f231,go_sem]
 repeat' (first|((first|refine pK (rX _) ?_|refine pK (Ws _ _) ?_);simp only [go_sem])|(first|apply cS|apply gS)<;>intro hc<;>simp only [go_sem,hc])
 ·have hs:lz x=Pu x.args (Sizes.more ⟨1,1⟩ (ly x.pred)):=by rw [Z6,iP (by simpa using hc)]
  refine Fq x.args (λo l=>Pu l o) (λ_ _=>True) (λk o=>[(1,.ptr 0 0),(2,.ptr 1 0),(3,.ptr 2 0),(4,.int .i64 k)]) (λk o=>[some x.c,some Sizes.z.c,some o.c]) (Sizes.more ⟨1,1⟩ (ly x.pred)) hl trivial rfl rfl ?_ ?_
  ·intro k o y ys hd hx _ hF h0 h1 hw
   have hm:=AB hx
   simp only [go_sem,h0,h1,Fx hx]
   repeat' (first|((first|refine pK (ih _ hm) ?_|refine pK (Ws _ _) ?_);simp only [go_sem,hw])|(first|apply cS|apply gS)<;>intro hc<;>simp only [go_sem,hc,h0,h1,hw,Fx hx])
   exact ⟨_,Mk _ _ _,rfl,rfl⟩
  ·intro o _ hF
   rw [OS] at hF
   simp only [go_sem,AX,dF]
   rw [hs,hF]
 ·have hs:lz x=Pu x.args ⟨1,1⟩:=by rw [Z6,iN (by simpa using hc)]
  refine Fq x.args (λo l=>Pu l o) (λ_ _=>True) (λk o=>[(1,.ptr 0 0),(2,.ptr 1 0),(3,.ptr 2 0),(4,.int .i64 k)]) (λk o=>[some x.c,some Sizes.z.c,some o.c]) (⟨1,1⟩) hl trivial rfl rfl ?_ ?_
  ·intro k o y ys hd hx _ hF h0 h1 hw
   have hm:=AB hx
   simp only [go_sem,h0,h1,Fx hx]
   repeat' (first|((first|refine pK (ih _ hm) ?_|refine pK (Ws _ _) ?_);simp only [go_sem,hw])|(first|apply cS|apply gS)<;>intro hc<;>simp only [go_sem,hc,h0,h1,hw,Fx hx])
   exact ⟨_,Mk _ _ _,rfl,rfl⟩
  ·intro o _ hF
   rw [OS] at hF
   simp only [go_sem,AX,dF]
   rw [hs,hF]
def jQ : ∀ x:Ek,A' AA 94 [.agg x.c] (.int .i64 (OT x)):=by
 refine Hn _ λx ih=>?_
 refine A'.fit AHb.c λhf=>?_
 have hl:=JS (R2 hf)
 refine pC AHb rfl ?_
 simp only [f94,go_sem]
 refine Fq x.args (λo l=>Ju l o) (λ_ _=>True) (λk o=>[(1,.ptr 0 0),(3,.int .i64 o),(4,.int .i64 k)]) (λk o=>[some x.c]) 0 hl trivial rfl rfl ?_ ?_
 ·intro k o y ys hd hx _ hF h0 h1 hw
  have hm:=AB hx
  simp only [go_sem,h0,h1,Fx hx]
  repeat' (first|(refine pK (ih _ hm) ?_;simp only [go_sem,hw])|(first|apply cS|apply gS)<;>intro hc<;>simp only [go_sem,hc,h0,h1,hw,Fx hx])
  exact ⟨_,aA _ _ _,rfl,rfl⟩
 ·intro o _ hF
  rw [di] at hF
  simp only [go_sem,AX,dF]
  repeat' (first|(first|apply cS|apply gS)<;>intro hc<;>simp only [go_sem,hc])
  all_goals first
   | rfl
   | (simp only [Ml,hF,i64];rfl)
   | grind [Ml,i64]
   | (simp only [Ml,hF,i64];grind)
   | (simp [Ml,hF,i64, *];done)
   | (simp_all [Ml,hF,i64];done)
   | skip
def AGL : ∀ x:Ek,A' AA 155 [.agg x.c] (.int .i64 (Y8 x)):=by
 refine Hn _ λx ih=>?_
 refine A'.fit ACL.c λhf=>?_
 have hl:=JS (R2 hf)
 refine pC ACL rfl ?_
 simp only [f155,go_sem]
 refine Fq x.args (λo l=>Li l o) (λ_ _=>True) (λk o=>[(1,.ptr 0 0),(3,.int .i64 o),(4,.int .i64 k)]) (λk o=>[some x.c]) 0 hl trivial rfl rfl ?_ ?_
 ·intro k o y ys hd hx _ hF h0 h1 hw
  have hm:=AB hx
  simp only [go_sem,h0,h1,Fx hx]
  repeat' (first|(refine pK (ih _ hm) ?_;simp only [go_sem,hw])|(first|apply cS|apply gS)<;>intro hc<;>simp only [go_sem,hc,h0,h1,hw,Fx hx])
  exact ⟨_,eY _ _ _,rfl,rfl⟩
 ·intro o _ hF
  rw [mF] at hF
  simp only [go_sem,AX,dF]
  repeat' (first|(first|apply cS|apply gS)<;>intro hc<;>simp only [go_sem,hc])
  all_goals first
   | rfl
   | (simp only [OX,hF,i64];rfl)
   | grind [OX,i64]
   | (simp only [OX,hF,i64];grind)
   | (simp [OX,hF,i64, *];done)
   | (simp_all [OX,hF,i64];done)
   | skip
def AC4(x:Ek):A' AA 95 [.agg x.c] (.bool (Of x)):=by
 refine pC AXF rfl ?_
 simp only [f95,go_sem]
 repeat' (first|((first|refine pK (jQ _) ?_|refine pK (AGL _) ?_);simp only [go_sem])|(first|apply cS|apply gS)<;>intro hc<;>simp only [go_sem,hc])
 all_goals first
  | rfl
  | (simp only [Of];rfl)
  | grind [Of]
  | (simp only [Of];grind)
  | (simp [Of, *];done)
  | (simp_all [Of];done)
  | skip
def AC7(x:Ej):A' AA 53 [.agg x.c] (.bool (YF x)):=by
 refine pC AYY rfl ?_
 simp only [f53,go_sem]
 repeat' (first|(refine pK (rX _) ?_;simp only [go_sem])|(first|apply cS|apply gS)<;>intro hc<;>simp only [go_sem,hc])
 all_goals first
  | rfl
  | (simp only [YF];rfl)
  | grind [YF]
  | (simp only [YF];grind)
  | (simp [YF, *];done)
  | (simp_all [YF];done)
  | skip
def AT3(x:El):A' AA 96 [.agg x.c] (.bool (iv x)):=by
 refine pC AXC rfl ?_
 simp only [f96,go_sem]
 repeat' (first|(refine pK (AHm _) ?_;simp only [go_sem])|(first|apply cS|apply gS)<;>intro hc<;>simp only [go_sem,hc])
 all_goals first
  | rfl
  | (simp only [iv];rfl)
  | grind [iv]
  | (simp only [iv];grind)
  | (simp [iv, *];done)
  | (simp_all [iv];done)
  | skip
def AC8(x:Ek):A' AA 154 [.agg x.c] (.bool (n9 x)):=by
 refine pC AP5 rfl ?_
 simp only [f154,go_sem]
 repeat' (first|((first|refine pK (AHn _) ?_|refine pK (rX _) ?_);simp only [go_sem])|(first|apply cS|apply gS)<;>intro hc<;>simp only [go_sem,hc])
 all_goals first
  | rfl
  | (simp only [n9];rfl)
  | grind [n9]
  | (simp only [n9];grind)
  | (simp [n9, *];done)
  | (simp_all [n9];done)
  | skip
def AT5(x:List Em):A' AA 93 [.sl none (F9 x)] (.bool (Oz x)):=by
 refine A'.fit AHc.c λhf=>?_
 have hl:=fits hf
 rw [Nd] at hl
 refine pC AHc rfl ?_
 simp only [f93,go_sem]
 refine Fd x (λr=>K5 (r.take (12 - (x.length - r.length)))) (λk=>[(0,.sl none (F9 x)),(3,.int .i64 k)]) hl rfl ?_ ?_
 ·intro k y ys hd hx hF h0 h1 hw
  have hk:=Fo hd
  have e1:x.length - (ys.length+1)=k:=FQ
  have e2:x.length - ys.length=k+1:=FQ
  simp only [AD,e1,AP,Bo] at hF
  simp only [go_sem,h1]
  rcases Nat.lt_or_ge k 12 with h12|h12
  ·have e3:12 - k=(12 - (k+1))+1:=FQ
   rw [e3,List.take_succ_cons] at hF
   repeat' (first|(refine pK (AC8 _) ?_;simp only [go_sem])|(first|apply cS|apply gS)<;>intro hc<;>simp only [go_sem,hc,h0,hw,GH hx,e1,e2])
   all_goals first
    | rfl
    | (simp only [Oz,K5,e3];rfl)
    | grind [Oz,K5]
    | (simp only [Oz,K5,e3];grind)
    | (simp [Oz,K5,e3, *];done)
    | (simp_all [Oz,K5,e3];done)
    | skip
  ·have e3:12 - k=0:=FQ
   rw [e3,List.take_zero] at hF
   have OH : ¬ (k:Int)<12:=FQ
   simp only [go_sem,OH,dF]
   repeat' (first|(refine pK (AC8 _) ?_;simp only [go_sem,h0,h1,hw,GH hx,e1,e2])|(first|apply cS|apply gS)<;>intro hc<;>simp only [go_sem,hc,h0,h1,hw,GH hx,e1,e2])
   all_goals first
    | rfl
    | (simp only [Oz,K5];rfl)
    | grind [Oz,K5]
    | (simp only [Oz,K5];grind)
    | (simp [Oz,K5, *];done)
    | (simp_all [Oz,K5];done)
    | skip
 ·intro hF hlt
  simp only [go_sem,hlt,dF]
  repeat' (first|(first|apply cS|apply gS)<;>intro hc<;>simp only [go_sem,hc])
  all_goals first
   | rfl
   | (simp only [Oz,K5];rfl)
   | grind [Oz,K5]
   | (simp only [Oz,K5];grind)
   | (simp [Oz,K5, *];done)
   | (simp_all [Oz,K5];done)
   | skip
def AT2(t:Eo):A' AA 52 [.agg t.c] (.bool (Lu t)):=by
 refine A'.fit AHf.c λhf=>?_
 have hl1:=RE (R2 hf)
 have hl2:=SI (R2 hf)
 refine pC AHf rfl ?_
 simp only [f52,go_sem]
 repeat' (first|(refine pK (AT5 _) ?_;simp only [go_sem])|(first|apply cS|apply gS)<;>intro hc<;>simp only [go_sem,hc])
 all_goals first
  | rfl
  | (simp only [Lu];rfl)
  | grind [Lu]
  | (simp only [Lu];grind)
  | (simp [Lu, *];done)
  | (simp_all [Lu];done)
  | skip
 refine Fd t.program (λr=>r.all λx=>decide (OT x.policy<=2)&&Of x.policy) (λk=>[(1,.ptr 0 0),(4,.int .i64 k)]) hl1 rfl ?_ ?_
 ·intro k y ys hd hx hF h0 h1 hw
  simp only [go_sem,h0,h1,GH hx]
  repeat' (first|((first|refine pK (jQ _) ?_|refine pK (AC4 _) ?_);simp only [go_sem])|(first|apply cS|apply gS)<;>intro hc<;>simp only [go_sem,hc,h0,hw,GH hx])
  all_goals first
   | rfl
   | (simp only [Lu,Al];rfl)
   | grind [Lu]
   | (simp only [Lu,Al,A6];grind)
   | (simp [Lu,Al,A6, *];done)
   | (simp_all [Lu,Al,A6];done)
   | skip
  skip
 ·intro hF hlt
  simp only [go_sem,hlt,dF]
  refine Fd t.routes (λr=>r.all λx=>YF x.pred&&iv x.path) (λk=>[(1,.ptr 0 0),(5,.int .i64 k)]) hl2 rfl ?_ ?_
  ·intro k y ys hd hx hF h0 h1 hw
   simp only [go_sem,h0,h1,Nf hx]
   repeat' (first|((first|refine pK (AC7 _) ?_|refine pK (AT3 _) ?_);simp only [go_sem,h0,Nf hx])|(first|apply cS|apply gS)<;>intro hc<;>simp only [go_sem,hc,hw])
   all_goals first
    | rfl
    | (simp only [Lu,Al];rfl)
    | grind [Lu]
    | (simp only [Lu,Al,A6];grind)
    | (simp [Lu,Al,A6, *];done)
    | (simp_all [Lu,Al,A6];done)
    | skip
   skip
  ·intro hF2 hlt2
   simp only [go_sem,hlt2,dF]
   repeat' (first|(first|apply cS|apply gS)<;>intro hc<;>simp only [go_sem,hc])
   all_goals first
    | rfl
    | (simp only [Lu];rfl)
    | grind [Lu]
    | (simp only [Lu,Al,A6];grind)
    | (simp [Lu,Al,A6, *];done)
    | (simp_all [Lu,Al,A6];done)
    | skip
   skip
def AcQ : ∀ x y:Ej,A' AA 299 [.agg x.c,.agg y.c] (.bool (rM x y)):=by
 refine JM _ λx ih=>λy=>?_
 refine A'.fit ACA.c λhf=>?_
 have hl:=Ku (R2 hf)
 refine pC ACA rfl ?_
 simp only [f299,go_sem]
 repeat' (first|(first|apply cS|apply gS)<;>intro hc<;>simp only [go_sem,hc,FU])
 all_goals first
  | rfl
  | (simp only [Io];rfl)
  | grind [Io]
  | (simp only [Io];grind)
  | (simp [Io, *];done)
  | (simp_all [Io];done)
  | skip
 have hll:x.args.length=y.args.length:=by grind
 refine Fd x.args (λr=>UT r (y.args.drop (x.args.length - r.length))) (λk=>[(2,.ptr 0 0),(3,.ptr 1 0),(5,.int .i64 k)]) hl rfl ?_ ?_
 ·intro k z zs hd hx hF h0 h1 hw
  have hk:=Fo hd
  obtain ⟨w,hy⟩ : ∃ w,y.args[k]? =some w:=⟨_,AL FQ⟩
  have e1:x.args.length - (z::zs).length=k:=by simp;omega
  have e2:x.args.length - zs.length=k+1:=FQ
  have e3:y.args.drop k=w::y.args.drop (k+1):=by rw [BL FQ];congr 1;grind
  have h2:(k:Int)<(y.args.length:Int):=FQ
  rw [e1,e3,AP,BN,Jl] at hF
  have hm:=AB hx
  simp only [go_sem,h0,h1,GL hx,GL hy]
  repeat' (first|(refine pK (ih _ hm _) ?_;simp only [go_sem])|(first|apply cS|apply gS)<;>intro hc<;>simp only [go_sem,hc,hw,e2])
  all_goals first
   | rfl
   | (simp only [Io,hF];rfl)
   | grind [Io,Jl]
   | (simp only [Io,Jl,hF];grind)
   | (simp [Io,Jl,hF, *];done)
   | (simp_all [Io,Jl,hF];done)
   | skip
 ·intro hF hlt
  simp only [go_sem,hlt,dF]
  all_goals first
   | rfl
   | (simp only [Io];rfl)
   | grind [Io,M9]
   | (simp only [Io,M9];grind)
   | (simp [Io,M9, *];done)
   | (simp_all [Io,M9];done)
   | skip
def AcP(x y:Stp):A' AA 300 [.agg x.c,.agg y.c] (.bool (dQ x y)):=by
 refine A'.fit AB9.c λhf=>?_
 have hl:=kM (R2 hf)
 refine pC AB9 rfl ?_
 simp only [f300,go_sem]
 repeat' (first|(first|apply cS|apply gS)<;>intro hc<;>simp only [go_sem,hc,FU])
 all_goals first
  | rfl
  | (simp only [dQ];rfl)
  | grind [dQ]
  | (simp only [dQ];grind)
  | (simp [dQ, *];done)
  | (simp_all [dQ];done)
  | skip
 have hll:x.key.length=y.key.length:=by grind
 refine Fd x.key (λr=>Om r (y.key.drop (x.key.length - r.length))) (λk=>[(2,.ptr 0 0),(3,.ptr 1 0),(5,.int .i64 k)]) hl rfl ?_ ?_
 ·intro k z zs hd hx hF h0 h1 hw
  have hk:=Fo hd
  obtain ⟨w,hy⟩ : ∃ w,y.key[k]? =some w:=⟨_,AL FQ⟩
  have e1:x.key.length - (z::zs).length=k:=by simp;omega
  have e2:x.key.length - zs.length=k+1:=FQ
  have e3:y.key.drop k=w::y.key.drop (k+1):=by rw [BL FQ];congr 1;grind
  have h2:(k:Int)<(y.key.length:Int):=FQ
  rw [e1,e3,AP,BN,K1] at hF
  have hm:=AB hx
  simp only [go_sem,h0,h1,Gj hx,Gj hy,FU]
  repeat' (first|(first|apply cS|apply gS)<;>intro hc<;>simp only [go_sem,hc,hw,e2])
  all_goals first
   | rfl
   | (simp only [dQ,hF];rfl)
   | grind [dQ,K1]
   | (simp only [dQ,K1,hF];grind)
   | (simp [dQ,K1,hF, *];done)
   | (simp_all [dQ,K1,hF];done)
   | skip
 ·intro hF hlt
  simp only [go_sem,hlt,dF]
  all_goals first
   | rfl
   | (simp only [dQ];rfl)
   | grind [dQ,Ni]
   | (simp only [dQ,Ni];grind)
   | (simp [dQ,Ni, *];done)
   | (simp_all [dQ,Ni];done)
   | skip
def AHp : ∀ x:Ej,FT x.c<=1073741824->A' AA 244 [.agg x.c] (.bool (NL x)):=by
 refine JM _ λx ih=>λhb=>?_
 have hl:x.args.length<=9223372036854775807:=AK (V5 (I5 hb)) dc
 refine pC AMn rfl ?_
 simp only [f244,go_sem]
 repeat' (first|(refine pK (VC _ (QO hb)) ?_;simp only [go_sem])|(first|apply cS|apply gS)<;>intro hc<;>simp only [go_sem,hc,FU])
 all_goals first
  | rfl
  | (simp only [Hl,S4,Kz,RO];rfl)
  | grind [Hl,S4,Kz,RO]
  | (simp only [Hl,S4,Kz,RO];grind)
  | (simp [Hl,S4,Kz,RO, *];done)
  | (simp_all [Hl,S4,Kz,RO];done)
  | skip
 all_goals
  have ho:((S4 x).1&&x.args.length==(S4 x).2)=true:=by grind [S4,Kz,RO]
  refine Fd x.args (λr=>WV r) (λk=>[(1,.ptr 0 0),(6,.int .i64 x.args.length),(8,.int .i64 k)]) hl (by grind) ?_ ?_
  ·intro k y ys hd hx hF h0 h1 hw
   have hm:=AB hx
   have hby:FT y.c<=1073741824:=by have:=V6 (I5 hb) hm;simpa only [AV.bulk] using this
   simp only [go_sem,h0,h1,GL hx]
   repeat' (first|(refine pK (ih _ hm hby) ?_;simp only [go_sem])|(first|apply cS|apply gS)<;>intro hc<;>simp only [go_sem,hc,hw])
   ·rw [Hl,ho,hF,Ka]
    simp only [BU] at hc
    rw [hc];rfl
   ·rw [Ka]
    simp only [CZ] at hc
    rw [hc];rfl
  ·intro hF hlt
   simp only [go_sem,hlt,dF]
   rw [Hl,ho,hF,M2];rfl
def AcO : ∀ x:Ek,FT x.c<=1073741824->A' AA 243 [.agg x.c] (.bool (R0 x)):=by
 refine Hn _ λx ih=>λhb=>?_
 have hl:x.args.length<=9223372036854775807:=AK (Qn (IK hb)) dc
 refine pC AMq rfl ?_
 simp only [f243,go_sem]
 repeat' (first|((first|refine pK (VC _ (N7 hb)) ?_|refine pK (A'.lend (AcQ x.pred Pred.z)) ?_|refine pK (AHp _ (L8 hb)) ?_);simp only [go_sem,FU])|(first|apply cS|apply gS)<;>intro hc<;>simp only [go_sem,hc])
 all_goals first
  | rfl
  | (simp only [IQ,Vq,RO];rfl)
  | grind [IQ,Vq,RO]
  | (simp only [IQ,Vq,RO];grind)
  | (simp [IQ,Vq,RO, *];done)
  | (simp_all [IQ,Vq,RO];done)
  | skip
 all_goals
  have ho:((Vq x).1&&x.args.length==(Vq x).2)=true:=by grind [Vq,RO]
  refine Fd x.args (λr=>WW r) (λk=>[(1,.ptr 0 0),(6,.int .i64 x.args.length),(8,.int .i64 k)]) hl (by grind) ?_ ?_
  ·intro k y ys hd hx hF h0 h1 hw
   have hm:=AB hx
   have hby:FT y.c<=1073741824:=by have:=Qo (IK hb) hm;simpa only [AV.bulk] using this
   simp only [go_sem,h0,h1,Fx hx]
   repeat' (first|(refine pK (ih _ hm hby) ?_;simp only [go_sem])|(first|apply cS|apply gS)<;>intro hc<;>simp only [go_sem,hc,hw])
   ·rw [IQ,ho,hF,Kb]
    simp only [BU] at hc
    rw [hc];rfl
   ·rw [Kb]
    simp only [CZ] at hc
    rw [hc];rfl
  ·intro hF hlt
   simp only [go_sem,hlt,dF]
   rw [IQ,ho,hF,M3];rfl
def AcN : ∀ x:El,FT x.c<=1073741824->A' AA 237 [.agg x.c] (.bool (fmR x)):=by
 refine TY _ λx ih=>λhb=>?_
 have hl:x.args.length<=9223372036854775807:=AK (tt (QN hb)) dc
 refine pC ANB rfl ?_
 simp only [f237,go_sem]
 repeat' (first|(refine pK (bW _ (Ye hb)) ?_;simp only [go_sem,FU])|(first|apply cS|apply gS)<;>intro hc<;>simp only [go_sem,hc])
 all_goals first
  | rfl
  | (simp only [Q5,zS];rfl)
  | grind [Q5,zS]
  | (simp only [Q5,zS];grind)
  | (simp [Q5,zS, *];done)
  | (simp_all [Q5,zS];done)
  | skip
 all_goals
  have ho:((zS x).1&&x.args.length==(zS x).2)=true:=by grind [zS]
  refine Fd x.args (λr=>bG r) (λk=>[(1,.ptr 0 0),(4,.int .i64 x.args.length),(6,.int .i64 k)]) hl (by grind) ?_ ?_
  ·intro k y ys hd hx hF h0 h1 hw
   have hm:=AB hx
   have hby:FT y.c<=1073741824:=by have:=tw (QN hb) hm;simpa only [AV.bulk] using this
   simp only [go_sem,h0,h1,Ng hx]
   repeat' (first|(refine pK (ih _ hm hby) ?_;simp only [go_sem])|(first|apply cS|apply gS)<;>intro hc<;>simp only [go_sem,hc,hw])
   ·rw [Q5,ho,hF,Za]
    simp only [BU] at hc
    rw [hc];rfl
   ·rw [Za]
    simp only [CZ] at hc
    rw [hc];rfl
  ·intro hF hlt
   simp only [go_sem,hlt,dF]
   rw [Q5,ho,hF,ACY];rfl
def AGP(z:Ei):A' AA 292 [.agg z.c] (.int .i64 (Qj z)):=by
 refine pC ALH rfl ?_
 simp only [f292,go_sem]
 repeat' (first|(first|apply cS|apply gS)<;>intro hc<;>simp only [go_sem,hc])
 all_goals first
  | rfl
  | (simp only [Qj];rfl)
  | grind [Qj]
  | (simp only [Qj];grind)
  | (simp [Qj, *];done)
  | (simp_all [Qj];done)
  | skip
def Wt(z:Ei)(b:Bool):A' AA 236 [.agg z.c,.bool b] (.int .i64 (rI z b)):=by
 refine pC ANE rfl ?_
 simp only [f236,go_sem]
 repeat' (first|(refine pK (AGP _) ?_;simp only [go_sem])|(first|apply cS|apply gS)<;>intro hc<;>simp only [go_sem,hc])
 all_goals first
  | rfl
  | (simp only [rI];rfl)
  | grind [rI]
  | (simp only [rI];grind)
  | (simp [rI, *];done)
  | (simp_all [rI];done)
  | skip
def AcT(x:Ej)(hb:FT x.c<=1073741824):A' AA 165 [.agg x.c] (.int .i64 (ckP x)):=by
 refine pC APY rfl ?_
 simp only [f165,go_sem]
 repeat' (first|((first|refine pK (rX _) ?_|refine pK (AHp _ hb) ?_|refine pK (Wt _ _) ?_);simp only [go_sem])|(first|apply cS|apply gS)<;>intro hc<;>simp only [go_sem,hc])
 all_goals first
  | rfl
  | (simp only [ckP];rfl)
  | grind [ckP]
  | (simp only [ckP];grind)
  | (simp [ckP, *];done)
  | (simp_all [ckP];done)
  | skip
def ADC(x:Ek)(hb:FT x.c<=1073741824):A' AA 164 [.agg x.c] (.int .i64 (VB x)):=by
 refine pC APb rfl ?_
 simp only [f164,go_sem]
 repeat' (first|((first|refine pK (AHn _) ?_|refine pK (AcO _ hb) ?_|refine pK (Wt _ _) ?_);simp only [go_sem])|(first|apply cS|apply gS)<;>intro hc<;>simp only [go_sem,hc])
 all_goals first
  | rfl
  | (simp only [VB];rfl)
  | grind [VB]
  | (simp only [VB];grind)
  | (simp [VB, *];done)
  | (simp_all [VB];done)
  | skip
def AcS(x:El)(hb:FT x.c<=1073741824):A' AA 160 [.agg x.c] (.int .i64 (ckR x)):=by
 refine pC APm rfl ?_
 simp only [f160,go_sem]
 repeat' (first|((first|refine pK (AHm _) ?_|refine pK (AcN _ hb) ?_|refine pK (Wt _ _) ?_);simp only [go_sem])|(first|apply cS|apply gS)<;>intro hc<;>simp only [go_sem,hc])
 all_goals first
  | rfl
  | (simp only [ckR];rfl)
  | grind [ckR]
  | (simp only [ckR];grind)
  | (simp [ckR, *];done)
  | (simp_all [ckR];done)
  | skip
def AcM(x:Stp)(hb:FT x.c<=1073741824):A' AA 247 [.agg x.c] (.bool (ZZ x)):=by
 have hl:x.key.length<=9223372036854775807:=AK (U1 (L6 hb)) dc
 refine pC AMe rfl ?_
 simp only [f247,go_sem]
 repeat' (first|((first|refine pK (A'.lend (AcP x Stp.z)) ?_|refine pK (bW _ (pz hb)) ?_);simp only [go_sem])|(first|apply cS|apply gS)<;>intro hc<;>simp only [go_sem,hc])
 all_goals first
  | rfl
  | (simp only [ZZ];rfl)
  | grind [ZZ]
  | (simp only [ZZ];grind)
  | (simp [ZZ, *];done)
  | (simp_all [ZZ];done)
  | skip
 refine Fd x.key (λr=>r.all U5) (λk=>[(1,.ptr 0 0),(5,.int .i64 k)]) hl rfl ?_ ?_
 ·intro k y ys hd hx hF h0 h1 hw
  have hm:=AB hx
  have hby:y.size<=1073741824:=by have:=AFh (L6 hb) hm;simp only [AV.bulk] at this;omega
  simp only [go_sem,h0,h1,Gj hx]
  repeat' (first|(refine pK (VC _ hby) ?_;simp only [go_sem])|(first|apply cS|apply gS)<;>intro hc<;>simp only [go_sem,hc,hw])
  all_goals first
   | rfl
   | (simp only [ZZ,Al];rfl)
   | grind [ZZ]
   | (simp only [ZZ,Al];grind)
   | (simp [ZZ,Al, *];done)
   | (simp_all [ZZ,Al];done)
   | skip
 ·intro hF hlt
  simp only [go_sem,hlt,dF]
  repeat' (first|(refine pK (VC _ (b5 hb)) ?_;simp only [go_sem])|(first|apply cS|apply gS)<;>intro hc<;>simp only [go_sem,hc,FU])
  all_goals first
   | rfl
   | (simp only [ZZ];rfl)
   | grind [ZZ]
   | (simp only [ZZ,A6];grind)
   | (simp [ZZ,A6, *];done)
   | (simp_all [ZZ,A6];done)
   | skip
def AHr(x:Stp)(hb:FT x.c<=1073741824):A' AA 167 [.agg x.c] (.int .i64 (dR x)):=by
 refine pC APS rfl ?_
 simp only [f167,go_sem]
 repeat' (first|(refine pK (AcM _ hb) ?_;simp only [go_sem])|(first|apply cS|apply gS)<;>intro hc<;>simp only [go_sem,hc])
 all_goals first
  | rfl
  | (simp only [dR];rfl)
  | grind [dR]
  | (simp only [dR];grind)
  | (simp [dR, *];done)
  | (simp_all [dR];done)
  | skip
def AcU(x:List Em)(hb:FT (F9 x)<=1073741824):A' AA 110 [.sl none (F9 x)] (.int .i64 (Xg x)):=by
 have hl:x.length<=9223372036854775807:=AK (Ms hb) dc
 refine pC ARm rfl ?_
 simp only [f110,go_sem]
 repeat' (first|(first|apply cS|apply gS)<;>intro hc<;>simp only [go_sem,hc])
 all_goals first
  | rfl
  | (simp only [Xg];rfl)
  | grind [Xg]
  | (simp only [Xg];grind)
  | (simp [Xg, *];done)
  | (simp_all [Xg];done)
  | skip
 refine Fd x (λr=>Q8 r) (λk=>[(0,.sl none (F9 x)),(3,.int .i64 k)]) hl rfl ?_ ?_
 ·intro k y ys hd hx hF h0 h1 hw
  have hm:=AB hx
  have hby:FT y.c<=1073741824:=by have:=KV hb hm;simpa only [AV.bulk] using this
  simp only [go_sem,h0,h1,GH hx]
  repeat' (first|((first|refine pK (ADC _ (Hr hby)) ?_|refine pK (AHr _ (Ks hby)) ?_);simp only [go_sem])|(first|apply cS|apply gS)<;>intro hc<;>simp only [go_sem,hc,h0,hw,GH hx])
  all_goals first
   | rfl
   | (simp only [Xg,Q8];rfl)
   | grind [Xg,Q8]
   | (simp only [Xg,Q8];grind)
   | (simp [Xg,Q8, *];done)
   | (simp_all [Xg,Q8];done)
   | skip
 ·intro hF hlt
  simp only [go_sem,hlt,dF]
  all_goals first
   | rfl
   | (simp only [Xg];rfl)
   | grind [Xg,Q8]
   | (simp only [Xg,Q8];grind)
   | (simp [Xg,Q8, *];done)
   | (simp_all [Xg,Q8];done)
   | skip
def AGX:A' AA 248 [] (.agg JP.c):=by
 have h:A' AA 248 [] (.agg JP.c):=A'.run ACm 100 rfl kr kr
 exact h
def RA(l:List Fld)(s:ByteArray):A' AA 169 [.sl none (GN l),.str s] (.tup [.agg (Fc l s).1.c,.bool (Fc l s).2]):=by
 refine A'.fit ACI.c λhf=>?_
 have hl:=fits hf
 rw [Ru] at hl
 refine pB ACI rfl ?_
 simp only [f169,go_sem,FU]
 repeat' (first|(refine pK (AGX) ?_;simp only [go_sem])|(first|apply cS|apply gS)<;>intro hc<;>simp only [go_sem,hc])
 all_goals first
  | rfl
  | (simp only [Fc,GI];rfl)
  | grind [Fc,GI]
  | (simp only [Fc,GI];grind)
  | (simp [Fc,GI, *];done)
  | (simp_all [Fc,GI];done)
  | skip
 ·refine Fd l (λr=>r.find? (λf=>decide (f.name=s))) (λk=>[(0,.sl none (GN l)),(1,.str s),(4,.ptr 0 0),(6,.int .i64 k)]) hl rfl ?_ ?_
  ·intro k y ys hd hx hF h0 h1 hw
   simp only [go_sem,h0,h1,Il hx,FU]
   repeat' (first|(first|apply cS|apply gS)<;>intro hc<;>simp only [go_sem,hc,h0,hw,Il hx])
   all_goals first
    | rfl
    | (simp only [Fc,GI];rfl)
    | grind [Fc,GI]
    | (simp only [Fc,GI];grind)
    | (simp [Fc,GI, *];done)
    | (simp_all [Fc,GI];done)
    | skip
  ·intro hF hlt
   simp only [go_sem,hlt,dF]
   all_goals first
    | rfl
    | (simp only [Fc,GI];rfl)
    | grind [Fc,GI]
    | (simp only [Fc,GI];grind)
    | (simp [Fc,GI, *];done)
    | (simp_all [Fc,GI];done)
    | skip
def AGM(n:Int)(hn:n<9223372036854775807):A' AA 249 [.int .i64 n] (.int .i64 (Xl n.toNat)):=by
 refine pC AMb rfl ?_
 simp only [f249,go_sem]
 refine be n.toNat (λk=>[(0,.int .i64 n),(3,.int .i64 (Xl k)),(4,.int .i64 k)]) (λ_=>[]) rfl rfl ?_
 intro k hk
 by_cases h:(k:Int)<n
 ·have hw:=Mj (k:=k) FQ
  simp only [go_sem,h,dT,hw]
  exact ⟨FQ,rfl,rfl⟩
 ·have:k=n.toNat:=FQ
  subst this
  simp only [go_sem,h,dF]
def bV(f:Fld)(hn:f.width<9223372036854775807):A' AA 170 [.agg f.c] (.int .i64 (KU f)):=by
 refine pC APK rfl ?_
 simp only [f170,go_sem]
 repeat' (first|(refine pK (AGM _ hn) ?_;simp only [go_sem])|(first|apply cS|apply gS)<;>intro hc<;>simp only [go_sem,hc])
 all_goals first
  | rfl
  | (simp only [KU];rfl)
  | grind [KU]
  | (simp only [KU];grind)
  | (simp [KU, *];done)
  | (simp_all [KU];done)
  | skip
def AT0 : ∀ x:Ej,FT x.c<=1073741824->A' AA 245 [.agg x.c] (.sl none (GG (St x))):=by
 refine JM _ λx ih=>λhb=>?_
 have hl:x.args.length<=9223372036854775807:=AK (V5 (I5 hb)) dc
 have hn:=AK (eh x) hb
 refine pB AMk rfl ?_
 simp only [f245,go_sem]
 refine Fq x.args (λo l=>o++Mo l) (λ_ _=>True) (λk o=>[(1,.ptr 0 0),(3,.sl (some 5) (GG o)),(4,.int .i64 k)]) (λk o=>[some x.c]) [x] hl trivial (by rw [Hd];rfl) rfl ?_ ?_
 ·intro k o y ys hd hx _ hF h0 h1 hw
  have hm:=AB hx
  have hby:FT y.c<=1073741824:=by have:=V6 (I5 hb) hm;simpa only [AV.bulk] using this
  have hlen:o.length+(St y).length<=1073741824:=by
   have:=congrArg List.length hF
   rw [JV] at this
   rw [LP] at hn
   simp at this hn
   omega
  simp only [go_sem,h0,h1,GL hx]
  repeat' (first|(refine pK (ih _ hm hby) ?_;simp only [go_sem,hw])|(first|apply cS|apply gS)<;>intro hc<;>simp only [go_sem,hc,h0,h1,hw,GL hx])
  exact ⟨FQ,FQ,o++St y,by rw [JV,AE],rfl,rfl⟩
 ·intro o _ hF
  simp only [go_sem,AX,dF]
  rw [LP]
  simp only [La,Ag] at hF
  rw [<- hF];rfl
def AC0 : ∀ x:Ek,FT x.c<=1073741824->A' AA 168 [.agg x.c] (.sl none (F2 (Mp x))):=by
 refine Hn _ λx ih=>λhb=>?_
 have hl:x.args.length<=9223372036854775807:=AK (Qn (IK hb)) dc
 have hn:=AK (Rf x) hb
 refine pB APP rfl ?_
 simp only [f168,go_sem]
 refine Fq x.args (λo l=>o++MG l) (λ_ _=>True) (λk o=>[(1,.ptr 0 0),(3,.sl (some 9) (F2 o)),(4,.int .i64 k)]) (λk o=>[some x.c]) [x] hl trivial (by rw [Gg];rfl) rfl ?_ ?_
 ·intro k o y ys hd hx _ hF h0 h1 hw
  have hm:=AB hx
  have hby:FT y.c<=1073741824:=by have:=Qo (IK hb) hm;simpa only [AV.bulk] using this
  have hlen:o.length+(Mp y).length<=1073741824:=by
   have:=congrArg List.length hF
   rw [Ii] at this
   rw [Kn] at hn
   simp at this hn
   omega
  simp only [go_sem,h0,h1,Fx hx]
  repeat' (first|(refine pK (ih _ hm hby) ?_;simp only [go_sem,hw])|(first|apply cS|apply gS)<;>intro hc<;>simp only [go_sem,hc,h0,h1,hw,Fx hx])
  exact ⟨FQ,FQ,o++Mp y,by rw [Ii,AE],rfl,rfl⟩
 ·intro o _ hF
  simp only [go_sem,AX,dF]
  rw [Kn]
  simp only [KO,Ag] at hF
  rw [<- hF];rfl
def AT1(l:List Fld)(x:Ej)(hl : ∀ f∈l,f.width<=9000000000000000000):A' AA 246 [.sl none (GN l),.agg x.c] (.int .i64 (Px l x)):=by
 have hw:(Fc l x.field).1.width<9223372036854775807:=by
  unfold Fc
  split
  ·decide
  ·split
   ·rename_i f hf
    have:=hl f (DJ hf)
    show f.width<_
    omega
   ·decide
 refine pC AMh rfl ?_
 simp only [f246,go_sem]
 repeat' (first|((first|refine pK (RA _ _) ?_|refine pK (bV _ hw) ?_);simp only [go_sem])|(first|apply cS|apply gS)<;>intro hc<;>simp only [go_sem,hc])
 all_goals first
  | rfl
  | (simp only [Px];rfl)
  | grind [Px]
  | (simp only [Px];grind)
  | (simp [Px, *];done)
  | (simp_all [Px];done)
  | skip
def AC6(l:List Fld)(x:Ej)(hl : ∀ f∈l,f.width<=9000000000000000000)(hb:FT x.c<=1073741824):A' AA 166 [.sl none (GN l),.agg x.c] (.int .i64 (R1 l x)):=by
 have hn:=AK (eh x) hb
 refine pC APV rfl ?_
 simp only [f166,go_sem]
 repeat' (first|(refine pK (AT0 _ hb) ?_;simp only [go_sem])|(first|apply cS|apply gS)<;>intro hc<;>simp only [go_sem,hc])
 refine Fd (St x) (λr=>Lt l r) (λk=>[(0,.sl none (GN l)),(5,.sl none (GG (St x))),(6,.int .i64 k)]) FQ rfl ?_ ?_
 ·intro k y ys hd hx hF h0 h1 hw
  simp only [go_sem,h0,h1,GL hx]
  repeat' (first|(refine pK (AT1 _ _ hl) ?_;simp only [go_sem])|(first|apply cS|apply gS)<;>intro hc<;>simp only [go_sem,hc,hw])
  all_goals first
   | rfl
   | (simp only [R1,Lt];rfl)
   | grind [R1,Lt]
   | (simp only [R1,Lt];grind)
   | (simp [R1,Lt, *];done)
   | (simp_all [R1,Lt];done)
   | skip
 ·intro hF hlt
  simp only [go_sem,hlt,dF]
  all_goals first
   | rfl
   | (simp only [R1];rfl)
   | grind [R1,Lt]
   | (simp only [R1,Lt];grind)
   | (simp [R1,Lt, *];done)
   | (simp_all [R1,Lt];done)
   | skip
abbrev zT(l:List Fld):Prop:=∀ f∈l,f.width<=9000000000000000000
def bI{l:List Fld}(hl:zT l)(s:ByteArray):(Fc l s).1.width<9223372036854775807:=by
 unfold Fc
 split
 ·decide
 ·split
  ·rename_i f hf
   have:=hl f (DJ hf)
   show f.width<_
   omega
  ·decide
def AC3(s:Stp):A' AA 121 [.agg s.c] (.bool (Lm s)):=by
 refine pC AQ6 rfl ?_
 simp only [f121,go_sem]
 repeat' (first|(first|apply cS|apply gS)<;>intro hc<;>simp only [go_sem,hc])
 all_goals first
  | rfl
  | (simp only [Lm];rfl)
  | grind [Lm]
  | (simp only [Lm];grind)
  | (simp [Lm, *];done)
  | (simp_all [Lm];done)
  | skip
def AC9(k:Int):A' AA 119 [.int .i64 k] (.int .i64 (LT k)):=by
 refine pC ARF rfl ?_
 simp only [f119,go_sem]
 repeat' (first|(first|apply cS|apply gS)<;>intro hc<;>simp only [go_sem,hc])
 all_goals first
  | rfl
  | (simp only [LT];rfl)
  | grind [LT]
  | (simp only [LT];grind)
  | (simp [LT, *];done)
  | (simp_all [LT];done)
  | skip
def o7(l:List Fld)(key:List ByteArray)(hk:key.length<=1073741824):A' AA 120 [.sl none (GN l),.sl none (HA key)] (.sl none (GC (Iw l key))):=by
 refine pB ARB rfl ?_
 simp only [f120,go_sem]
 refine Fq key (λo r=>o++Iw l r) (λk o=>o.length=k) (λk o=>[(0,.sl none (GN l)),(1,.sl none (HA key)),(5,.sl (some 1) (GC o)),(6,.int .i64 k)]) (λk o=>[]) [] FQ rfl rfl rfl ?_ ?_
 ·intro k o y ys hd hx hI hF h0 h1 hw
  have hk2:=Fo hd
  simp only [go_sem,h0,h1,Gj hx]
  repeat' (first|(refine pK (RA _ _) ?_;simp only [go_sem,hw])|(first|apply cS|apply gS)<;>intro hc<;>simp only [go_sem,hc,h0,h1,hw,Gj hx])
  exact ⟨FQ,FQ,o++[(Fc l y).1.width],by simp [Iw],by simp [hI],rfl,rfl⟩
 ·intro o hI hF
  simp only [go_sem,AX,dF]
  simp only [Iw,List.map_nil,Ag,AO] at hF
  rw [Iw,hF]
def AcR(a b:List Int):A' AA 171 [.sl none (GC a),.sl none (GC b)] (.bool (YG a b)):=by
 refine A'.fit ACH.c λhf=>?_
 have hl:=fits hf
 rw [HK] at hl
 refine pC ACH rfl ?_
 simp only [f171,go_sem]
 repeat' (first|(first|apply cS|apply gS)<;>intro hc<;>simp only [go_sem,hc])
 all_goals first
  | rfl
  | (simp only [YG];rfl)
  | grind [YG]
  | (simp only [YG];grind)
  | (simp [YG, *];done)
  | (simp_all [YG];done)
  | skip
 have hll:a.length=b.length:=by grind
 refine Fd a (λr=>decide (r=b.drop (a.length - r.length))) (λk=>[(0,.sl none (GC a)),(1,.sl none (GC b)),(5,.int .i64 k)]) hl rfl ?_ ?_
 ·intro k z zs hd hx hF h0 h1 hw
  have hk:=Fo hd
  obtain ⟨w,hy⟩ : ∃ w,b[k]? =some w:=⟨_,AL FQ⟩
  have e1:a.length - (zs.length+1)=k:=FQ
  have e2:a.length - zs.length=k+1:=FQ
  have e3:b.drop k=w::b.drop (k+1):=by rw [BL FQ];congr 1;grind
  have h2:(k:Int)<(b.length:Int):=FQ
  simp only [AD,e1,AP,BN,e3] at hF
  simp only [go_sem,h0,h1,Gk hx,Gk hy]
  repeat' (first|(first|apply cS|apply gS)<;>intro hc<;>simp only [go_sem,hc,hw,e1,e2,e3])
  all_goals first
   | rfl
   | (simp only [YG,hF,List.cons.injEq];rfl)
   | grind [YG,List.cons.injEq]
   | (simp only [YG,hF,List.cons.injEq];grind)
   | (simp [YG,hF,List.cons.injEq, *];done)
   | (simp_all [YG,hF,List.cons.injEq];done)
   | skip
 ·intro hF hlt
  simp only [go_sem,hlt,dF]
  simp only [AP,BN,List.length_nil,Bo] at hF
  have h3:b.drop a.length=[]:=by rw [hll];simp
  simp only [h3] at hF
  rw [YG,hF];rfl
def AUD(l:List Fld)(s t:Stp)(h1:s.key.length<=1073741824)(h2:t.key.length<=1073741824):A' AA 113 [.sl none (GN l),.agg s.c,.agg t.c] (.bool (UY l s t)):=by
 refine pC ARX rfl ?_
 simp only [f113,go_sem]
 repeat' (first|((first|refine pK (AC3 _) ?_|refine pK (o7 _ _ h1) ?_|refine pK (o7 _ _ h2) ?_|refine pK (AcR _ _) ?_|refine pK (AC9 _) ?_);simp only [go_sem])|(first|apply cS|apply gS)<;>intro hc<;>simp only [go_sem,hc])
 all_goals first
  | rfl
  | (simp only [UY];rfl)
  | grind [UY]
  | (simp only [UY];grind)
  | (simp [UY, *];done)
  | (simp_all [UY];done)
  | skip
def ADB(l:List Fld)(x:Ej)(hl:zT l)(hb:FT x.c<=1073741824):A' AA 109 [.sl none (GN l),.agg x.c] (.int .i64 (UU l x)):=by
 refine pC ARp rfl ?_
 simp only [f109,go_sem]
 repeat' (first|((first|refine pK (AcT _ hb) ?_|refine pK (AC6 _ _ hl hb) ?_);simp only [go_sem])|(first|apply cS|apply gS)<;>intro hc<;>simp only [go_sem,hc])
 all_goals first
  | rfl
  | (simp only [UU];rfl)
  | grind [UU]
  | (simp only [UU];grind)
  | (simp [UU, *];done)
  | (simp_all [UU];done)
  | skip
def AT8(l:List Fld)(x:Ek)(hl:zT l)(hb:FT x.c<=1073741824):A' AA 111 [.sl none (GN l),.agg x.c] (.int .i64 (Kf l x)):=by
 have hn:=AK (Rf x) hb
 refine pC ARi rfl ?_
 simp only [f111,go_sem]
 repeat' (first|((first|refine pK (ADC _ hb) ?_|refine pK (AC0 _ hb) ?_);simp only [go_sem])|(first|apply cS|apply gS)<;>intro hc<;>simp only [go_sem,hc])
 all_goals first
  | rfl
  | (simp only [Kf];rfl)
  | grind [Kf]
  | (simp only [Kf];grind)
  | (simp [Kf, *];done)
  | (simp_all [Kf];done)
  | skip
 refine Fd (Mp x) (λr=>Lj l r) (λk=>[(0,.sl none (GN l)),(5,.int .i64 0),(6,.sl none (F2 (Mp x))),(7,.int .i64 k)]) FQ (by grind) ?_ ?_
 ·intro k y ys hd hx hF h0 h1 hw
  have hm:=AB hx
  have hby:=AK (sj x y hm) hb
  simp only [go_sem,h0,h1,Fx hx]
  repeat' (first|((first|refine pK (AC6 _ _ hl (L8 hby)) ?_|refine pK (RA _ _) ?_|refine pK (bV _ (bI hl _)) ?_);simp only [go_sem,h0,Fx hx])|(first|apply cS|apply gS)<;>intro hc<;>simp only [go_sem,hc,h0,hw,Fx hx])
  all_goals first
   | rfl
   | (simp only [Kf,Lj,Rg,At];rfl)
   | grind [Kf,Lj,Rg,At]
   | (simp only [Kf,Lj,Rg,At];grind)
   | (simp [Kf,Lj,Rg,At, *];done)
   | (simp_all [Kf,Lj,Rg,At];done)
   | skip
 ·intro hF hlt
  simp only [go_sem,hlt,dF]
  all_goals first
   | rfl
   | (simp only [Kf];rfl)
   | grind [Kf,Lj]
   | (simp only [Kf,Lj];grind)
   | (simp [Kf,Lj, *];done)
   | (simp_all [Kf,Lj];done)
   | skip
def JD{α:Type}{l:List α}{i k:Nat}{x:α}(h:(l.take i)[k]? =some x):l[k]? =some x:=by
 rw [Aj] at h
 split at h
 ·exact h
 ·cases h
def Jt{α:Type}{l:List α}{i:Nat}(h:i<=l.length):(l.take i).length=i:=by simp;omega
def AT7(l:List Fld)(s:Stp)(hl:zT l)(hb:FT s.c<=1073741824):A' AA 112 [.sl none (GN l),.agg s.c] (.int .i64 (MB l s)) := by
  have hk:s.key.length<=1073741824 := U1 (L6 hb)
  have g0:s.key.length*16<=140737488355328 := by omega
  have g1:s.key.length<=9223372036854775807 := by omega
  have g2:(s.key.length+1)*16<=140737488355328 := by omega
  have g3:s.key.length<=9223372036854775806 := by omega
  refine pC ARc rfl ?_
  simp only [f112,go_sem]
  repeat' (first|(refine pK (AHr _ hb) ?_;simp only [go_sem])|(first|apply cS|apply gS)<;>intro hc<;>simp only [go_sem,hc,FU,g0,g1,g2,g3])
  all_goals first
    | rfl
    | (simp only [MB];rfl)
    | grind [MB]
    | (simp only [MB];grind)
    | (simp [MB, *];done)
    | (simp_all [MB];done)
    | skip
  · have hnm:Jz s=s.key++[s.field] := by grind [Jz]
    have hnl:(s.key++[s.field]).length<=1073741825 := by first|omega|(simp;omega)
    refine Fd (s.key++[s.field]) (λr=>r.all (λy=>(Fc l y).2)) (λk=>[(0,.sl none (GN l)),(3,.ptr 0 0),(6,.sl (some 1) (HA (s.key++[s.field]))),(7,.int .i64 k)]) FQ rfl ?_ ?_
    · intro k y ys hd hx hF h0 h1 hw
      simp only [go_sem,h0,h1,Gj hx]
      repeat' (first|(refine pK (RA _ _) ?_;simp only [go_sem])|(first|apply cS|apply gS)<;>intro hc<;>simp only [go_sem,hc,hw])
      all_goals first
        | (have h5 : (Jz s).all (fun y => (Fc l y).2) = false := by rw [hnm, hF]; simp_all
           grind [MB])
        | simp_all
    · intro hF hlt
      simp only [go_sem,hlt,dF]
      refine Fd s.key (λr=>JR s.key (s.key.length - r.length) r) (λk=>[(0,.sl none (GN l)),(3,.ptr 0 0),(10,.int .i64 k)]) FQ rfl ?_ ?_
      · intro k y ys hd hx hF2 h0 h1 hw
        have hk2 := Fo hd
        have e1:s.key.length - (ys.length+1)=k := by omega
        have e2:s.key.length - ys.length=k+1 := by omega
        have ht:(s.key.take k).length=k := Jt FQ
        simp only [AD,e1,AP] at hF2
        simp only [go_sem,h1]
        refine Fd (s.key.take k) (λr=>r.any (λz=>decide (z=y))) (λi=>[(0,.sl none (GN l)),(3,.ptr 0 0),(10,.int .i64 k),(11,.int .i64 i)]) FQ rfl ?_ ?_
        · intro i z zs hd3 hx3 hF3 h03 OH hw3
          rw [ht] at OH
          have hx4 := JD hx3
          have h14:(i:Int)<(s.key.length:Int) := by omega
          simp only [go_sem,h03,OH,h0,Gj hx4,Gj hx,FU]
          repeat' (first|(first|apply cS|apply gS)<;>intro hc<;>simp only [go_sem,hc,hw3])
          all_goals first
            | (have h5 : JR s.key 0 s.key = false := by rw [hF2, JR, hF3, As, hc]; rfl
               have h6:(Jz s).all (λy=>(Fc l y).2)=true := by rw [hnm,hF];rfl
               grind [MB])
            | (rw [As,hc];rfl)
        · intro hF3 hlt3
          rw [ht] at hlt3
          simp only [go_sem,ht,hlt3,dF,hw]
          rw [e1,e2,JR,hF3];rfl
      · intro hF2 hlt2
        have h5:JR s.key 0 s.key=true := by simp only [AP] at hF2;rw [hF2];rfl
        have h6:(Jz s).all (λy=>(Fc l y).2)=true := by rw [hnm,hF];rfl
        simp only [go_sem,hlt2,dF]
        repeat' (first|((first|refine pK (RA _ _) ?_|refine pK (bV _ (bI hl _)) ?_);simp only [go_sem])|(first|apply cS|apply gS)<;>intro hc<;>simp only [go_sem,hc])
        all_goals grind [MB]
  · have hnm:Jz s=s.key := by grind [Jz]
    have hnl:(s.key).length<=1073741825 := by first|omega|(simp;omega)
    refine Fd (s.key) (λr=>r.all (λy=>(Fc l y).2)) (λk=>[(0,.sl none (GN l)),(3,.ptr 0 0),(6,.sl (some 1) (HA (s.key))),(7,.int .i64 k)]) FQ rfl ?_ ?_
    · intro k y ys hd hx hF h0 h1 hw
      simp only [go_sem,h0,h1,Gj hx]
      repeat' (first|(refine pK (RA _ _) ?_;simp only [go_sem])|(first|apply cS|apply gS)<;>intro hc<;>simp only [go_sem,hc,hw])
      all_goals first
        | (have h5 : (Jz s).all (fun y => (Fc l y).2) = false := by rw [hnm, hF]; simp_all
           grind [MB])
        | simp_all
    · intro hF hlt
      simp only [go_sem,hlt,dF]
      refine Fd s.key (λr=>JR s.key (s.key.length - r.length) r) (λk=>[(0,.sl none (GN l)),(3,.ptr 0 0),(10,.int .i64 k)]) FQ rfl ?_ ?_
      · intro k y ys hd hx hF2 h0 h1 hw
        have hk2 := Fo hd
        have e1:s.key.length - (ys.length+1)=k := by omega
        have e2:s.key.length - ys.length=k+1 := by omega
        have ht:(s.key.take k).length=k := Jt FQ
        simp only [AD,e1,AP] at hF2
        simp only [go_sem,h1]
        refine Fd (s.key.take k) (λr=>r.any (λz=>decide (z=y))) (λi=>[(0,.sl none (GN l)),(3,.ptr 0 0),(10,.int .i64 k),(11,.int .i64 i)]) FQ rfl ?_ ?_
        · intro i z zs hd3 hx3 hF3 h03 OH hw3
          rw [ht] at OH
          have hx4 := JD hx3
          have h14:(i:Int)<(s.key.length:Int) := by omega
          simp only [go_sem,h03,OH,h0,Gj hx4,Gj hx,FU]
          repeat' (first|(first|apply cS|apply gS)<;>intro hc<;>simp only [go_sem,hc,hw3])
          all_goals first
            | (have h5 : JR s.key 0 s.key = false := by rw [hF2, JR, hF3, As, hc]; rfl
               have h6:(Jz s).all (λy=>(Fc l y).2)=true := by rw [hnm,hF];rfl
               grind [MB])
            | (rw [As,hc];rfl)
        · intro hF3 hlt3
          rw [ht] at hlt3
          simp only [go_sem,ht,hlt3,dF,hw]
          rw [e1,e2,JR,hF3];rfl
      · intro hF2 hlt2
        have h5:JR s.key 0 s.key=true := by simp only [AP] at hF2;rw [hF2];rfl
        have h6:(Jz s).all (λy=>(Fc l y).2)=true := by rw [hnm,hF];rfl
        simp only [go_sem,hlt2,dF]
        repeat' (first|((first|refine pK (RA _ _) ?_|refine pK (bV _ (bI hl _)) ?_);simp only [go_sem])|(first|apply cS|apply gS)<;>intro hc<;>simp only [go_sem,hc])
        all_goals grind [MB]
def AHq(l:List Fld)(p:List Em)(hl:zT l)(hb:FT (F9 p)<=1073741824):A' AA 59 [.sl none (GN l),.sl none (F9 p)] (.int .i64 (QJ l p)) := by
  have hn := Ms hb
  refine pC AX9 rfl ?_
  simp only [f59,go_sem]
  repeat' (first|(refine pK (AcU _ hb) ?_;simp only [go_sem])|(first|apply cS|apply gS)<;>intro hc<;>simp only [go_sem,hc])
  all_goals first
    | rfl
    | (simp only [QJ];rfl)
    | grind [QJ]
    | (simp only [QJ];grind)
    | (simp [QJ, *];done)
    | (simp_all [QJ];done)
    | skip
  refine Fd p (λr=>NR l r) (λk=>[(0,.sl none (GN l)),(1,.sl none (F9 p)),(6,.int .i64 k)]) FQ rfl ?_ ?_
  · intro k y ys hd hx hF h0 h1 hw
    have hby:FT y.c<=1073741824 := by have := KV hb (AB hx);simpa only [AV.bulk] using this
    simp only [go_sem,h0,h1,GH hx]
    repeat' (first|((first|refine pK (AT8 _ _ hl (Hr hby)) ?_|refine pK (AT7 _ _ hl (Ks hby)) ?_);simp only [go_sem])|(first|apply cS|apply gS)<;>intro hc<;>simp only [go_sem,hc,h0,hw,GH hx])
    all_goals first
      | rfl
      | (simp only [QJ,NR];rfl)
      | grind [QJ,NR]
      | (simp only [QJ,NR];grind)
      | (simp [QJ,NR, *];done)
      | (simp_all [QJ,NR];done)
      | skip
  · intro hF hlt
    simp only [go_sem,hlt,dF]
    refine Fd p (λr=>LH l p (p.length - r.length) r) (λk=>[(0,.sl none (GN l)),(1,.sl none (F9 p)),(9,.int .i64 k)]) FQ rfl ?_ ?_
    · intro k y ys hd hx hF2 h0 h1 hw
      have hk := Fo hd
      have e1:p.length - (ys.length+1)=k := by omega
      have e2:p.length - ys.length=k+1 := by omega
      have hby:FT y.c<=1073741824 := by have := KV hb (AB hx);simpa only [AV.bulk] using this
      have hy := U1 (L6 (Ks hby))
      have ht:(p.take k).length=k := Jt FQ
      simp only [AD,e1,AP] at hF2
      simp only [go_sem,h1]
      refine Fd (p.take k) (λr=>r.any (λz=>LL l z.step y.step)) (λi=>[(0,.sl none (GN l)),(1,.sl none (F9 p)),(9,.int .i64 k),(10,.int .i64 i)]) FQ rfl ?_ ?_
      · intro i z zs hd3 hx3 hF3 h03 OH hw3
        rw [ht] at OH
        have hx4 := JD hx3
        have h14:(i:Int)<(p.length:Int) := by omega
        have hbz:FT z.c<=1073741824 := by have := KV hb (AB hx4);simpa only [AV.bulk] using this
        have hz := U1 (L6 (Ks hbz))
        simp only [go_sem,h03,OH,h0,GH hx4,GH hx]
        repeat' (first|(refine pK (AUD _ _ _ hz hy) ?_;simp only [go_sem])|(first|apply cS|apply gS)<;>intro hc<;>simp only [go_sem,hc,hw3,FU])
        all_goals first
          | (have hcl : LL l z.step y.step = true := by grind [LL]
             have h5:LH l p 0 p=false := by rw [hF2,LH,hF3,As,hcl];rfl
             grind [QJ,NR])
          | grind [LL]
      · intro hF3 hlt3
        rw [ht] at hlt3
        simp only [go_sem,ht,hlt3,dF,hw]
        rw [e1,e2,LH,hF3];rfl
    · intro hF2 hlt2
      simp only [go_sem,hlt2,dF]
      all_goals first
        | rfl
        | (simp only [QJ];rfl)
        | grind [QJ,LH,NR]
        | (simp only [QJ,LH,NR];grind)
        | (simp [QJ,LH,NR, *];done)
        | (simp_all [QJ,LH,NR];done)
        | skip
def ATz(l:List Int)(n:Int)(hl:l.length<=1073741824):A' AA 291 [.sl none (GC l),.int .i64 n] (.sl none (GC (Sr l n))):=by
 refine pB ALK rfl ?_
 simp only [f291,go_sem]
 refine Fq l (λ(s:List Int×Bool) r=>s.1++Je n s.2 r) (λk s=>s.1.length<=2*k) (λk s=>[(0,.sl none (GC l)),(1,.int .i64 n),(5,.sl (some 1) (GC s.1)),(6,.bool s.2),(7,.int .i64 k)]) (λk o=>[]) ([],false) FQ sm rfl rfl ?_ ?_
 ·intro k s y ys hd hx hI hF h0 h1 hw
  have hk2:=Fo hd
  have g1:(s.1.length+1)*8<=140737488355328:=FQ
  have g2:s.1.length<=9223372036854775806:=FQ
  have g3:(s.1.length+1+1)*8<=140737488355328:=FQ
  have g4:s.1.length+1<=9223372036854775806:=FQ
  have g5:s.1.length<=9223372036854775805:=FQ
  simp only [go_sem,h0,h1,Gk hx]
  repeat' (first|(first|apply cS|apply gS)<;>intro hc<;>simp only [go_sem,hc,h0,hw,Gk hx,AF,List.length_singleton,g1,g2,g3,g5])
  all_goals first
   | exact ⟨(s.1++[n,y],true),by grind [Je],by simp;omega,rfl,rfl⟩
   | exact ⟨(s.1++[n],true),by grind [Je],by simp;omega,rfl,rfl⟩
   | exact ⟨(s.1++[y],s.2),by grind [Je],by simp;omega,rfl,rfl⟩
   | exact ⟨(s.1,s.2),by grind [Je],by simp;omega,rfl,rfl⟩
   | skip
 ·intro s hI hF
  have g1:(s.1.length+1)*8<=140737488355328:=FQ
  have g2:s.1.length<=9223372036854775806:=FQ
  simp only [go_sem,AX,dF]
  repeat' (first|(first|apply cS|apply gS)<;>intro hc<;>simp only [go_sem,hc,g1,g2])
  all_goals first
   | rfl
   | (simp only [Sr];rfl)
   | grind [Sr,Je]
   | (simp only [Sr,Je];grind)
   | (simp [Sr,Je, *];done)
   | (simp_all [Sr,Je];done)
   | skip
def O8(t:Eo)(n:Int):A' AA 234 [.agg t.c,.int .i64 n] (.bool (HX t n)):=by
 refine pC ANJ rfl ?_
 simp only [f234,go_sem]
 repeat' (first|(first|apply cS|apply gS)<;>intro hc<;>simp only [go_sem,hc])
 all_goals first
  | rfl
  | (simp only [HX];rfl)
  | grind [HX]
  | (simp only [HX];grind)
  | (simp [HX, *];done)
  | (simp_all [HX];done)
  | skip
def Vc{t:Eo}{n:Int}(h:HX t n=true):0<=n/\n<(t.ports.length:Int) /\ ∃ p,t.ports[n.toNat]? =some p/\O2 t n=p.edge/\(KH t.ports)[n.toNat]? =some (.agg p.c):=by
 simp only [HX,AQ,decide_eq_true_eq] at h
 have hg:=AL (l:=t.ports) (i:=n.toNat) FQ
 exact ⟨h.1,h.2,_,hg,by simp [O2,hg],IG hg⟩
def AGR(t:Eo)(n:Int):A' AA 232 [.agg t.c,.int .i64 n] (.bool (J5 t n)):=by
 refine pC ANP rfl ?_
 cases hp:HX t n with
 | false =>
  simp only [f232,go_sem]
  repeat' (first|(refine pK (O8 _ _) ?_;simp only [go_sem,hp])|(first|apply cS|apply gS)<;>intro hc<;>simp only [go_sem,hc,hp])
  all_goals first
   | rfl
   | (simp only [J5];rfl)
   | grind [J5]
   | (simp only [J5];grind)
   | (simp [J5, *];done)
   | (simp_all [J5];done)
   | skip
 | true =>
  obtain ⟨h1,h2,p,h3,h4,h5⟩:=Vc hp
  simp only [f232,go_sem]
  repeat' (first|(refine pK (O8 _ _) ?_;simp only [go_sem,hp,h1,h5])|(first|apply cS|apply gS)<;>intro hc<;>simp only [go_sem,hc,hp,h1,h2,h5])
  all_goals first
   | rfl
   | (simp only [J5];rfl)
   | grind [J5]
   | (simp only [J5];grind)
   | (simp [J5, *];done)
   | (simp_all [J5];done)
   | skip
def AGO(t:Eo)(n:Int):A' AA 162 [.agg t.c,.int .i64 n] (.bool (KR t n)):=by
 refine pC APh rfl ?_
 cases hp:HX t n with
 | false =>
  simp only [f162,go_sem]
  repeat' (first|(refine pK (O8 _ _) ?_;simp only [go_sem,hp])|(first|apply cS|apply gS)<;>intro hc<;>simp only [go_sem,hc,hp])
  all_goals first
   | rfl
   | (simp only [KR];rfl)
   | grind [KR]
   | (simp only [KR];grind)
   | (simp [KR, *];done)
   | (simp_all [KR];done)
   | skip
 | true =>
  obtain ⟨h1,h2,p,h3,h4,h5⟩:=Vc hp
  simp only [f162,go_sem]
  repeat' (first|(refine pK (O8 _ _) ?_;simp only [go_sem,hp,h1,h5])|(first|apply cS|apply gS)<;>intro hc<;>simp only [go_sem,hc,hp,h1,h2,h5])
  all_goals first
   | rfl
   | (simp only [KR];rfl)
   | grind [KR]
   | (simp only [KR];grind)
   | (simp [KR, *];done)
   | (simp_all [KR];done)
   | skip
def AHo(l:List ByteArray)(s:ByteArray):A' AA 235 [.sl none (HA l),.str s] (.bool (uT l s)):=by
 refine A'.fit ACD.c λhf=>?_
 have hl:=fits hf
 rw [Lp] at hl
 refine pC ACD rfl ?_
 simp only [f235,go_sem]
 refine Fd l (λr=>r.any (λy=>decide (y=s))) (λk=>[(0,.sl none (HA l)),(1,.str s),(5,.int .i64 k)]) hl rfl ?_ ?_
 ·intro k y ys hd hx hF h0 h1 hw
  simp only [go_sem,h0,h1,Gj hx,FU]
  repeat' (first|(first|apply cS|apply gS)<;>intro hc<;>simp only [go_sem,hc,hw])
  all_goals first
   | (rw [uT,hF,As,hc];rfl)
   | (rw [As,hc];rfl)
 ·intro hF hlt
  simp only [go_sem,hlt,dF]
  rw [uT,hF];rfl
def AC1(x:Ek)(hb:FT x.c<=1073741824):A' AA 233 [.agg x.c] (.sl none (GC (NV x))):=by
 have hn:=AK (Rf x) hb
 refine pB ANM rfl ?_
 simp only [f233,go_sem]
 repeat' (first|(refine pK (AC0 _ hb) ?_;simp only [go_sem])|(first|apply cS|apply gS)<;>intro hc<;>simp only [go_sem,hc])
 have step : ∀ (y:Ek) (ys:List Ek) (o:List Int),MQ o (y::ys)=MQ (if y.kind=2/\y.field=GI then Sr o y.n else o) ys:=λy ys o=>by rw [MQ]
 have len1 : ∀ (o:List Int) (n:Int),(Sr o n).length<=o.length+1:=λo n=>AAg o n
 refine Fq (Mp x) (λ(o:Option Nat×List Int) r=>MQ o.2 r) (λk o=>o.2.length<=k) (λk o=>[(3,.sl o.1 (GC o.2)),(4,.sl none (F2 (Mp x))),(5,.int .i64 k)]) (λk o=>[some x.c]) (some 1,[]) FQ sm rfl rfl ?_ ?_
 ·intro k o y ys hd hx hI hF h0 h1 hw
  have hk2:=Fo hd
  simp only [go_sem,h0,h1,Fx hx]
  repeat' (first|(refine pK (ATz o.2 y.n (show o.2.length<=1073741824 by omega)) ?_;simp only [go_sem,hw])|(first|apply cS|apply gS)<;>intro hc<;>simp only [go_sem,hc,h0,hw,Fx hx,FU])
  all_goals first
   | exact ⟨(none,Sr o.2 y.n),by rw [step,iP (by simp_all [GI])],by have:=len1 o.2 y.n;simp only;omega,rfl,rfl⟩
   | exact ⟨o,by rw [step,iN (by simp_all [GI])],FQ,rfl,rfl⟩
   | skip
 ·intro o hI hF
  simp only [go_sem,AX,dF]
  rw [NV,hF,MQ]
def AT9(s:Ep)(t:Eo)(hl:zT s.fields)(hb:FT t.c<=1073741824):A' AA 159 [.agg s.c,.agg t.c] (.int .i64 (Mb s t)) := by
  have hbp := HZ hb
  have hn := Ms hbp
  refine pC APr rfl ?_
  simp only [f159,go_sem]
  repeat' (first|(refine pK (AHq _ _ hl hbp) ?_;simp only [go_sem])|(first|apply cS|apply gS)<;>intro hc<;>simp only [go_sem,hc])
  all_goals first
    | rfl
    | (simp only [Mb];rfl)
    | grind [Mb]
    | (simp only [Mb];grind)
    | (simp [Mb, *];done)
    | (simp_all [Mb];done)
    | skip
  refine Fd t.program (λr=>Kg t r) (λk=>[(3,.ptr 1 0),(6,.int .i64 k)]) FQ rfl ?_ ?_
  · intro k y ys hd hx hF h0 h1 hw
    have hby:FT y.c<=1073741824 := by have := KV hbp (AB hx);simpa only [AV.bulk] using this
    have hp1 := mH y.policy
    have hp2 := AK (Rf y.policy) (Hr hby)
    simp only [go_sem,h0,h1,GH hx]
    repeat' (first|(refine pK (AC1 _ (Hr hby)) ?_;simp only [go_sem])|(first|apply cS|apply gS)<;>intro hc<;>simp only [go_sem,hc,h0,h1,hw,GH hx,FU])
    refine Fd (NV y.policy) (λr=>r.all (HX t)) (λi=>[(3,.ptr 1 0),(6,.int .i64 k),(7,.sl none (GC (NV y.policy))),(8,.int .i64 i)]) FQ rfl ?_ ?_
    · intro i z zs hd3 hx3 hF3 h03 OH hw3
      simp only [go_sem,h03,OH,Gk hx3]
      repeat' (first|(refine pK (O8 _ _) ?_;simp only [go_sem])|(first|apply cS|apply gS)<;>intro hc<;>simp only [go_sem,hc,hw3])
      all_goals first
        | (have h5 : (NV y.policy).all (HX t) = false := by rw [hF3, Al]; simp_all
           grind [Mb,Kg])
        | simp_all
    · intro hF3 hlt3
      have h5:(NV y.policy).all (HX t)=true := by rw [hF3];rfl
      simp only [go_sem,hlt3,dF,h0,GH hx,FU]
      repeat' (first|(refine pK (AHo _ _) ?_;simp only [go_sem])|(first|apply cS|apply gS)<;>intro hc<;>simp only [go_sem,hc,hw])
      all_goals first
        | rfl
        | (simp only [Mb,Kg,GI];rfl)
        | grind [Mb,Kg,GI]
        | (simp only [Mb,Kg,GI];grind)
        | (simp [Mb,Kg,GI, *];done)
        | (simp_all [Mb,Kg,GI];done)
        | skip
  · intro hF hlt
    simp only [go_sem,hlt,dF]
    all_goals first
      | rfl
      | (simp only [Mb];rfl)
      | grind [Mb,Kg]
      | (simp only [Mb,Kg];grind)
      | (simp [Mb,Kg, *];done)
      | (simp_all [Mb,Kg];done)
      | skip
def rc(n:En)(h1:n.nodes.length<=1073741824)(h2:n.edges.length<=1073741824):A' AA 98 [.agg n.c] (.tup [.sl none (HA (IF n)),.sl none (HA (Kd n))]):=by
 refine pB AW7 rfl ?_
 simp only [f98,go_sem]
 refine Fq n.nodes (λo r=>o++r.map (·.name)) (λk o=>o.length=k) (λk o=>[(1,.ptr 0 0),(4,.sl (some 1) (HA o)),(5,.sl (some 1) (HA [])),(6,.int .i64 k)]) (λk o=>[some n.c]) [] FQ rfl rfl rfl ?_ ?_
 ·intro k o y ys hd hx hI hF h0 h1 hw
  have hk2:=Fo hd
  simp only [go_sem,h0,h1,hw,Pc hx]
  repeat' (first|(first|apply cS|apply gS)<;>intro hc<;>simp only [go_sem,hc,h0,h1,hw,Pc hx])
  exact ⟨FQ,FQ,o++[y.name],sm,by simp [hI],rfl,rfl⟩
 ·intro o hI hF
  simp only [go_sem,AX,dF]
  have ho:o=IF n:=by simpa [IF] using hF.symm
  subst ho
  refine Fq n.edges (λo r=>o++r.map (·.name)) (λk o=>o.length=k) (λk o=>[(1,.ptr 0 0),(4,.sl (some 1) (HA (IF n))),(5,.sl (some 1) (HA o)),(7,.int .i64 k)]) (λk o=>[some n.c]) [] FQ rfl rfl rfl ?_ ?_
  ·intro k o y ys hd hx hI hF h0 h1 hw
   have hk2:=Fo hd
   simp only [go_sem,h0,h1,hw,TB hx]
   repeat' (first|(first|apply cS|apply gS)<;>intro hc<;>simp only [go_sem,hc,h0,h1,hw,TB hx])
   exact ⟨FQ,FQ,o++[y.name],sm,by simp [hI],rfl,rfl⟩
  ·intro o hI hF
   simp only [go_sem,AX,dF]
   have ho:o=Kd n:=by simpa [Kd] using hF.symm
   subst ho
   rfl
def AcL(n:En)(h1:n.nodes.length<=1073741824)(h2:n.edges.length<=1073741824): ∀ x:El,A' AA 161 [.agg n.c,.agg x.c] (.bool (knB (IF n) x)):=by
 refine TY _ λx ih=>?_
 refine A'.fit ACJ.c λhf=>?_
 have hl:x.args.length<=9223372036854775807:=PI (R2 (show HU [.agg x.c] from hf.2))
 refine pC ACJ rfl ?_
 simp only [f161,go_sem]
 repeat' (first|((first|refine pK (rc n h1 h2) ?_|refine pK (AHo _ _) ?_);simp only [go_sem])|(first|apply cS|apply gS)<;>intro hc<;>simp only [go_sem,hc])
 all_goals first
  | rfl
  | (simp only [JY];rfl)
  | grind [JY]
  | (simp only [JY];grind)
  | (simp [JY, *];done)
  | (simp_all [JY];done)
  | skip
 all_goals
  refine Fd x.args (λr=>bB (IF n) r) (λk=>[(2,.ptr 0 0),(3,.ptr 1 0),(7,.int .i64 k)]) hl rfl ?_ ?_
  ·intro k y ys hd hx hF h0 h1 hw
   have hm:=AB hx
   simp only [go_sem,h0,h1,Ng hx]
   repeat' (first|(refine pK (ih _ hm) ?_;simp only [go_sem])|(first|apply cS|apply gS)<;>intro hc<;>simp only [go_sem,hc,hw])
   all_goals first
    | rfl
    | (simp only [JY,My];rfl)
    | grind [JY,My]
    | (simp only [JY,My];grind)
    | (simp [JY,My, *];done)
    | (simp_all [JY,My];done)
    | skip
  ·intro hF hlt
   simp only [go_sem,hlt,dF]
   all_goals first
    | rfl
    | (simp only [JY];rfl)
    | grind [JY,Rw]
    | (simp only [JY,Rw];grind)
    | (simp [JY,Rw, *];done)
    | (simp_all [JY,Rw];done)
    | skip
def AUA(s:Ep)(t:Eo)(hb:FT t.c<=1073741824):A' AA 158 [.agg s.c,.agg t.c] (.int .i64 (Iq s t)) := by
  have hbp := N6 hb
  have hn := gY hbp
  have hn2 := Og (IX hb)
  refine pC APv rfl ?_
  simp only [f158,go_sem]
  repeat' (first|(refine pK (VD _ (XD hb)) ?_;simp only [go_sem])|(first|apply cS|apply gS)<;>intro hc<;>simp only [go_sem,hc])
  all_goals first
    | rfl
    | (simp only [Iq];rfl)
    | grind [Iq]
    | (simp only [Iq];grind)
    | (simp [Iq, *];done)
    | (simp_all [Iq];done)
    | skip
  refine Fd t.ports (λr=>Ig Sv Sb t.ports (t.ports.length - r.length) r) (λk=>[(2,.ptr 0 0),(3,.ptr 1 0),(6,.int .i64 k)]) FQ rfl ?_ ?_
  · intro k y ys hd hx hF2 h0 h1 hw
    have hk2 := Fo hd
    have hmy := AB hx
    have e1:t.ports.length - (ys.length+1)=k := by omega
    have e2:t.ports.length - ys.length=k+1 := by omega
    have ht:(t.ports.take k).length=k := Jt FQ
    have hby:FT y.c<=1073741824 := by have := ABm hbp hmy;simpa only [AV.bulk] using this
    simp only [AD,e1,AP] at hF2
    simp only [go_sem,h0,h1,IG hx]
    repeat' (first|(refine pK (VD _ (cX hby)) ?_;simp only [go_sem])|(first|apply cS|apply gS)<;>intro hc<;>simp only [go_sem,hc])
    all_goals first
      | (have hp : Sv y = false := by grind [Iq, Sv, Sb, RQ, RP, Re, Rc]
         have h5:Ig Sv Sb t.ports 0 t.ports=false := by rw [hF2,Ig,hp];rfl
         have h6:IT Sv Sb t.ports=false := h5
         grind [Iq,Sv,Sb,RQ,RP,Re,Rc])
      | skip
    have hp:Sv y=true := by grind [Iq,Sv,Sb,RQ,RP,Re,Rc]
    refine Fd (t.ports.take k) (λr=>r.any (λz=>Sb z y)) (λi=>[(2,.ptr 0 0),(3,.ptr 1 0),(6,.int .i64 k),(8,.int .i64 i)]) FQ rfl ?_ ?_
    · intro i z zs hd3 hx3 hF3 h03 OH hw3
      rw [ht] at OH
      have hx4 := JD hx3
      have h14:(i:Int)<(t.ports.length:Int) := by omega
      have hmz := AB hx4
      simp only [go_sem,h03,OH,h0,IG hx4,IG hx,FU]
      repeat' (first|(first|apply cS|apply gS)<;>intro hc<;>simp only [go_sem,hc,hw3])
      all_goals first
        | (have hq : Sb z y = true := by grind [Iq, Sv, Sb, RQ, RP, Re, Rc]
           have h5:Ig Sv Sb t.ports 0 t.ports=false := by rw [hF2,Ig,hF3,As,hq];simp
           have h6:IT Sv Sb t.ports=false := h5
           grind [Iq,Sv,Sb,RQ,RP,Re,Rc])
        | (have hq : Sb z y = false := by grind [Iq, Sv, Sb, RQ, RP, Re, Rc]
           first|(rw [As,hq];rfl)|(rw [hq];rfl))
        | skip
    · intro hF3 hlt3
      rw [ht] at hlt3
      simp only [go_sem,ht,hlt3,dF,hw]
      rw [e1,e2,Ig,hF3,hp];rfl
  · intro hF2 hlt2
    have hok:IT Sv Sb t.ports=true := by simp only [AP] at hF2;exact hF2
    simp only [go_sem,hlt2,dF]
    refine Fd t.ports (λr=>Ig (RQ s.network.edges.length) RP t.ports (t.ports.length - r.length) r) (λk=>[(2,.ptr 0 0),(3,.ptr 1 0),(9,.int .i64 k)]) FQ rfl ?_ ?_
    · intro k y ys hd hx hF2 h0 h1 hw
      have hk2 := Fo hd
      have hmy := AB hx
      have e1:t.ports.length - (ys.length+1)=k := by omega
      have e2:t.ports.length - ys.length=k+1 := by omega
      have ht:(t.ports.take k).length=k := Jt FQ
      simp only [AD,e1,AP] at hF2
      simp only [go_sem,h0,h1,IG hx]
      repeat' (first|(first|apply cS|apply gS)<;>intro hc<;>simp only [go_sem,hc])
      all_goals first
        | (have hp : (RQ s.network.edges.length) y = false := by grind [Iq, Sv, Sb, RQ, RP, Re, Rc]
           have h5:Ig (RQ s.network.edges.length) RP t.ports 0 t.ports=false := by rw [hF2,Ig,hp];rfl
           have h6:IT (RQ s.network.edges.length) RP t.ports=false := h5
           grind [Iq,Sv,Sb,RQ,RP,Re,Rc])
        | skip
      have hp:(RQ s.network.edges.length) y=true := by grind [Iq,Sv,Sb,RQ,RP,Re,Rc]
      refine Fd (t.ports.take k) (λr=>r.any (λz=>RP z y)) (λi=>[(2,.ptr 0 0),(3,.ptr 1 0),(9,.int .i64 k),(10,.int .i64 y.edge),(11,.int .i64 i)]) FQ rfl ?_ ?_
      · intro i z zs hd3 hx3 hF3 h03 OH hw3
        rw [ht] at OH
        have hx4 := JD hx3
        have h14:(i:Int)<(t.ports.length:Int) := by omega
        have hmz := AB hx4
        simp only [go_sem,OH]
        repeat' (first|(first|apply cS|apply gS)<;>intro hc<;>simp only [go_sem,hc,h03,hw3,IG hx4])
        all_goals first
          | (have hq : RP z y = true := by grind [Iq, Sv, Sb, RQ, RP, Re, Rc]
             have h5:Ig (RQ s.network.edges.length) RP t.ports 0 t.ports=false := by rw [hF2,Ig,hF3,As,hq];simp
             have h6:IT (RQ s.network.edges.length) RP t.ports=false := h5
             grind [Iq,Sv,Sb,RQ,RP,Re,Rc])
          | (have hq : RP z y = false := by grind [Iq, Sv, Sb, RQ, RP, Re, Rc]
             first|(rw [As,hq];rfl)|(rw [hq];rfl))
          | skip
      · intro hF3 hlt3
        rw [ht] at hlt3
        simp only [go_sem,ht,hlt3,dF,hw]
        rw [e1,e2,Ig,hF3,hp];rfl
    · intro hF2b hlt2
      have hokb:IT (RQ s.network.edges.length) RP t.ports=true := by simp only [AP] at hF2b;exact hF2b
      simp only [go_sem,hlt2,dF]
      refine Fd t.wires (λr=>Ig (Re t) Rc t.wires (t.wires.length - r.length) r) (λk=>[(3,.ptr 1 0),(12,.int .i64 k)]) FQ rfl ?_ ?_
      · intro k y ys hd hx hF2 h0 h1 hw
        have hk2 := Fo hd
        have hmy := AB hx
        have e1:t.wires.length - (ys.length+1)=k := by omega
        have e2:t.wires.length - ys.length=k+1 := by omega
        have ht:(t.wires.take k).length=k := Jt FQ
        simp only [AD,e1,AP] at hF2
        simp only [go_sem,h0,h1,Hq hx]
        repeat' (first|(refine pK (AGR _ _) ?_;simp only [go_sem])|(first|apply cS|apply gS)<;>intro hc<;>simp only [go_sem,hc,h0,Hq hx])
        all_goals first
          | (have hp : (Re t) y = false := by grind [Iq, Sv, Sb, RQ, RP, Re, Rc]
             have h5:Ig (Re t) Rc t.wires 0 t.wires=false := by rw [hF2,Ig,hp];rfl
             have h6:IT (Re t) Rc t.wires=false := h5
             grind [Iq,Sv,Sb,RQ,RP,Re,Rc])
          | skip
        have hp:(Re t) y=true := by grind [Iq,Sv,Sb,RQ,RP,Re,Rc]
        refine Fd (t.wires.take k) (λr=>r.any (λz=>Rc z y)) (λi=>[(3,.ptr 1 0),(12,.int .i64 k),(13,.int .i64 i)]) FQ rfl ?_ ?_
        · intro i z zs hd3 hx3 hF3 h03 OH hw3
          rw [ht] at OH
          have hx4 := JD hx3
          have h14:(i:Int)<(t.wires.length:Int) := by omega
          have hmz := AB hx4
          simp only [go_sem,h03,OH,h0,Hq hx4,Hq hx]
          repeat' (first|(first|apply cS|apply gS)<;>intro hc<;>simp only [go_sem,hc,hw3])
          all_goals first
            | (have hq : Rc z y = true := by grind [Iq, Sv, Sb, RQ, RP, Re, Rc]
               have h5:Ig (Re t) Rc t.wires 0 t.wires=false := by rw [hF2,Ig,hF3,As,hq];simp
               have h6:IT (Re t) Rc t.wires=false := h5
               grind [Iq,Sv,Sb,RQ,RP,Re,Rc])
            | (have hq : Rc z y = false := by grind [Iq, Sv, Sb, RQ, RP, Re, Rc]
               first|(rw [As,hq];rfl)|(rw [hq];rfl))
            | skip
        · intro hF3 hlt3
          rw [ht] at hlt3
          simp only [go_sem,ht,hlt3,dF,hw]
          rw [e1,e2,Ig,hF3,hp];rfl
      · intro hF2c hlt2
        have hokc:IT (Re t) Rc t.wires=true := by simp only [AP] at hF2c;exact hF2c
        simp only [go_sem,hlt2,dF]
        all_goals first
          | rfl
          | (simp only [Iq];rfl)
          | grind [Iq]
          | (simp only [Iq];grind)
          | (simp [Iq, *];done)
          | (simp_all [Iq];done)
          | skip
def AUC(s:Ep)(t:Eo)(hl:zT s.fields)(hs:FT s.c<=1073741824)(hb:FT t.c<=1073741824):A' AA 104 [.agg s.c,.agg t.c] (.int .i64 (Jr s t)) := by
  have hsn := NG hs
  have g1 := gf (NH hsn)
  have g2 := gj (NI hsn)
  have hbr := TX hb
  have hn := tp hbr
  have hn2 := nS (SJ hb)
  refine pC AR8 rfl ?_
  simp only [f104,go_sem]
  repeat' (first|((first|refine pK (AUA _ _ hb) ?_|refine pK (AT9 _ _ hl hb) ?_);simp only [go_sem])|(first|apply cS|apply gS)<;>intro hc<;>simp only [go_sem,hc])
  all_goals first
    | rfl
    | (simp only [Jr];rfl)
    | grind [Jr]
    | (simp only [Jr];grind)
    | (simp [Jr, *];done)
    | (simp_all [Jr];done)
    | skip
  refine Fd t.routes (λr=>Jv s r) (λk=>[(2,.ptr 0 0),(3,.ptr 1 0),(6,.int .i64 k)]) FQ rfl ?_ ?_
  · intro k y ys hd hx hF h0 h1 hw
    have hby:FT y.c<=1073741824 := by have := tq hbr (AB hx);simpa only [AV.bulk] using this
    simp only [go_sem,h0,h1,Nf hx]
    repeat' (first|((first|refine pK (ADB _ _ hl (Yb hby)) ?_|refine pK (AcS _ (Yc hby)) ?_|refine pK (AcL _ g1 g2 _) ?_);simp only [go_sem])|(first|apply cS|apply gS)<;>intro hc<;>simp only [go_sem,hc,h0,hw,Nf hx])
    all_goals first
      | rfl
      | (simp only [Jr,Jv,mB];rfl)
      | grind [Jr,Jv,mB]
      | (simp only [Jr,Jv,mB];grind)
      | (simp [Jr,Jv,mB, *];done)
      | (simp_all [Jr,Jv,mB];done)
      | skip
  · intro hF hlt
    simp only [go_sem,hlt,dF]
    refine Fd t.demands (λr=>Ig (mI t) lR t.demands (t.demands.length - r.length) r) (λk=>[(3,.ptr 1 0),(7,.int .i64 k)]) FQ rfl ?_ ?_
    · intro k y ys hd hx hF2 h0 h1 hw
      have hk2 := Fo hd
      have hmy := AB hx
      have e1:t.demands.length - (ys.length+1)=k := by omega
      have e2:t.demands.length - ys.length=k+1 := by omega
      have ht:(t.demands.take k).length=k := Jt FQ
      simp only [AD,e1,AP] at hF2
      simp only [go_sem,h0,h1,Ok hx]
      repeat' (first|(refine pK (AGO _ _) ?_;simp only [go_sem])|(first|apply cS|apply gS)<;>intro hc<;>simp only [go_sem,hc])
      all_goals first
        | (have hp : (mI t) y = false := by grind [Jr, mI, lR, Jv]
           have h5:Ig (mI t) lR t.demands 0 t.demands=false := by rw [hF2,Ig,hp];rfl
           have h6:IT (mI t) lR t.demands=false := h5
           grind [Jr,mI,lR,Jv])
        | skip
      have hp:(mI t) y=true := by grind [Jr,mI,lR,Jv]
      refine Fd (t.demands.take k) (λr=>r.any (λz=>lR z y)) (λi=>[(3,.ptr 1 0),(7,.int .i64 k),(8,.ptr 2 0),(9,.int .i64 i)]) FQ rfl ?_ ?_
      · intro i z zs hd3 hx3 hF3 h03 OH hw3
        rw [ht] at OH
        have hx4 := JD hx3
        have h14:(i:Int)<(t.demands.length:Int) := by omega
        have hmz := AB hx4
        simp only [go_sem,h03,OH,Ok hx4]
        repeat' (first|(first|apply cS|apply gS)<;>intro hc<;>simp only [go_sem,hc,h03,hw3,Ok hx4])
        all_goals first
          | (have hq : lR z y = true := by grind [Jr, mI, lR, Jv]
             have h5:Ig (mI t) lR t.demands 0 t.demands=false := by rw [hF2,Ig,hF3,As,hq];simp
             have h6:IT (mI t) lR t.demands=false := h5
             grind [Jr,mI,lR,Jv])
          | (have hq : lR z y = false := by grind [Jr, mI, lR, Jv]
             first|(rw [As,hq];rfl)|(rw [hq];rfl))
          | skip
      · intro hF3 hlt3
        rw [ht] at hlt3
        simp only [go_sem,ht,hlt3,dF,hw]
        rw [e1,e2,Ig,hF3,hp];rfl
    · intro hF2c hlt2
      have hokc:IT (mI t) lR t.demands=true := by simp only [AP] at hF2c;exact hF2c
      simp only [go_sem,hlt2,dF]
      all_goals first
        | rfl
        | (simp only [Jr];rfl)
        | grind [Jr,Jv]
        | (simp only [Jr,Jv];grind)
        | (simp [Jr,Jv, *];done)
        | (simp_all [Jr,Jv];done)
        | skip
def rZ(l:List ByteArray)(hn:l.length<=1073741824)(hl : ∀ y∈l,y.size<=1073741824):A' AA 99 [.sl none (HA l)] (.bool (IT eu dM l)) := by
  refine pC AW4 rfl ?_
  simp only [f99,go_sem]
  refine Fd l (λr=>Ig eu dM l (l.length - r.length) r) (λk=>[(0,.sl none (HA l)),(3,.int .i64 k)]) FQ rfl ?_ ?_
  · intro k y ys hd hx hF2 h0 h1 hw
    have hk2 := Fo hd
    have hmy := AB hx
    have e1:l.length - (ys.length+1)=k := by omega
    have e2:l.length - ys.length=k+1 := by omega
    have ht:(l.take k).length=k := Jt FQ
    simp only [AD,e1,AP] at hF2
    simp only [go_sem,h0,h1,Gj hx]
    repeat' (first|(refine pK (VD _ (hl y hmy)) ?_;simp only [go_sem])|(first|apply cS|apply gS)<;>intro hc<;>simp only [go_sem,hc])
    all_goals first
      | (have hp : eu y = false := by grind [eu, dM]
         have h5:Ig eu dM l 0 l=false := by rw [hF2,Ig,hp];rfl
         have h6:IT eu dM l=false := h5
         grind [eu,dM])
      | skip
    have hp:eu y=true := by grind [eu,dM]
    refine Fd (l.take k) (λr=>r.any (λz=>dM z y)) (λi=>[(0,.sl none (HA l)),(3,.int .i64 k),(5,.int .i64 i)]) FQ rfl ?_ ?_
    · intro i z zs hd3 hx3 hF3 h03 OH hw3
      rw [ht] at OH
      have hx4 := JD hx3
      have h14:(i:Int)<(l.length:Int) := by omega
      have hmz := AB hx4
      simp only [go_sem,h03,OH,h0,Gj hx4,Gj hx,FU]
      repeat' (first|(first|apply cS|apply gS)<;>intro hc<;>simp only [go_sem,hc,hw3])
      all_goals first
        | (have hq : dM z y = true := by grind [eu, dM]
           have h5:Ig eu dM l 0 l=false := by rw [hF2,Ig,hF3,As,hq];simp
           have h6:IT eu dM l=false := h5
           grind [eu,dM])
        | (have hq : dM z y = false := by grind [eu, dM]
           first|(rw [As,hq];rfl)|(rw [hq];rfl))
        | skip
    · intro hF3 hlt3
      rw [ht] at hlt3
      simp only [go_sem,ht,hlt3,dF,hw]
      rw [e1,e2,Ig,hF3,hp];rfl
  · intro hF2c hlt2
    have hokc:IT eu dM l=true := by simp only [AP] at hF2c;exact hF2c
    simp only [go_sem,hlt2,dF]
    all_goals first
      | rfl
      | (simp only [hokc];rfl)
      | grind []
      | (simp only [hokc];grind)
      | (simp [hokc, *];done)
      | (simp_all [hokc];done)
      | skip
def jS(n:En)(k:Int):A' AA 100 [.agg n.c,.int .i64 k] (.bool (If n k)):=by
 refine pC ASL rfl ?_
 simp only [f100,go_sem]
 repeat' (first|(first|apply cS|apply gS)<;>intro hc<;>simp only [go_sem,hc])
 all_goals first
  | rfl
  | (simp only [If];rfl)
  | grind [If]
  | (simp only [If];grind)
  | (simp [If, *];done)
  | (simp_all [If];done)
  | skip
def AGV(n:En)(hb:FT n.c<=1073741824):A' AA 54 [.agg n.c] (.int .i64 (I9 n)) := by
  have b1 := NH hb
  have b2 := NI hb
  have g1 := gf b1
  have g2 := gj b2
  have g3 := ABr (Ta hb)
  have n1:(IF n).length<=1073741824 := by simpa [IF] using g1
  have n2:(Kd n).length<=1073741824 := by simpa [Kd] using g2
  have n3 : ∀ y∈IF n,y.size<=1073741824 := by
    intro y hy
    obtain ⟨x,hx,rfl⟩ := AN.1 hy
    have := ABp b1 hx
    exact cc (by simpa only [AV.bulk] using this)
  have n4 : ∀ y∈Kd n,y.size<=1073741824 := by
    intro y hy
    obtain ⟨x,hx,rfl⟩ := AN.1 hy
    have := ABt b2 hx
    exact cz (by simpa only [AV.bulk] using this)
  refine pC AYU rfl ?_
  simp only [f54,go_sem]
  repeat' (first|((first|refine pK (rc n g1 g2) ?_|refine pK (rZ _ n1 n3) ?_|refine pK (rZ _ n2 n4) ?_);simp only [go_sem])|(first|apply cS|apply gS)<;>intro hc<;>simp only [go_sem,hc])
  all_goals first
    | rfl
    | (simp only [I9];rfl)
    | grind [I9]
    | (simp only [I9];grind)
    | (simp [I9, *];done)
    | (simp_all [I9];done)
    | skip
  refine Fd n.nodes (λr=>r.all (Tq n)) (λk=>[(1,.ptr 0 0),(7,.int .i64 k)]) FQ rfl ?_ ?_
  · intro k y ys hd hx hF h0 h1 hw
    simp only [go_sem,h0,h1,Pc hx]
    repeat' (first|(first|apply cS|apply gS)<;>intro hc<;>simp only [go_sem,hc,hw])
    all_goals first
      | (have hp : Tq n y = false := by grind [Tq]
         have h5:n.nodes.all (Tq n)=false := by rw [hF,Al,hp];rfl
         grind [I9])
      | (have hp : Tq n y = true := by grind [Tq]
         first|(rw [Al,hp];rfl)|(rw [hp];rfl))
      | skip
  · intro hF hlt
    have k1:n.nodes.all (Tq n)=true := by rw [hF];rfl
    simp only [go_sem,hlt,dF]
    refine Fd n.links (λr=>r.all (Ts n)) (λk=>[(1,.ptr 0 0),(9,.int .i64 k)]) FQ rfl ?_ ?_
    · intro k y ys hd hx hF h0 h1 hw
      simp only [go_sem,h0,h1,uE hx]
      repeat' (first|(refine pK (jS _ _) ?_;simp only [go_sem])|(first|apply cS|apply gS)<;>intro hc<;>simp only [go_sem,hc,hw])
      all_goals first
        | (have hp : Ts n y = false := by grind [Ts]
           have h5:n.links.all (Ts n)=false := by rw [hF,Al,hp];rfl
           grind [I9])
        | (have hp : Ts n y = true := by grind [Ts]
           first|(rw [Al,hp];rfl)|(rw [hp];rfl))
        | skip
    · intro hF2 hlt2
      have k2:n.links.all (Ts n)=true := by rw [hF2];rfl
      simp only [go_sem,hlt2,dF]
      refine Fd n.edges (λr=>r.all (λx=>If n x.node)) (λk=>[(1,.ptr 0 0),(11,.int .i64 k)]) FQ rfl ?_ ?_
      · intro k y ys hd hx hF h0 h1 hw
        simp only [go_sem,h0,h1,TB hx]
        repeat' (first|(refine pK (jS _ _) ?_;simp only [go_sem])|(first|apply cS|apply gS)<;>intro hc<;>simp only [go_sem,hc,hw])
        all_goals first
          | (have hp : If n y.node = false := by grind
             have h5:n.edges.all (λx=>If n x.node)=false := by rw [hF,Al,hp];rfl
             grind [I9])
          | (have hp : If n y.node = true := by grind
             first|(rw [Al,hp];rfl)|(rw [hp];rfl))
          | skip
      · intro hF3 hlt3
        have k3:n.edges.all (λx=>If n x.node)=true := by rw [hF3];rfl
        simp only [go_sem,hlt3,dF]
        all_goals first
          | rfl
          | (simp only [I9];rfl)
          | grind [I9]
          | (simp only [I9];grind)
          | (simp [I9, *];done)
          | (simp_all [I9];done)
          | skip
def AT4(n:En)(a b c:Int):A' AA 51 [.agg n.c,.int .i64 a,.int .i64 b,.int .i64 c] (.bool (oA n a b c)):=by
 refine pC AYd rfl ?_
 simp only [f51,go_sem]
 repeat' (first|(first|apply cS|apply gS)<;>intro hc<;>simp only [go_sem,hc])
 all_goals first
  | rfl
  | (simp only [oA];rfl)
  | grind [oA]
  | (simp only [oA];grind)
  | (simp [oA, *];done)
  | (simp_all [oA];done)
  | skip
def AGN(f:Fld):A' AA 102 [.agg f.c] (.bool (Sw f)) := by
  refine pC ASF rfl ?_
  simp only [f102,go_sem]
  repeat' (first|(first|apply cS|apply gS)<;>intro hc<;>simp only [go_sem,hc])
  all_goals first
    | grind [Sw]
    | (simp only [decide_eq_true_eq] at *
       refine ⟨dc, ?_⟩
       rw [Int.tmod_eq_emod_of_nonneg FQ,OQ FQ FQ]
       grind [Sw])
def ADA(a b:Fld):A' AA 103 [.agg a.c,.agg b.c] (.bool (Kr a b)):=by
 refine pC ASC rfl ?_
 simp only [f103,go_sem]
 repeat' (first|(first|apply cS|apply gS)<;>intro hc<;>simp only [go_sem,hc])
 all_goals first
  | rfl
  | (simp only [Kr,i64];rfl)
  | grind [Kr,i64]
  | (simp only [Kr,i64];grind)
  | (simp [Kr,i64, *];done)
  | (simp_all [Kr,i64];done)
  | skip
def AcV(l:List Fld)(hb:FT (GN l)<=1073741824):A' AA 55 [.sl none (GN l)] (.int .i64 (O5 l)) := by
  have hn := ap hb
  refine pC AYP rfl ?_
  simp only [f55,go_sem]
  repeat' (first|(first|apply cS|apply gS)<;>intro hc<;>simp only [go_sem,hc])
  all_goals first
    | rfl
    | (simp only [O5];rfl)
    | grind [O5]
    | (simp only [O5];grind)
    | (simp [O5, *];done)
    | (simp_all [O5];done)
    | skip
  refine Fd l (λr=>Jm l (l.length - r.length) r) (λk=>[(0,.sl none (GN l)),(3,.int .i64 k)]) FQ rfl ?_ ?_
  · intro k y ys hd hx hF2 h0 h1 hw
    have hk2 := Fo hd
    have e1:l.length - (ys.length+1)=k := by omega
    have e2:l.length - ys.length=k+1 := by omega
    have ht:(l.take k).length=k := Jt FQ
    have hby:FT y.c<=1073741824 := by have := AFm hb (AB hx);simpa only [AV.bulk] using this
    simp only [AD,e1,AP] at hF2
    simp only [go_sem,h0,h1,Il hx]
    repeat' (first|(refine pK (VD _ (lI hby)) ?_;simp only [go_sem])|(first|apply cS|apply gS)<;>intro hc<;>simp only [go_sem,hc,h0,Il hx,FU])
    all_goals first
      | rfl
      | (simp only [O5];rfl)
      | grind [O5,Jm,GI]
      | (simp only [O5];grind)
      | (simp [O5,Jm,GI, *];done)
      | (simp_all [O5,Jm,GI];done)
      | skip
    refine Fd (l.take k) (λr=>r.any (λz=>decide (z.name=y.name))) (λi=>[(0,.sl none (GN l)),(3,.int .i64 k),(5,.int .i64 i)]) FQ rfl ?_ ?_
    · intro i z zs hd3 hx3 hF3 h03 OH hw3
      rw [ht] at OH
      have hx4 := JD hx3
      have h14:(i:Int)<(l.length:Int) := by omega
      simp only [go_sem,h03,OH,h0,Il hx4,Il hx,FU]
      repeat' (first|(first|apply cS|apply gS)<;>intro hc<;>simp only [go_sem,hc,hw3])
      all_goals first
        | (have h5 : (l.take k).any (fun z => decide (z.name = y.name)) = true := by rw [hF3, As, hc]; rfl
           grind [O5,Jm,GI])
        | (first|(rw [As,hc];rfl)|(rw [hc];rfl))
        | skip
    · intro hF3 hlt3
      rw [ht] at hlt3
      have k1:(l.take k).any (λz=>decide (z.name=y.name))=false := by rw [hF3];rfl
      simp only [go_sem,ht,hlt3,dF,h0,Il hx]
      repeat' (first|(refine pK (AGN _) ?_;simp only [go_sem])|(first|apply cS|apply gS)<;>intro hc<;>simp only [go_sem,hc])
      all_goals first
        | rfl
        | (simp only [O5];rfl)
        | grind [O5,Jm,GI]
        | (simp only [O5];grind)
        | (simp [O5,Jm,GI, *];done)
        | (simp_all [O5,Jm,GI];done)
        | skip
      refine Fd (l.take k) (λr=>r.any (λz=>Kr z y)) (λi=>[(0,.sl none (GN l)),(3,.int .i64 k),(7,.int .i64 i)]) FQ rfl ?_ ?_
      · intro i z zs hd4 hx5 hF4 h04 h15 hw4
        rw [ht] at h15
        have hx6 := JD hx5
        have h14:(i:Int)<(l.length:Int) := by omega
        simp only [go_sem,h04,h15,h0,Il hx6,Il hx]
        repeat' (first|(refine pK (ADA _ _) ?_;simp only [go_sem])|(first|apply cS|apply gS)<;>intro hc<;>simp only [go_sem,hc,hw4])
        all_goals first
          | (have h5 : (l.take k).any (fun z => Kr z y) = true := by rw [hF4, As, hc]; rfl
             grind [O5,Jm,GI])
          | (first|(rw [As,hc];rfl)|(rw [hc];rfl))
          | skip
      · intro hF4 hlt4
        rw [ht] at hlt4
        have k2:(l.take k).any (λz=>Kr z y)=false := by rw [hF4];rfl
        simp only [go_sem,ht,hlt4,dF,hw]
        rw [e1,e2]
        grind [Jm,GI]
  · intro hF2 hlt2
    simp only [go_sem,hlt2,dF]
    all_goals first
      | rfl
      | (simp only [O5];rfl)
      | grind [O5,Jm]
      | (simp only [O5,Jm];grind)
      | (simp [O5,Jm, *];done)
      | (simp_all [O5,Jm];done)
      | skip
def Head.l(h:Er):List Int:=[h.h0,h.h1,h.h2,h.h3,h.h4,h.h5,h.h6,h.h7,h.h8,h.h9]
def AEI(h:Er):h.c=h.l.map (.int .i64):=rfl
def FX(h:Er):Bool:=h.l.all MC
def yI(h:Er):A' AA 31 [.agg h.c] (.bool (FX h)):=by
 refine pC AZE rfl ?_
 simp only [f31,go_sem]
 refine Fd h.l (λr=>r.all MC) (λk=>[(1,.ptr 0 0),(3,.int .i64 k)]) (by simp [Head.l]) rfl ?_ ?_
 ·intro k y ys hd hx hF h0 h1 hw
  have h2:(k:Int)<10:=h1
  have h3:(k:Int)<((10:Nat):Int):=h1
  have hg:h.c[k]? =some (.int .i64 y):=by rw [AEI,List.getElem?_map,hx];rfl
  simp only [go_sem,h0,h2,h3,hg]
  repeat' (first|(first|apply cS|apply gS)<;>intro hc<;>simp only [go_sem,hc,h0,h3,hg,hw])
  all_goals first
   | rfl
   | (simp only [FX];rfl)
   | grind [FX,MC]
   | (simp only [FX,MC];grind)
   | (simp [FX,MC, *];done)
   | (simp_all [FX,MC];done)
   | skip
 ·intro hF hlt
  have h2 : ¬ ((h.l.length:Nat):Int)<10:=by simp [Head.l]
  simp only [go_sem,h2,dF]
  rw [FX,hF];rfl
@[go_sem] def Agt:((0:Int)<((10:Nat):Int))=True:=dc
@[go_sem] def Ags:((9:Int)<((10:Nat):Int))=True:=dc
def Uw(H:FR)(x y:Option (List AV)):(H++[x]).set H.length y=H++[y]:=sm
attribute [go_sem] Uw List.getElem?_concat_length
def AAU(n:Nat)(Q:Exit->Kt)(e:Ft)(H2:FR):Prop :=
 ∃ st av,H2[n]? =some (some (G6 st av))/\((st=0/\Q .normal e (H2.set n none))\/(st = -2/\Q .ret e (H2.set n none)) \/ ∃ k:Nat,st=(k:Int)+1/\Q (.exit k) e (H2.set n none))
def Sn {P:Program} {n tag:Nat} {h:Hint} {g:Operand} {rs:Array Tmp} {assign body:Code} {Q:Exit->Kt} {e:Ft} {H:FR} {f:FuncId} {first captured:List AV}
  (hg:G5 P none e g = .fn (.func f) first captured)
  (hc:FZ P f (first.map AV.borrow++[.yld H.length ⟨tag,rs,assign,body⟩]++captured.map AV.borrow) (H++[some (G6 0 (HY n e))]) (λ_ H2=>AAU H.length Q e H2)):rfK P n h none g rs assign body Q e H :=
 ⟨trivial,tag,f,first,captured,hg,hc⟩
def JZ(t:Eo)(n:Int):Int:=if HX t n=true then O2 t n else -1
def Ib(e:Int):Nat->List Port->Int
 | _,[] => -1
 | i,x::r=>if 0<=e/\x.edge=e then (i:Int) else Ib e (i+1) r
def IOq(t:Eo)(e:Int):Int:=Ib e 0 t.ports
def JH(e:Int):Nat->List Port->Int
 | _,[] => -1
 | i,x::r=>if x.edge ≠ -1/\x.edge=e then (i:Int) else JH e (i+1) r
def IA(t:Eo)(e:Int):Int:=JH e 0 t.ports
def LE(p:Int)(h:Er):Er×Bool:=if p<0 then (Head.z,false) else ({ { h with h0:=p } with h9:=0 },true)
def R3(e:Int)(h:Er):Er×Bool:=if e<0 then (Head.z,false) else ({ h with h0:=i64 (10000+e) },true)
def jP(n lo hi:Int):A' AA 130 [.int .i64 n,.int .i64 lo,.int .i64 hi] (.bool (decide (lo<=n)&&decide (n<=hi))):=by
 refine pC AQ0 rfl ?_
 simp only [f130,go_sem]
 repeat' (first|(first|apply cS|apply gS)<;>intro hc<;>simp only [go_sem,hc])
 all_goals grind
def AUG(t:Eo)(n:Int):A' AA 74 [.agg t.c,.int .i64 n] (.int .i64 (JZ t n)):=by
 refine A'.fit AHe.c λhf=>?_
 have hl:=NF (R2 hf)
 have hw:IntKind.i64.wrap ((t.ports.length:Int) - 1)=(t.ports.length:Int) - 1:=OQ FQ FQ
 refine pC AHe rfl ?_
 cases hp:HX t n with
 | false =>
  have hq:(decide (0<=n)&&decide (n<=(t.ports.length:Int) - 1))=false:=by unfold HX at hp;grind
  simp only [f74,go_sem]
  repeat' (first|(refine pK (jP _ _ _) ?_;simp only [go_sem,hw,hq])|(first|apply cS|apply gS)<;>intro hc<;>simp only [go_sem,hc,hw,hq])
  all_goals first
   | rfl
   | (simp only [JZ,hp];rfl)
   | grind [JZ]
   | (simp only [JZ,hp];grind)
   | (simp [JZ,hp, *];done)
   | (simp_all [JZ,hp];done)
   | skip
 | true =>
  obtain ⟨h1,h2,p,h3,h4,h5⟩:=Vc hp
  have hq:(decide (0<=n)&&decide (n<=(t.ports.length:Int) - 1))=true:=by grind
  simp only [f74,go_sem]
  repeat' (first|(refine pK (jP _ _ _) ?_;simp only [go_sem,hw,h1])|(first|apply cS|apply gS)<;>intro hc<;>simp only [go_sem,hc,h1,h5])
  all_goals first
   | rfl
   | (simp only [JZ,hp];rfl)
   | grind [JZ]
   | (simp only [JZ,hp];grind)
   | (simp [JZ,hp, *];done)
   | (simp_all [JZ,hp];done)
   | skip
def jT(t:Eo)(e:Int):A' AA 106 [.agg t.c,.int .i64 e] (.int .i64 (IOq t e)):=by
 refine A'.fit ACN.c λhf=>?_
 have hl:=NF (R2 hf)
 refine pC ACN rfl ?_
 simp only [f106,go_sem]
 refine Fd t.ports (λr=>Ib e (t.ports.length - r.length) r) (λk=>[(1,.int .i64 e),(2,.ptr 0 0),(5,.int .i64 k)]) hl rfl ?_ ?_
 ·intro k y ys hd hx hF h0 h1 hw
  have hk2:=Fo hd
  have e1:t.ports.length - (ys.length+1)=k:=FQ
  have e2:t.ports.length - ys.length=k+1:=FQ
  simp only [AD,e1,AP] at hF
  simp only [go_sem,h1]
  repeat' (first|(first|apply cS|apply gS)<;>intro hc<;>simp only [go_sem,hc,h0,hw,IG hx,e1,e2])
  all_goals first
   | rfl
   | (simp only [IOq,Ib];rfl)
   | grind [IOq,Ib]
   | (simp only [IOq,Ib];grind)
   | (simp [IOq,Ib, *];done)
   | (simp_all [IOq,Ib];done)
   | skip
 ·intro hF hlt
  simp only [go_sem,hlt,dF]
  all_goals first
   | rfl
   | (simp only [IOq];rfl)
   | grind [IOq,Ib]
   | (simp only [IOq,Ib];grind)
   | (simp [IOq,Ib, *];done)
   | (simp_all [IOq,Ib];done)
   | skip
def AUF(t:Eo)(h:Er):A' AA 44 [.agg t.c,.agg h.c] (.tup [.agg (R3 (JZ t h.h0) h).1.c,.bool (R3 (JZ t h.h0) h).2]):=by
 refine pB AYv rfl ?_
 simp only [f44,go_sem]
 repeat' (first|(refine pK (AUG _ _) ?_;simp only [go_sem])|(first|apply cS|apply gS)<;>intro hc<;>simp only [go_sem,hc])
 all_goals first
  | rfl
  | (simp only [R3,i64];rfl)
  | grind [R3,i64]
  | (simp only [R3,i64];grind)
  | (simp [R3,i64, *];done)
  | (simp_all [R3,i64];done)
  | skip
def AC2(t:Eo)(H:FR):FZ AA 81 [.agg t.c] H (λv H'=>v = .fn (.func 135) [] [.ptr H.length 0]/\H'=H++[some t.c]):=by
 refine aC AX0 rfl ?_
 simp only [f81,go_sem]
def pA (t:Eo) (hl:t.ports.length<=1073741824) (o p:Nat) (L:LoopRec) (H0:FR) (Inv:Nat->FR->Prop) (Q:FR->Prop)
  (hp : ∀ k H,Inv k H->H[p]? =some (some t.c)) (hg : ∀ k H x,Inv k H->Inv k (H++[x]))
  (round : ∀ k x H,t.ports[k]? =some x->x.edge ≠ -1->Inv k H->L4 AA o L [.int .i64 k,.int .i64 x.edge] H (λv H'=>(v = .bool true/\Inv (k+1) H')\/(v = .bool false/\Q H')))
  (skip : ∀ k x H,t.ports[k]? =some x->x.edge = -1->Inv k H->Inv (k+1) H)
  (fin : ∀ H,Inv t.ports.length H->Q H) (h0:Inv 0 H0):FZ AA 135 [.yld o L,.ptr p 0] H0 (λ_ H'=>Q H'):=by
 refine aC AQx rfl ?_
 have hp0:=hp 0 H0 h0
 simp only [f135,go_sem,hp0]
 refine Km (σ:=Nat×FR) (λs=>[(0,.yld o L),(6,.sl none (KH t.ports)),(7,.int .i64 t.ports.length),(8,.int .i64 s.1)]) (λs=>s.2) (λs=>s.1<=t.ports.length/\Inv s.1 s.2) (λs=>t.ports.length - s.1) (0,H0) ⟨BW _,h0⟩ rfl rfl ?_
 rintro ⟨k,H⟩ ⟨hk,hI⟩
 by_cases hlt:k<t.ports.length
 ·obtain ⟨x,hx⟩ : ∃ x,t.ports[k]? =some x:=⟨_,AL hlt⟩
  have h0:(0:Int)<=(k:Int):=FQ
  have h1:(k:Int)<(t.ports.length:Int):=FQ
  have hw:=Mj (k:=k) FQ
  simp only [go_sem,h0,h1,IG hx,dT]
  repeat' (first|(first|apply cS|apply gS)<;>intro hc<;>simp only [go_sem,hc,hw])
  ·refine Md.intro (round k x _ hx (by simpa using hc) (hg _ _ _ hI)) λv H' hr=>?_
   rcases hr with ⟨rfl,hi⟩|⟨rfl,hq⟩
   ·simp only [go_sem,hw,Bool.not_true]
    exact ⟨(k+1,H'),⟨FQ,hi⟩,FQ,rfl,rfl⟩
   ·simp only [go_sem,Aw]
    exact hq
  ·exact ⟨(k+1,H++[some x.c]),⟨FQ,hg _ _ _ (skip k x H hx (by simpa using hc) hI)⟩,FQ,rfl,rfl⟩
 ·have h1 : ¬ (k:Int)<(t.ports.length:Int):=FQ
  have hkl:k=t.ports.length:=FQ
  simp only [go_sem,h1,dF]
  exact fin H (hkl▸hI)
def AUE(t:Eo)(hl:t.ports.length<=1073741824)(e:Int):A' AA 39 [.agg t.c,.int .i64 e] (.int .i64 (IA t e)):=by
 refine pC AZB rfl ?_
 simp only [f39,go_sem]
 refine Fr.intro (AC2 t _) λv H' hr=>?_
 obtain ⟨rfl,rfl⟩:=hr
 simp only [go_sem]
 have step : ∀ (k:Nat) (x:Port),t.ports[k]? =some x->JH e k (t.ports.drop k)=if x.edge ≠ -1/\x.edge=e then (k:Int) else JH e (k+1) (t.ports.drop (k+1)):=λk x hx=>by
  obtain ⟨hlt,rfl⟩:=AC.1 hx
  rw [BL hlt,JH]
 refine Sn (tag:=39) rfl (FZ.mono (pA t hl 4 3 _ _
  (λk H => ∃ g,H=some t.c::some [.int .i64 e]::some [.int .i64 0]::some t.c::some (G6 0 (HY 15 [(3,.ptr 1 0),(4,.ptr 2 0),(8,.fn (.func 135) [] [.ptr 3 0])]))::g/\IA t e=JH e k (t.ports.drop k))
  (λH=>(∃ g,H=some t.c::some [.int .i64 e]::some [.int .i64 0]::some t.c::some (G6 0 (HY 15 [(3,.ptr 1 0),(4,.ptr 2 0),(8,.fn (.func 135) [] [.ptr 3 0])]))::g/\IA t e = -1)
   \/ ∃ g r,H=some t.c::some [.int .i64 e]::some [.int .i64 r]::some t.c::some (G6 (-2) (HY 15 [(3,.ptr 1 0),(4,.ptr 2 0),(8,.fn (.func 135) [] [.ptr 3 0])]))::g/\IA t e=r)
  ?_ ?_ ?_ ?_ ?_ ?_) λv H2 hq=>?_)
 ·rintro k H ⟨g,rfl,_⟩;rfl
 ·rintro k H x ⟨g,rfl,h⟩;exact ⟨g++[x],rfl,h⟩
 ·rintro k x H hx hne ⟨g,rfl,h⟩
  refine Js (h:=h39) (n:=15) mixed rfl ⟨kr,kr⟩ dc _ _ _ _ rfl rfl rfl ?_
  show I3 _ _ _ _ _ _ [(10,.int .i64 x.edge),(9,.int .i64 k),(0,.undef),(1,.undef),(2,.undef),(3,.ptr 1 0),(4,.ptr 2 0),(5,.undef),(6,.undef),(7,.undef),(8,.fn (.func 135) [] [.ptr 3 0]),(9,.undef),(10,.undef),(11,.undef),(12,.undef),(13,.undef),(14,.undef)] _
  simp only [go_sem]
  refine ⟨_,rfl,T4 _ _ _ (λhc=>?_) (λhc=>?_)⟩
  ·simp only [go_sem,hc]
   exact ⟨_,rfl,.inr (.inr ⟨g,(k:Int),rfl,by rw [h,step k x hx,iP ⟨hne,by simpa using hc⟩]⟩)⟩
  ·simp only [go_sem,hc]
   first
    | exact ⟨_,rfl,g,rfl,by rw [h,step k x hx,iN (λc=>by rw [c.2] at hc;simp at hc)]⟩
    | exact ⟨_,rfl,.inl ⟨g,rfl,by rw [h,step k x hx,iN (λc=>by rw [c.2] at hc;simp at hc)]⟩⟩
 ·rintro k x H hx hne ⟨g,rfl,h⟩
  exact ⟨g,rfl,by rw [h,step k x hx,iN (λc=>c.1 hne)]⟩
 ·rintro H ⟨g,rfl,h⟩
  exact .inl ⟨g,rfl,by rw [h,List.drop_length];rfl⟩
 ·exact ⟨[],rfl,rfl⟩
 ·rcases hq with ⟨g,rfl,h⟩|⟨g,r,rfl,h⟩
  ·refine ⟨0,_,rfl,.inl ⟨rfl, ?_⟩⟩
   show ba 0 _ .normal _ (some t.c::some [.int .i64 e]::some [.int .i64 0]::some t.c::none::g)
   simp only [go_sem,h]
   all_goals skip
  ·refine ⟨-2,_,rfl,.inr (.inl ⟨rfl, ?_⟩)⟩
   show ba 0 _ .ret _ (some t.c::some [.int .i64 e]::some [.int .i64 r]::some t.c::none::g)
   simp only [go_sem,h]
   all_goals skip
def re(t:Eo)(hl:t.ports.length<=1073741824)(h:Er):A' AA 26 [.agg t.c,.agg h.c] (.tup [.agg (LE (IA t (i64 (h.h0 - 10000))) h).1.c,.bool (LE (IA t (i64 (h.h0 - 10000))) h).2]):=by
 refine pB AZQ rfl ?_
 simp only [f26,go_sem]
 repeat' (first|(refine pK (AUE _ hl _) ?_;simp only [go_sem])|(first|apply cS|apply gS)<;>intro hc<;>simp only [go_sem,hc])
 all_goals first
  | rfl
  | (simp only [LE,i64];rfl)
  | grind [LE,i64]
  | (simp only [LE,i64];grind)
  | (simp [LE,i64, *];done)
  | (simp_all [LE,i64];done)
  | skip
def mr{α:Type}{p:α->Bool}{q:α->α->Bool}{l:List α}(h:IT p q l=true): ∀ (k:Nat) (x:α),l[k]? =some x->p x=true /\ ∀ (j:Nat) (y:α),j<k->l[j]? =some y->q y x=false:=by
 have key : ∀ (n i:Nat),l.length - i=n->Ig p q l i (l.drop i)=true -> ∀ (k:Nat) (x:α),i<=k->l[k]? =some x->p x=true /\ ∀ (j:Nat) (y:α),j<k->l[j]? =some y->q y x=false:=by
  intro n
  induction n with
  | zero =>
   intro i hi _ k x hk hx
   have:=(AC.1 hx).1
   omega
  | succ n ih =>
   intro i hi ho k x hk hx
   have hlt:i<l.length:=FQ
   rw [BL hlt,Ig] at ho
   simp only [AQ,BU] at ho
   obtain ⟨⟨h1,h2⟩,h3⟩:=ho
   rcases Nat.eq_or_lt_of_le hk with rfl|hk
   ·rw [AL hlt] at hx
    cases hx
    refine ⟨h1,λj y hj hy=>?_⟩
    rw [List.any_eq_false] at h2
    have hm:y∈l.take i:=AB (i:=j) (by rw [Aj,iP hj];exact hy)
    simpa using h2 y hm
   ·exact ih (i+1) FQ h3 k x hk hx
 intro k x hx
 exact key l.length 0 FQ (by rw [BN];exact h) k x (BW _) hx
section
variable {s:Ep} {t:Eo} {h:Er}
end
end Go.AI
