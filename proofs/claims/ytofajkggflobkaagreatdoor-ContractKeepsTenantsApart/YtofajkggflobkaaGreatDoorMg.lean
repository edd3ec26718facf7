/- What the functions of the layers field,graph,token,syntax compute,in plain Lean. -/
import Derived.Test.YtofajkggflobkaaGreatDoorQd
import Derived.Test.YtofajkggflobkaaGreatDoorMf
import Derived.Test.YtofajkggflobkaaGreatDoorMe
set_option linter.unusedSimpArgs false
set_option linter.unusedVariables false
set_option linter.defProp false
set_option maxHeartbeats 8000000
open Go.Proofs.Tryz
open Go.AI renaming Sizes->Eg,Pred->Eh,Policy->Ei,Regex->Ej,Stage->Ek,Network->El,Tenant->Em,Setup->En,Head->Eo
open Bool renaming and_eq_true->AQ,false_or->BM,not_eq_false'->CX,not_eq_true'->BW,not_false->Ax,true_or->BX
open Int renaming lt_irrefl->AW
open List renaming all_cons->Al,all_nil->Ay,any_cons->Au,append_assoc->AE,append_nil->Ai,drop_eq_getElem_cons->BL,drop_zero->BO,getElem?_eq_getElem->AL,getElem?_eq_some_iff->AC,getElem?_take->Ak,length_append->AF,length_cons->AD,length_map->Aq,map_cons->AS,mem_cons->AX,mem_map->AP,mem_of_find?_eq_some->DH,mem_of_getElem?->AB,nil_append->AN
open Nat renaming le_trans->AK,sub_self->AO,sub_zero->Bo,zero_le->BY
open Go.Proofs.Tryz renaming prog->AA
namespace Go.AI
def i64(n:Int):Int:=IntKind.i64.wrap n
def bz(c:UInt8):Int:=c.toNat
def loB(c:UInt8):Bool:=decide (97<=bz c)&&decide (bz c<=122)
def dgB(c:UInt8):Bool:=decide (48<=bz c)&&decide (bz c<=57)
def wdB(c:UInt8):Bool:=loB c||dgB c||bz c==95
def sV:Nat->List UInt8->Bool
 | _,[]=>true
 | i,c::l=>(loB c||((dgB c||bz c==95)&&i !=0))&&sV (i+1) l
def nmB(s:ByteArray):Bool:=sV 0 s.data.toList&&(decide (1<=(s.size:Int))&&decide ((s.size:Int)<=24))
def MQ:List UInt8->Nat
 | []=>0
 | c::l=>if wdB c then MQ l+1 else 0
def TK(s:ByteArray):Bool:=HK.any (λy=>decide (y=s))
def tnB(s:ByteArray):Bool :=
 (decide (1<=(s.size:Int))&&decide ((s.size:Int)<=24))&&((match s.data.toList with|c::_=>loB c|[]=>false)&&(((MQ s.data.toList:Int)==(s.size:Int)) && !TK s))
def GC:ByteArray:=⟨#[112,111,114,116]⟩
def Uj(s:ByteArray):Bool:=tnB s||decide (s=GC)
def Qi(a b:Int):Int:=if a<b then b else a
def Sizes.more(a b:Eg):Eg:=⟨i64 (a.nodes+b.nodes),Qi a.depth (i64 (b.depth+1))⟩
mutual
def lD:Eh->Eg
 | ⟨_,_,_,_,args⟩=>U1 args ⟨1,1⟩
def U1:List Eh->Eg->Eg
 | [],o=>o
 | x::l,o=>U1 l (o.more (lD x))
end
mutual
def lE:Ei->Eg
 | ⟨k,p,_,_,args⟩=>Po args (if k=1 then Sizes.more ⟨1,1⟩ (lD p) else ⟨1,1⟩)
def Po:List Ei->Eg->Eg
 | [],o=>o
 | x::l,o=>Po l (o.more (lE x))
end
mutual
def szR:Ej->Eg
 | ⟨_,_,args⟩=>Zc args ⟨1,1⟩
def Zc:List Ej->Eg->Eg
 | [],o=>o
 | x::l,o=>Zc l (o.more (szR x))
end
def zO(x:Eh):lD x=U1 x.args ⟨1,1⟩:=by cases x;rw [lD]
def Ya(x:Eh)(l:List Eh)(o:Eg):U1 (x::l) o=U1 l (o.more (lD x)):=by rw [U1]
def cr(o:Eg):U1 [] o=o:=by rw [U1]
def Zd(x:Ei):lE x=Po x.args (if x.kind=1 then Sizes.more ⟨1,1⟩ (lD x.pred) else ⟨1,1⟩):=by cases x;rw [lE]
def Ml(x:Ei)(l:List Ei)(o:Eg):Po (x::l) o=Po l (o.more (lE x)):=by rw [Po]
def OP(o:Eg):Po [] o=o:=by rw [Po]
def AHu(x:Ej):szR x=Zc x.args ⟨1,1⟩:=by cases x;rw [szR]
def rU(x:Ej)(l:List Ej)(o:Eg):Zc (x::l) o=Zc l (o.more (szR x)):=by rw [Zc]
def zN(o:Eg):Zc [] o=o:=by rw [Zc]
mutual
def qW:Eh->Eh->Bool
 | ⟨k,f,n,m,xs⟩,⟨k',f',n',m',ys⟩=>(k==k'&&(decide (f=f')&&(n==n'&&(m==m'&&xs.length==ys.length))))&&T6 xs ys
def T6:List Eh->List Eh->Bool
 | [],_=>true
 | x::l,y::r=>qW x y&&T6 l r
 | _::_,[]=>false
end
mutual
def eqO:Ei->Ei->Bool
 | ⟨k,p,f,n,xs⟩,⟨k',p',f',n',ys⟩=>qW p p'&&((k==k'&&(decide (f=f')&&(n==n'&&xs.length==ys.length)))&&AZF xs ys)
def AZF:List Ei->List Ei->Bool
 | [],_=>true
 | x::l,y::r=>eqO x y&&AZF l r
 | _::_,[]=>false
end
theorem Ir(x y:Eh):qW x y=((x.kind==y.kind&&(decide (x.field=y.field)&&(x.n==y.n&&(x.m==y.m&&x.args.length==y.args.length))))&&T6 x.args y.args):=by cases x;cases y;rw [qW]
theorem I4(x y:Eh)(l r:List Eh):T6 (x::l) (y::r)=(qW x y&&T6 l r):=by rw [T6]
theorem L1(l:List Eh):T6 [] l=true:=by rw [T6]
def Oi:List ByteArray->List ByteArray->Bool
 | [],_=>true
 | x::l,y::r=>decide (x=y)&&Oi l r
 | _::_,[]=>false
theorem Jq(x y:ByteArray)(l r:List ByteArray):Oi (x::l) (y::r)=(decide (x=y)&&Oi l r):=by rw [Oi]
theorem Lx(l:List ByteArray):Oi [] l=true:=by rw [Oi]
def cY(x y:Stp):Bool :=
 (x.kind==y.kind&&(decide (x.var=y.var)&&(decide (x.field=y.field)&&(x.n==y.n&&(x.m==y.m&&x.key.length==y.key.length)))))&&Oi x.key y.key
def NK(n:Int):Bool:=decide (0<=n)&&decide (n<=65535)
def JO(x:Eh):Bool:=decide (x.field=⟨#[]⟩)&&(x.n==0&&x.m==0)
def Sh(x:Eh):Bool×Nat :=
 if x.kind=1\/x.kind=2 then (JO x,0)
 else if x.kind=3 then (Uj x.field&&(NK x.n&&x.m==0),0)
 else if x.kind=4 then (Uj x.field&&(NK x.n&&(decide (0<=x.m)&&decide (x.m<=16))),0)
 else if x.kind=5 then (Uj x.field&&(decide (0<=x.n)&&(decide (x.n<=x.m)&&decide (x.m<=65535))),0)
 else if x.kind=6 then (JO x,1)
 else if x.kind=7\/x.kind=8 then (JO x,2)
 else if x.kind=9 then (decide (x.field=⟨#[]⟩)&&(decide (0<=x.n)&&(decide (x.n<x.m)&&decide (x.m<=1073741824))),0)
 else (false,0)
mutual
def NL:Eh->Bool
 | ⟨k,f,n,m,xs⟩=>((Sh ⟨k,f,n,m,xs⟩).1&&xs.length==(Sh ⟨k,f,n,m,xs⟩).2)&&WB xs
def WB:List Eh->Bool
 | []=>true
 | x::l=>NL x&&WB l
end
theorem Hn(x:Eh):NL x=(((Sh x).1&&x.args.length==(Sh x).2)&&WB x.args):=by cases x;rw [NL]
def Kc(x:Eh)(l:List Eh):WB (x::l)=(NL x&&WB l):=by rw [WB]
def Hm:WB []=true:=by rw [WB]
abbrev Ph:Eh:=Pred.z
def VU(x:Ei):Bool×Nat :=
 if x.kind=1 then (NL x.pred&&(decide (x.field=⟨#[]⟩)&&x.n==0),0)
 else if x.kind=2 then (Uj x.field&&(qW x.pred Ph&&NK x.n),0)
 else if x.kind=3\/x.kind=4 then (qW x.pred Ph&&(decide (x.field=⟨#[]⟩)&&x.n==0),2)
 else if x.kind=5 then (qW x.pred Ph&&(decide (x.field=⟨#[]⟩)&&x.n==0),1)
 else (false,0)
mutual
def Rg:Ei->Bool
 | ⟨k,p,f,n,xs⟩=>((VU ⟨k,p,f,n,xs⟩).1&&xs.length==(VU ⟨k,p,f,n,xs⟩).2)&&WC xs
def WC:List Ei->Bool
 | []=>true
 | x::l=>Rg x&&WC l
end
theorem IP(x:Ei):Rg x=(((VU x).1&&x.args.length==(VU x).2)&&WC x.args):=by cases x;rw [Rg]
def Kd(x:Ei)(l:List Ei):WC (x::l)=(Rg x&&WC l):=by rw [WC]
def Ip:WC []=true:=by rw [WC]
def yZ(x:Ej):Bool×Nat :=
 if x.kind=1\/x.kind=3 then (decide (x.node=⟨#[]⟩),0)
 else if x.kind=2 then (tnB x.node,0)
 else if x.kind=4\/x.kind=5 then (decide (x.node=⟨#[]⟩),2)
 else if x.kind=6 then (decide (x.node=⟨#[]⟩),1)
 else (false,0)
mutual
def fmR:Ej->Bool
 | ⟨k,n,xs⟩=>((yZ ⟨k,n,xs⟩).1&&xs.length==(yZ ⟨k,n,xs⟩).2)&&aY xs
def aY:List Ej->Bool
 | []=>true
 | x::l=>fmR x&&aY l
end
theorem Qs(x:Ej):fmR x=(((yZ x).1&&x.args.length==(yZ x).2)&&aY x.args):=by cases x;rw [fmR]
def ZB(x:Ej)(l:List Ej):aY (x::l)=(fmR x&&aY l):=by rw [aY]
def AB3:aY []=true:=by rw [aY]
def QZ(z:Eg):Int:=if z.nodes>200\/z.depth>20 then 2 else 0
def qR(z:Eg)(b:Bool):Int:=if QZ z=0 then (if b then 0 else 1) else QZ z
def ckP(x:Eh):Int:=qR (lD x) (NL x)
def Up(x:Ei):Int:=qR (lE x) (Rg x)
def ckR(x:Ej):Int:=qR (szR x) (fmR x)
abbrev w6:Stp:=Stp.z
def ZA(x:Stp):Bool :=
 if cY x w6 then true
 else if !tnB x.var\/x.key.length<1\/4<x.key.length \/ !x.key.all Uj then false
 else if x.kind=1 then (Uj x.field||decide (x.field=⟨#[]⟩))&&(x.n==0&&x.m==0)
 else if x.kind=2 then decide (x.field=⟨#[]⟩)&&(x.n==0&&x.m==0)
 else if x.kind=3 then decide (x.field=⟨#[]⟩)&&(decide (0<=x.n)&&(decide (x.n<=1073741824)&&x.m==0))
 else if x.kind=4 then Uj x.field&&(decide (0<=x.n)&&(decide (x.n<=x.m)&&decide (x.m<=65535)))
 else if x.kind=5 then Uj x.field&&(x.n==0&&x.m==0)
 else if x.kind=6 then decide (x.field=⟨#[]⟩)&&(decide (1<=x.n)&&(decide (x.n<=65535)&&(decide (1<=x.m)&&decide (x.m<=1073741824))))
 else false
def cZ(x:Stp):Int:=if ZA x then 0 else 1
def Pt:List Ek->Int
 | []=>0
 | x::l=>if Up x.policy=0 then (if cZ x.step=0 then Pt l else cZ x.step) else Up x.policy
def XH(l:List Ek):Int:=if 8<l.length then 2 else Pt l
mutual
def OQ:Ei->Int
 | ⟨k,_,_,_,args⟩=>if k=5 then i64 (Jx args 0+1) else Jx args 0
def Jx:List Ei->Int->Int
 | [],o=>o
 | x::l,o=>Jx l (Qi o (OQ x))
end
mutual
def Yh:Ei->Int
 | ⟨k,_,_,_,args⟩=>if k=2 then i64 (Lr args 0+1) else Lr args 0
def Lr:List Ei->Int->Int
 | [],o=>o
 | x::l,o=>Lr l (i64 (o+Yh x))
end
theorem Mm(x:Ei):OQ x=if x.kind=5 then i64 (Jx x.args 0+1) else Jx x.args 0:=by cases x;rw [OQ]
def Zh(x:Ei)(l:List Ei)(o:Int):Jx (x::l) o=Jx l (Qi o (OQ x)):=by rw [Jx]
def cw(o:Int):Jx [] o=o:=by rw [Jx]
theorem OU(x:Ei):Yh x=if x.kind=2 then i64 (Lr x.args 0+1) else Lr x.args 0:=by cases x;rw [Yh]
def de(x:Ei)(l:List Ei)(o:Int):Lr (x::l) o=Lr l (i64 (o+Yh x)):=by rw [Lr]
def lP(o:Int):Lr [] o=o:=by rw [Lr]
def Ob(x:Ei):Bool :=
 let n:=OQ x
 let k:=Yh x
 n==0||(n==1&&decide (k<=8)||(n==2&&decide (k<=4)||(n==3&&decide (k<=3)||n==4&&decide (k<=2))))
def Xk(x:Eh):Bool:=decide ((lD x).nodes<=400)&&decide ((lD x).depth<=60)
def nK(x:Ei):Bool:=decide ((lE x).nodes<=400)&&(decide ((lE x).depth<=60)&&decide ((lD x.pred).nodes<=400))
def gq(x:Ej):Bool:=decide ((szR x).nodes<=400)&&decide ((szR x).depth<=60)
def K9(l:List Ek):Bool:=l.all λx=>nK x.policy&&decide ((x.step.key.length:Int)<=20)
def Ov(l:List Ek):Bool:=K9 (l.take 12)&&decide ((l.length:Int)<=12)
def nL(n:El)(a b c:Int):Bool:=decide ((n.nodes.length:Int)<=a)&&(decide ((n.links.length:Int)<=b)&&decide ((n.edges.length:Int)<=c))
def L0(t:Em):Bool :=
 (Ov t.program&&(decide ((t.ports.length:Int)<=80)&&(decide ((t.wires.length:Int)<=80)&&(decide ((t.routes.length:Int)<=20)&&decide ((t.demands.length:Int)<=80))))) &&
  ((t.program.all λx=>decide (OQ x.policy<=2)&&Ob x.policy)&&(t.routes.all λx=>Xk x.pred&&gq x.path))
def SZ(f:Fld):Bool :=
 decide (1<=f.width)&&(decide (f.width<=16)&&(decide (16<=f.at_)&&(decide (f.at_<=143)&&decide (f.at_ % 16+f.width<=16))))
def Kx(a b:Fld):Bool:=decide (a.at_<i64 (b.at_+b.width))&&decide (b.at_<i64 (a.at_+a.width))
def IZ(l:List Fld):Nat->List Fld->Int
 | _,[]=>0
 | i,x::r=>if !nmB x.name\/x.name=GC then 4 else if (l.take i).any (λy=>decide (y.name=x.name)) then 4
  else if !SZ x then 1 else if (l.take i).any (λy=>Kx y x) then 1 else IZ l (i+1) r
def O1(l:List Fld):Int:=if 16<l.length then 2 else IZ l 0 l
def Ii(n:El)(k:Int):Bool:=decide (0<=k)&&decide (k<n.nodes.length)
def JV:Fld:=⟨GC,0,16⟩
def Fb(l:List Fld)(s:ByteArray):Fld×Bool :=
 if s=GC then (JV,true) else match l.find? (λf=>decide (f.name=s)) with
  | some f=>(f,true)
  | none=>(Fld.z,false)
def XM:Nat->Int
 | 0=>1
 | n+1=>i64 (XM n*2)
def KV(f:Fld):Int:=i64 (XM f.width.toNat - 1)
mutual
def SV:Eh->List Eh
 | ⟨k,f,n,m,xs⟩=>⟨k,f,n,m,xs⟩::Mq xs
def Mq:List Eh->List Eh
 | []=>[]
 | x::l=>SV x++Mq l
end
mutual
def Mr:Ei->List Ei
 | ⟨k,p,f,n,xs⟩=>⟨k,p,f,n,xs⟩::MH xs
def MH:List Ei->List Ei
 | []=>[]
 | x::l=>Mr x++MH l
end
def LX(x:Eh):SV x=x::Mq x.args:=by cases x;rw [SV]
def Jc(x:Eh)(l:List Eh):Mq (x::l)=SV x++Mq l:=by rw [Mq]
def Li:Mq []=[]:=by rw [Mq]
def Kr(x:Ei):Mr x=x::MH x.args:=by cases x;rw [Mr]
def Ik(x:Ei)(l:List Ei):MH (x::l)=Mr x++MH l:=by rw [MH]
def KQ:MH []=[]:=by rw [MH]
def Km(x:Eh):FR x.c=x.field.size+5+FR (GH x.args):=by
 show FR [_,_,_,_,_]=_
 simp only [FR,AV.bulk];omega
def Iw(x:Ei):FR x.c=FR x.pred.c+x.field.size+4+FR (F3 x.args):=by
 show FR [_,_,_,_,_,_,_,_,_]=_
 rw [Km]
 simp only [FR,AV.bulk];omega
def dj : ∀ x:Eh,(SV x).length<=FR x.c:=by
 refine JS _ λx ih=>?_
 rw [LX,Km,Hg]
 have : ∀ l:List Eh,(∀ y∈l,(SV y).length<=FR y.c)->(Mq l).length<=FR (l.map λx => .agg x.c):=by
  intro l
  induction l with
  | nil=>intro _;simp [Li]
  | cons y l ihl =>
   intro h
   have h1:=h y sm
   have h2:=ihl λz hz=>h z (by simp [hz])
   rw [Jc,AF]
   simp only [AS,FR,AV.bulk]
   omega
 have:=this x.args ih
 simp only [AD]
 omega
def RN : ∀ x:Ei,(Mr x).length<=FR x.c:=by
 refine Hq _ λx ih=>?_
 rw [Kr,Iw,Ge]
 have : ∀ l:List Ei,(∀ y∈l,(Mr y).length<=FR y.c)->(MH l).length<=FR (l.map λx => .agg x.c):=by
  intro l
  induction l with
  | nil=>intro _;simp [KQ]
  | cons y l ihl =>
   intro h
   have h1:=h y sm
   have h2:=ihl λz hz=>h z (by simp [hz])
   rw [Ik,AF]
   simp only [AS,FR,AV.bulk]
   omega
 have:=this x.args ih
 simp only [AD]
 omega
def rn : ∀ x:Ei,∀ y∈Mr x,FR y.c<=FR x.c:=by
 refine Hq _ λx ih=>λy hy=>?_
 rw [Kr] at hy
 rcases AX.1 hy with rfl|hy
 ·exact Nat.le_refl _
 have : ∀ l:List Ei,(∀ z∈l,∀ y∈Mr z,FR y.c<=FR z.c) -> ∀ y∈MH l,FR y.c<=FR (l.map λx => .agg x.c):=by
  intro l
  induction l with
  | nil=>intro _ y hy;rw [KQ] at hy;cases hy
  | cons z l ihl =>
   intro h y hy
   rw [Ik] at hy
   simp only [AS,FR,AV.bulk]
   rcases List.mem_append.1 hy with hy|hy
   ·have:=h z sm y hy;omega
   ·have:=ihl (λz hz=>h z (by simp [hz])) y hy;omega
 have:=this x.args ih y hy
 have h2:=Iw x
 rw [Ge] at h2
 omega
def Pr(l:List Fld)(x:Eh):Int :=
 if x.kind≠3/\x.kind≠4/\x.kind≠5 then 0
 else if (Fb l x.field).2=false then 4
 else if KV (Fb l x.field).1<(if x.kind=5 then x.m else x.n)\/(x.kind=4/\(Fb l x.field).1.width<x.m) then 1 else 0
def LR(l:List Fld):List Eh->Int
 | []=>0
 | x::r=>if Pr l x=0 then LR l r else Pr l x
def Rh(l:List Fld)(x:Eh):Int:=LR l (SV x)
def T8(l:List Fld)(x:Eh):Int:=if ckP x=0 then Rh l x else ckP x
def RO(l:List Fld)(x:Ei):Int :=
 if x.kind=1 then Rh l x.pred
 else if x.kind=2 then (if (Fb l x.field).2=false then 4 else if KV (Fb l x.field).1<x.n then 1 else 0)
 else 0
def LN(l:List Fld):List Ei->Int
 | []=>0
 | x::r=>if RO l x=0 then LN l r else RO l x
def Ki(l:List Fld)(x:Ei):Int:=if Up x=0 then LN l (Mr x) else Up x
def JX(l:List ByteArray):Nat->List ByteArray->Bool
 | _,[]=>true
 | i,x::r => !(l.take i).any (λy=>decide (y=x))&&JX l (i+1) r
def J0(s:Stp):List ByteArray:=if s.field=⟨#[]⟩ then s.key else s.key++[s.field]
def MD(l:List Fld)(s:Stp):Int :=
 if cZ s≠0\/s.kind=0 then cZ s
 else if !(J0 s).all (λy=>(Fb l y).2) then 4
 else if !JX s.key 0 s.key then 1
 else if s.kind=4/\KV (Fb l s.field).1<s.m then 1 else 0
def Lc(k:Int):Int:=if k=1 then 1 else if k=2\/k=3 then 2 else if k=4\/k=5 then 3 else 4
def Iz(l:List Fld)(key:List ByteArray):List Int:=key.map λy=>(Fb l y).1.width
def Lt(s:Stp):Bool:=s.kind==4||s.kind==6
def Xl(a b:List Int):Bool:=decide (a=b)
def UD(l:List Fld)(s t:Stp):Bool :=
 !((Lt s&&Lt t)&&(s.n !=t.n||s.m !=t.m))&&(Xl (Iz l s.key) (Iz l t.key)&&Lc s.kind==Lc t.kind)
def Mn(l:List Fld):List Ek->Int
 | []=>0
 | x::r=>if Ki l x.policy=0 then (if MD l x.step=0 then Mn l r else MD l x.step) else Ki l x.policy
def LS(l:List Fld)(s t:Stp):Bool:=(s.kind !=0&&t.kind !=0)&&(decide (s.var=t.var) && !UD l s t)
def K0(l:List Fld)(p:List Ek):Nat->List Ek->Bool
 | _,[]=>true
 | i,x::r => !(p.take i).any (λy=>LS l y.step x.step)&&K0 l p (i+1) r
def QB(l:List Fld)(p:List Ek):Int :=
 if XH p≠0 then XH p else if Mn l p≠0 then Mn l p else if K0 l p 0 p then 0 else 11
def JM(n:Int):Bool->List Int->List Int
 | d,[]=>if d then [] else [n]
 | d,x::r=>(if n<=x/\d=false then [n] else [])++((if x≠n then [x] else [])++JM n (d||decide (n<=x)) r)
def SU(l:List Int)(n:Int):List Int:=JM n false l
def MR(o:List Int):List Ei->List Int
 | []=>o
 | y::r=>MR (if y.kind=2/\y.field=GC then SU o y.n else o) r
def NT(x:Ei):List Int:=MR [] (Mr x)
def Ij{α:Type}(p:α->Bool)(q:α->α->Bool)(l:List α):Nat->List α->Bool
 | _,[]=>true
 | i,x::r=>(p x && !(l.take i).any (λy=>q y x))&&Ij p q l (i+1) r
def IU{α:Type}(p:α->Bool)(q:α->α->Bool)(l:List α):Bool:=Ij p q l 0 l
def tQ(l:List ByteArray)(s:ByteArray):Bool:=l.any (λy=>decide (y=s))
def HR(t:Em)(n:Int):Bool:=decide (0<=n)&&decide (n<(t.ports.length:Int))
def MZ(t:Em)(n:Int):Int:=(t.ports[n.toNat]?.getD Port.z).edge
def J5(t:Em)(n:Int):Bool:=HR t n&&MZ t n == -1
def KS(t:Em)(n:Int):Bool:=HR t n&&MZ t n != -1
def SY(x:Port):Bool:=nmB x.name
def SG(y x:Port):Bool:=decide (y.name=x.name)
def RA(m:Int)(x:Port):Bool:=decide (-1<=x.edge)&&decide (x.edge<m)
def Q9(y x:Port):Bool:=x.edge != -1&&y.edge==x.edge
def RM(t:Em)(x:Wire):Bool:=J5 t x.src&&J5 t x.dst
def RL(y x:Wire):Bool:=y.src==x.src
def It(s:En)(t:Em):Int :=
 if nmB t.name=false then 4 else if IU SY SG t.ports=false then 4
 else if IU (RA s.network.edges.length) Q9 t.ports=false then 1 else if IU (RM t) RL t.wires=false then 1 else 0
def J8(t:Em):List Ek->Int
 | []=>0
 | x::r=>if (NT x.policy).all (HR t)=false then 1 else if x.step.field=GC\/(x.step.kind=5/\tQ x.step.key GC=true) then 1 else J8 t r
def Mc(s:En)(t:Em):Int:=if QB s.fields t.program≠0 then QB s.fields t.program else J8 t t.program
mutual
def knB(l:List ByteArray):Ej->Bool
 | ⟨k,n,xs⟩ => !(k==2 && !tQ l n)&&aR l xs
def aR(l:List ByteArray):List Ej->Bool
 | []=>true
 | x::r=>knB l x&&aR l r
end
theorem Jf(l:List ByteArray)(x:Ej):knB l x=(!(x.kind==2 && !tQ l x.node)&&aR l x.args):=by cases x;rw [knB]
theorem M3(l:List ByteArray)(x:Ej)(r:List Ej):aR l (x::r)=(knB l x&&aR l r):=by rw [aR]
theorem Oh(l:List ByteArray):aR l []=true:=by rw [aR]
def IE(n:El):List ByteArray:=n.nodes.map (·.name)
def Kf(n:El):List ByteArray:=n.edges.map (·.name)
def lL(s:En)(x:Route):Int :=
 if T8 s.fields x.pred≠0 then T8 s.fields x.pred else if ckR x.path≠0 then ckR x.path else if knB (IE s.network) x.path=false then 4 else 0
def Jl(s:En):List Route->Int
 | []=>0
 | x::r=>if lL s x=0 then Jl s r else lL s x
def lS(t:Em)(d:Demand):Bool :=
 KS t d.src&&(KS t d.dst&&(d.src !=d.dst&&(decide (0<=d.floor)&&(decide (d.floor<=d.ceiling)&&decide (d.ceiling<=1048576)))))
def kY(y x:Demand):Bool:=y.src==x.src&&y.dst==x.dst
def Jh(s:En)(t:Em):Int :=
 if 64<t.ports.length\/64<t.wires.length\/16<t.routes.length\/64<t.demands.length then 2
 else if It s t≠0 then It s t else if Mc s t≠0 then Mc s t
 else if Jl s t.routes≠0 then Jl s t.routes else if IU (lS t) kY t.demands=false then 1 else 0
def dp(x:ByteArray):Bool:=nmB x
def cU(y x:ByteArray):Bool:=decide (y=x)
def TU(n:El)(x:Node):Bool:=decide (0<=x.rules)&&(decide (x.rules<=4000)&&(decide (0<=x.entries)&&decide (x.entries<=100000)))
def TW(n:El)(x:Link):Bool:=Ii n x.src&&(Ii n x.dst&&(x.src !=x.dst&&(decide (0<=x.capacity)&&decide (x.capacity<=1048576))))
def JC(n:El):Int :=
 if 200<n.nodes.length\/2000<n.links.length\/400<n.edges.length then 2
 else if IU dp cU (IE n)=false\/IU dp cU (Kf n)=false then 4
 else if n.nodes.all (TU n)=false then 1 else if n.links.all (TW n)=false then 1 else if n.edges.all (λx=>Ii n x.node)=false then 1 else 0
def LT(n:Int):Bool:=decide (0<=n)&&decide (n<=65535)
def Yi(n:Int): ∀ (l:List Int) (d:Bool),(JM n d l).length<=l.length+(if d then 0 else 1)
 | [],d=>by cases d<;>simp [JM]
 | x::r,d=>by
  have ih:=Yi n r (d||decide (n<=x))
  have g1:(if x≠n then [x] else []).length<=1:=by split<;>simp
  simp only [JM,AF,AD]
  cases d<;>by_cases hx:n<=x<;>simp [hx] at ih g1 ⊢ <;> omega
def zz(o:List Int)(n:Int):(SU o n).length<=o.length+1:=by
 have:=Yi n o false
 simpa [SU] using this
def lR(x:Ei):(NT x).length<=(Mr x).length:=by
 have h1 : ∀ (n:Int) (l:List Int) (d:Bool),(JM n d l).length<=l.length+1:=by
  have h2 : ∀ (n:Int) (l:List Int),(JM n true l).length<=l.length:=by
   intro n l
   induction l with
   | nil=>simp [JM]
   | cons x r ih =>
    simp only [JM,BX,Bool.true_eq_false,and_false,if_false,AN,AF,AD]
    have:(if x≠n then [x] else []).length<=1:=by split<;>simp
    omega
  intro n l
  induction l with
  | nil=>intro d;cases d<;>simp [JM]
  | cons x r ih =>
   intro d
   cases d with
   | true=>have:=h2 n (x::r);simp at this ⊢;omega
   | false =>
    simp only [JM,AF,AD]
    have g1:(if x≠n then [x] else []).length<=1:=by split<;>simp
    by_cases hx:n<=x
    ·have:=h2 n r
     simp [hx]
     simp at this g1
     omega
    ·have:=ih false
     simp [hx]
     simp at this g1
     omega
 have h3 : ∀ (l:List Ei) (o:List Int),(MR o l).length<=o.length+l.length:=by
  intro l
  induction l with
  | nil=>intro o;simp [MR]
  | cons y r ih =>
   intro o
   rw [MR]
   refine AK (ih _) ?_
   have:=h1 y.n o false
   simp only [AD]
   split
   ·unfold SU;omega
   ·omega
 have:=h3 (Mr x) []
 simpa [NT] using this
def ZI{l:List Fld}(h:O1 l=0): ∀ f∈l,f.width<=16:=by
 have : ∀ (r:List Fld) (i:Nat),IZ l i r=0 -> ∀ f∈r,f.width<=16:=by
  intro r
  induction r with
  | nil=>intro i _ f hf;cases hf
  | cons x r ih =>
   intro i h f hf
   rw [IZ] at h
   split at h
   ·cases h
   split at h
   ·cases h
   split at h
   ·cases h
   split at h
   ·cases h
   rename_i hp _
   rcases AX.1 hf with rfl|hf
   ·simp only [SZ,BW,Bool.and_eq_false_iff,not_or,Bool.not_eq_false,decide_eq_true_eq] at hp
    omega
   ·exact ih _ h f hf
 unfold O1 at h
 split at h
 ·cases h
 ·exact this l 0 h
open Go.Proofs
@[go_sem] def rA(x:Eh)(v:Int)(o0:Option Nat):Hs (x.cf o0) [.int .i64 v]=({ x with kind:=v }:Eh).cf o0:=rfl
@[go_sem] def q9(x:Eh)(v:ByteArray)(o0:Option Nat):splice (x.cf o0) 1 [.str v]=({ x with field:=v }:Eh).cf o0:=rfl
@[go_sem] def AD5(x:Eh)(v:Int)(o0:Option Nat):splice (x.cf o0) 2 [.int .i64 v]=({ x with n:=v }:Eh).cf o0:=rfl
@[go_sem] def yS(x:Eh)(v:List Eh)(o0:Option Nat)(p:Option Nat):splice (x.cf o0) 4 [.sl p (GH v)]=({ x with args:=v }:Eh).cf p:=rfl
@[go_sem] def kj(x:Ei)(v:Int)(o0 o1:Option Nat):Hs (x.cf o0 o1) [.int .i64 v]=({ x with kind:=v }:Ei).cf o0 o1:=rfl
@[go_sem] def pE(x:Ei)(v:Eh)(o0 o1:Option Nat)(p0:Option Nat):splice (x.cf o0 o1) 1 (v.cf p0)=({ x with pred:=v }:Ei).cf p0 o1:=rfl
@[go_sem] def ki(x:Ei)(v:ByteArray)(o0 o1:Option Nat):splice (x.cf o0 o1) 6 [.str v]=({ x with field:=v }:Ei).cf o0 o1:=rfl
@[go_sem] def yf(x:Ei)(v:Int)(o0 o1:Option Nat):splice (x.cf o0 o1) 7 [.int .i64 v]=({ x with n:=v }:Ei).cf o0 o1:=rfl
@[go_sem] def pF(x:Ei)(v:List Ei)(o0 o1:Option Nat)(p:Option Nat):splice (x.cf o0 o1) 8 [.sl p (F3 v)]=({ x with args:=v }:Ei).cf o0 p:=rfl
@[ext] structure Pat where
 mask:Eo
 bits:Eo
 deriving DecidableEq,Inhabited
def Pat.c(x:Pat):List AV:=[.int .i64 x.mask.h0,.int .i64 x.mask.h1,.int .i64 x.mask.h2,.int .i64 x.mask.h3,.int .i64 x.mask.h4,.int .i64 x.mask.h5,.int .i64 x.mask.h6,.int .i64 x.mask.h7,.int .i64 x.mask.h8,.int .i64 x.mask.h9,.int .i64 x.bits.h0,.int .i64 x.bits.h1,.int .i64 x.bits.h2,.int .i64 x.bits.h3,.int .i64 x.bits.h4,.int .i64 x.bits.h5,.int .i64 x.bits.h6,.int .i64 x.bits.h7,.int .i64 x.bits.h8,.int .i64 x.bits.h9]
@[go_sem] def ATx(x:Pat):x.c.length=20:=rfl
@[go_sem] def ATy(x:Pat):x.c.map borrow1=x.c:=rfl
@[go_sem] def ATw(x:Pat):x.c.any GE=false:=by
 rfl
@[go_sem] def AHa(x:Pat):x.c.take 20=x.c:=rfl
@[go_sem] def Pat.cf_pure(x:Pat):A' x.c=true:=by
 simp [Pat.c,A',AV.pure]
@[go_sem] def pH(k:Nat)(x:Pat):Fo k x.c=true:=by
 simp [Pat.c,Fo,AV.bnd]
def Pat.c_bnd(k:Nat)(x:Pat):Fo k x.c=true:=pH k x
@[go_sem] def yT(x:Pat)(v:Eo):Hs x.c v.c=({ x with mask:=v }:Pat).c:=rfl
@[go_sem] def yg(x:Pat)(v:Eo):splice x.c 10 v.c=({ x with bits:=v }:Pat).c:=rfl
def Pat.z:Pat:=⟨⟨0,0,0,0,0,0,0,0,0,0⟩,⟨0,0,0,0,0,0,0,0,0,0⟩⟩
@[go_sem] def Pat.zero:Fi AA 267=some (.agg Pat.z.c):=kr
def Pat.ok(_:Pat):Prop:=True
def F4(l:List Eo):List AV:=l.map λx => .agg x.c
@[go_sem] def AUS(l:List Eo):(F4 l).length=l.length:=by simp [F4]
def IF{l:List Eo}{i:Nat}{x:Eo}(h:l[i]? =some x):(F4 l)[i]? =some (.agg x.c):=by simp [F4,h]
def fe(l:List Eo): ∀ x∈F4 l,x.cells.length=10:=by
 intro x hx;obtain ⟨y,_,rfl⟩:=AP.1 hx;rfl
@[go_sem] def AFG(l:List Eo):(∀ x∈F4 l,x.cells.length=10)=True:=eq_true (fe l)
@[go_sem] def AUR:F4 []=[]:=rfl
@[go_sem] def AG1(l:List Eo)(k:Nat):(F4 l).take k=F4 (l.take k):=by simp [F4]
@[go_sem] def AUT(a b:List Eo):F4 a++F4 b=F4 (a++b):=by simp [F4]
@[go_sem] def AIX(a:List Eo)(x:Eo):F4 a++[.agg x.c]=F4 (a++[x]):=by simp [F4]
@[go_sem] def mV(l:List Eo):A' (F4 l)=true:=by
 induction l with
 | nil=>rfl
 | cons x xs ih=>simpa [F4,A',AV.pure] using ⟨kN x,ih⟩
set_option maxRecDepth 50000
def iX(c:UInt8):FQ AA 347 [.int .u8 c.toNat] (.bool (loB c)):=by
 refine pC AI3 rfl ?_
 simp only [f347,go_sem]
 repeat' (first|(first|apply cS|apply gS)<;>intro hc<;>simp only [go_sem,hc])
 all_goals (simp only [loB,bz];grind)
def AFy(c:UInt8):FQ AA 374 [.int .u8 c.toNat] (.bool (dgB c)):=by
 refine pC AIr rfl ?_
 simp only [f374,go_sem]
 repeat' (first|(first|apply cS|apply gS)<;>intro hc<;>simp only [go_sem,hc])
 all_goals (simp only [dgB,bz];grind)
def ns(c:UInt8):FQ AA 366 [.int .u8 c.toNat] (.bool (wdB c)):=by
 refine pC AIu rfl ?_
 simp only [f366,go_sem]
 repeat' (first|((first|refine pK (iX _) ?_|refine pK (AFy _) ?_);simp only [go_sem])|(first|apply cS|apply gS)<;>intro hc<;>simp only [go_sem,hc])
 all_goals (simp only [wdB,bz];grind)
def Abj(s:ByteArray)(hs:s.size<=1073741824):FQ AA 349 [.str s] (.int .i64 (MQ s.data.toList)):=by
 refine pC AIx rfl ?_
 simp only [f349,go_sem]
 refine Wf s (λl=>s.size - l.length+MQ l) (λk=>[(0,.str s),(3,.int .i64 k)]) FO rfl ?_ ?_
 ·intro k x xs hd hx hF h0 h1 hw hl
  rw [S3] at hF
  simp only [AD,MQ] at hF
  simp only [go_sem,h0,h1,hx]
  repeat' (first|(refine pK (ns _) ?_;simp only [go_sem,hw])|(first|apply cS|apply gS)<;>intro hc<;>simp only [go_sem,hc,hw])
  ·simp only [BW] at hc
   rw [hc] at hF
   have:MQ s.data.toList=k:=by simp at hF;omega
   rw [this]
  ·simp only [CX] at hc
   simp only [MQ,hc]
   simp;omega
 ·intro hF hlt
  simp only [go_sem,hlt,dF]
  rw [S3] at hF
  simp [MQ] at hF
  rw [hF]
def ACH:EvOk AA (ac.evt [] AGu):=ETree.ok AAt (λ_ h=>by cases h) (AAo _) WG
def kp:A' (HK.map AV.str)=true:=kr
def AF1:FQ AA 365 [] (.sl (some 1) (HK.map AV.str)):=FQ.run ACH 100 rfl kp kr
def ACd(s:ByteArray):FQ AA 348 [.str s] (.bool (TK s)):=by
 refine pC AI0 rfl ?_
 simp only [f348,go_sem]
 repeat' (first|(refine pK (AF1) ?_;simp only [go_sem])|(first|apply cS|apply gS)<;>intro hc<;>simp only [go_sem,hc])
 refine Fa HK (λl=>l.any (λy=>decide (y=s))) (λk=>[(0,.str s),(3,.sl (some 1) (HK.map AV.str)),(4,.int .i64 k)]) dc rfl ?_ ?_
 ·intro k x xs hd hx hF h0 h1 hw
  have hg:(HK.map AV.str)[k]? =some (.str x):=by simp [hx]
  simp only [go_sem,h0,h1,hg,Aq,FN]
  repeat' (first|(first|apply cS|apply gS)<;>intro hc<;>simp only [go_sem,hc,h0,h1,hg,hw,Aq,FN])
  ·simp only [TK,hF,Au,hc,BX]
 ·intro hF hlt
  simp only [go_sem,hlt,dF,Aq]
  rw [TK,hF];rfl
def ACo(s:ByteArray)(hs:s.size<=1073741824):FQ AA 335 [.str s] (.bool (tnB s)):=by
 refine pC AJI rfl ?_
 by_cases hz:s.size=0
 ·have hz2:((s.size:Int)==0)=true:=by simp [hz]
  simp only [f335,go_sem,hz2]
  simp [tnB,hz]
 ·have h0:(0:Int)<(s.size:Int):=FO
  obtain ⟨x,xs,hx⟩ : ∃ x xs,s.data.toList=x::xs:=by
   cases h:s.data.toList with
   | nil=>rw [<- S3,h] at hz;simp at hz
   | cons x xs=>exact ⟨x,xs,rfl⟩
  have hx0:(s.data[0]?).getD 0=x:=by rw [<- Array.getElem?_toList,hx];rfl
  have hne:((s.size:Int)==0)=false:=by simp [hz]
  simp only [f335,go_sem,hne]
  repeat' (first|((first|refine pK (iX _) ?_|refine pK (ACd _) ?_|refine pK (Abj _ hs) ?_);simp only [go_sem,h0,hx0,hx])|(first|apply cS|apply gS)<;>intro hc<;>simp only [go_sem,hc,h0,hx0,hx])
  all_goals (simp only [tnB,hx];grind)
def aw(s:ByteArray)(hs:s.size<=1073741824):FQ AA 308 [.str s] (.bool (tnB s)):=by
 refine pC AJw rfl ?_
 simp only [f308,go_sem]
 repeat' (first|(refine pK (ACo _ hs) ?_;simp only [go_sem])|(first|apply cS|apply gS)<;>intro hc<;>simp only [go_sem,hc])
def Uq(s:ByteArray)(hs:s.size<=1073741824):FQ AA 313 [.str s] (.bool (Uj s)):=by
 refine pC AJh rfl ?_
 simp only [f313,go_sem]
 repeat' (first|(refine pK (aw _ hs) ?_;simp only [go_sem])|(first|apply cS|apply gS)<;>intro hc<;>simp only [go_sem,hc])
 all_goals first
  | rfl
  | (simp only [FN,Uj,GC,hc,BM,BX,Ax];rfl)
  | grind [FN,Uj,GC,BM,BX,Ax]
  | (simp only [FN,Uj,GC,hc,BM,BX,Ax];grind)
  | (simp [FN,Uj,GC,hc,BM,BX,Ax, *];done)
  | (simp_all [FN,Uj,GC,hc,BM,BX,Ax];done)
  | skip
def Ur(s:ByteArray)(hs:s.size<=1073741824):FQ AA 127 [.str s] (.bool (nmB s)):=by
 refine pC AQW rfl ?_
 simp only [f127,go_sem]
 refine Wf s (λl=>sV (s.size - l.length) l) (λk=>[(0,.str s),(3,.int .i64 k)]) FO rfl ?_ ?_
 ·intro k x xs hd hx hF h0 h1 hw hl
  have e1:s.size - (x::xs).length=k:=by simp;omega
  have e2:s.size - xs.length=k+1:=FO
  rw [e1,S3,AO] at hF
  simp only [go_sem,h0,h1,hx,e2]
  repeat' (first|(first|apply cS|apply gS)<;>intro hc<;>simp only [go_sem,hc,h0,h1,hx,hw,e1,e2])
  all_goals first|(simp only [nmB,hF,sV,loB,dgB,bz];grind)|(simp only [sV,loB,dgB,bz];grind)|skip
 ·intro hF hlt
  simp only [go_sem,hlt,dF]
  rw [S3,AO] at hF
  repeat' (first|(first|apply cS|apply gS)<;>intro hc<;>simp only [go_sem,hc])
  all_goals (simp only [nmB,hF,sV];grind)
def Ri{cs:List AV}{l:List AV}(h:HY (.agg cs::l)):HY cs:=h.1
def fits{o:Option Nat}{es:List AV}{l:List AV}(h:HY (.sl o es::l)):es.length<=9223372036854775807:=h.1.1
def WX(a b:Eg):FQ AA 196 [.agg a.c,.agg b.c] (.agg (a.more b).c):=by
 refine pB ANR rfl ?_
 simp only [f196,go_sem]
 rfl
def qi : ∀ x:Eh,FQ AA 123 [.agg x.c] (.agg (lD x).c):=by
 refine JS _ λx ih=>?_
 refine FQ.fit ABp.c λhf=>?_
 have hl:=Kz (Ri hf)
 refine pB ABp rfl ?_
 simp only [f123,go_sem]
 refine Fm x.args (λo l=>U1 l o) (λ_ _=>True) (λk o=>[(1,.ptr 0 0),(2,.ptr 1 0),(3,.ptr 2 0),(4,.int .i64 k)]) (λk o=>[some x.c,some Sizes.z.c,some o.c]) ⟨1,1⟩ hl trivial rfl rfl ?_ ?_
 ·intro k o y ys hd hx _ hF h0 h1 hw
  have hm:=AB hx
  simp only [go_sem,h0,h1,Fp hx]
  repeat' (first|((first|refine pK (ih _ hm) ?_|refine pK (WX _ _) ?_);simp only [go_sem,h0,h1,hw,Fp hx])|(first|apply cS|apply gS)<;>intro hc<;>simp only [go_sem,hc,h0,h1,hw,Fp hx])
  exact ⟨_,Ya _ _ _,rfl,rfl⟩
 ·intro o _ hF
  simp only [go_sem,AW,dF]
  rw [zO,hF,cr]
def AHC : ∀ x:Ej,FQ AA 195 [.agg x.c] (.agg (szR x).c):=by
 refine TB _ λx ih=>?_
 refine FQ.fit ABj.c λhf=>?_
 have hl:=PE (Ri hf)
 refine pB ABj rfl ?_
 simp only [f195,go_sem]
 refine Fm x.args (λo l=>Zc l o) (λ_ _=>True) (λk o=>[(1,.ptr 0 0),(2,.ptr 1 0),(3,.ptr 2 0),(4,.int .i64 k)]) (λk o=>[some x.c,some Sizes.z.c,some o.c]) ⟨1,1⟩ hl trivial rfl rfl ?_ ?_
 ·intro k o y ys hd hx _ hF h0 h1 hw
  have hm:=AB hx
  simp only [go_sem,h0,h1,IOq hx]
  repeat' (first|((first|refine pK (ih _ hm) ?_|refine pK (WX _ _) ?_);simp only [go_sem,h0,h1,hw,IOq hx])|(first|apply cS|apply gS)<;>intro hc<;>simp only [go_sem,hc,h0,h1,hw,IOq hx])
  exact ⟨_,rU _ _ _,rfl,rfl⟩
 ·intro o _ hF
  simp only [go_sem,AW,dF]
  rw [AHu,hF,zN]
def AHD : ∀ x:Ei,FQ AA 257 [.agg x.c] (.agg (lE x).c):=by
 refine Hq _ λx ih=>?_
 refine FQ.fit ABe.c λhf=>?_
 have hl:=JY (Ri hf)
 refine pB ABe rfl ?_
 simp only [f257,go_sem]
 repeat' (first|((first|refine pK (qi _) ?_|refine pK (WX _ _) ?_);simp only [go_sem])|(first|apply cS|apply gS)<;>intro hc<;>simp only [go_sem,hc])
 ·have hs:lE x=Po x.args (Sizes.more ⟨1,1⟩ (lD x.pred)):=by rw [Zd,iP (by simpa using hc)]
  refine Fm x.args (λo l=>Po l o) (λ_ _=>True) (λk o=>[(1,.ptr 0 0),(2,.ptr 1 0),(3,.ptr 2 0),(4,.int .i64 k)]) (λk o=>[some x.c,some Sizes.z.c,some o.c]) (Sizes.more ⟨1,1⟩ (lD x.pred)) hl trivial rfl rfl ?_ ?_
  ·intro k o y ys hd hx _ hF h0 h1 hw
   have hm:=AB hx
   simp only [go_sem,h0,h1,Fc hx]
   repeat' (first|((first|refine pK (ih _ hm) ?_|refine pK (WX _ _) ?_);simp only [go_sem,h0,h1,hw,Fc hx])|(first|apply cS|apply gS)<;>intro hc<;>simp only [go_sem,hc,h0,h1,hw,Fc hx])
   exact ⟨_,Ml _ _ _,rfl,rfl⟩
  ·intro o _ hF
   rw [OP] at hF
   simp only [go_sem,AW,dF]
   rw [hs,hF]
 ·have hs:lE x=Po x.args ⟨1,1⟩:=by rw [Zd,iN (by simpa using hc)]
  refine Fm x.args (λo l=>Po l o) (λ_ _=>True) (λk o=>[(1,.ptr 0 0),(2,.ptr 1 0),(3,.ptr 2 0),(4,.int .i64 k)]) (λk o=>[some x.c,some Sizes.z.c,some o.c]) (⟨1,1⟩) hl trivial rfl rfl ?_ ?_
  ·intro k o y ys hd hx _ hF h0 h1 hw
   have hm:=AB hx
   simp only [go_sem,h0,h1,Fc hx]
   repeat' (first|((first|refine pK (ih _ hm) ?_|refine pK (WX _ _) ?_);simp only [go_sem,h0,h1,hw,Fc hx])|(first|apply cS|apply gS)<;>intro hc<;>simp only [go_sem,hc,h0,h1,hw,Fc hx])
   exact ⟨_,Ml _ _ _,rfl,rfl⟩
  ·intro o _ hF
   rw [OP] at hF
   simp only [go_sem,AW,dF]
   rw [hs,hF]
def iW : ∀ x:Ei,FQ AA 120 [.agg x.c] (.int .i64 (OQ x)):=by
 refine Hq _ λx ih=>?_
 refine FQ.fit ABq.c λhf=>?_
 have hl:=JY (Ri hf)
 refine pC ABq rfl ?_
 simp only [f120,go_sem]
 refine Fm x.args (λo l=>Jx l o) (λ_ _=>True) (λk o=>[(1,.ptr 0 0),(3,.int .i64 o),(4,.int .i64 k)]) (λk o=>[some x.c]) 0 hl trivial rfl rfl ?_ ?_
 ·intro k o y ys hd hx _ hF h0 h1 hw
  have hm:=AB hx
  simp only [go_sem,h0,h1,Fc hx]
  repeat' (first|(refine pK (ih _ hm) ?_;simp only [go_sem,h0,h1,hw,Fc hx])|(first|apply cS|apply gS)<;>intro hc<;>simp only [go_sem,hc,h0,h1,hw,Fc hx])
  exact ⟨_,Zh _ _ _,rfl,rfl⟩
 ·intro o _ hF
  rw [cw] at hF
  simp only [go_sem,AW,dF]
  repeat' (first|(first|apply cS|apply gS)<;>intro hc<;>simp only [go_sem,hc])
  all_goals first
   | rfl
   | (simp only [Mm,hF,i64];rfl)
   | grind [Mm,i64]
   | (simp only [Mm,hF,i64];grind)
   | (simp [Mm,hF,i64, *];done)
   | (simp_all [Mm,hF,i64];done)
   | skip
def AFq : ∀ x:Ei,FQ AA 194 [.agg x.c] (.int .i64 (Yh x)):=by
 refine Hq _ λx ih=>?_
 refine FQ.fit ABk.c λhf=>?_
 have hl:=JY (Ri hf)
 refine pC ABk rfl ?_
 simp only [f194,go_sem]
 refine Fm x.args (λo l=>Lr l o) (λ_ _=>True) (λk o=>[(1,.ptr 0 0),(3,.int .i64 o),(4,.int .i64 k)]) (λk o=>[some x.c]) 0 hl trivial rfl rfl ?_ ?_
 ·intro k o y ys hd hx _ hF h0 h1 hw
  have hm:=AB hx
  simp only [go_sem,h0,h1,Fc hx]
  repeat' (first|(refine pK (ih _ hm) ?_;simp only [go_sem,h0,h1,hw,Fc hx])|(first|apply cS|apply gS)<;>intro hc<;>simp only [go_sem,hc,h0,h1,hw,Fc hx])
  exact ⟨_,de _ _ _,rfl,rfl⟩
 ·intro o _ hF
  rw [lP] at hF
  simp only [go_sem,AW,dF]
  repeat' (first|(first|apply cS|apply gS)<;>intro hc<;>simp only [go_sem,hc])
  all_goals first
   | rfl
   | (simp only [OU,hF,i64];rfl)
   | grind [OU,i64]
   | (simp only [OU,hF,i64];grind)
   | (simp [OU,hF,i64, *];done)
   | (simp_all [OU,hF,i64];done)
   | skip
def ACb(x:Ei):FQ AA 121 [.agg x.c] (.bool (Ob x)):=by
 refine pC AQn rfl ?_
 simp only [f121,go_sem]
 repeat' (first|((first|refine pK (iW _) ?_|refine pK (AFq _) ?_);simp only [go_sem])|(first|apply cS|apply gS)<;>intro hc<;>simp only [go_sem,hc])
 all_goals first
  | rfl
  | (simp only [Ob];rfl)
  | grind [Ob]
  | (simp only [Ob];grind)
  | (simp [Ob, *];done)
  | (simp_all [Ob];done)
  | skip
def ACf(x:Eh):FQ AA 70 [.agg x.c] (.bool (Xk x)):=by
 refine pC AWy rfl ?_
 simp only [f70,go_sem]
 repeat' (first|(refine pK (qi _) ?_;simp only [go_sem])|(first|apply cS|apply gS)<;>intro hc<;>simp only [go_sem,hc])
 all_goals first
  | rfl
  | (simp only [Xk];rfl)
  | grind [Xk]
  | (simp only [Xk];grind)
  | (simp [Xk, *];done)
  | (simp_all [Xk];done)
  | skip
def ATO(x:Ej):FQ AA 122 [.agg x.c] (.bool (gq x)):=by
 refine pC AQk rfl ?_
 simp only [f122,go_sem]
 repeat' (first|(refine pK (AHC _) ?_;simp only [go_sem])|(first|apply cS|apply gS)<;>intro hc<;>simp only [go_sem,hc])
 all_goals first
  | rfl
  | (simp only [gq];rfl)
  | grind [gq]
  | (simp only [gq];grind)
  | (simp [gq, *];done)
  | (simp_all [gq];done)
  | skip
def ACg(x:Ei):FQ AA 193 [.agg x.c] (.bool (nK x)):=by
 refine pC ANY rfl ?_
 simp only [f193,go_sem]
 repeat' (first|((first|refine pK (AHD _) ?_|refine pK (qi _) ?_);simp only [go_sem])|(first|apply cS|apply gS)<;>intro hc<;>simp only [go_sem,hc])
 all_goals first
  | rfl
  | (simp only [nK];rfl)
  | grind [nK]
  | (simp only [nK];grind)
  | (simp [nK, *];done)
  | (simp_all [nK];done)
  | skip
def ATQ(x:List Ek):FQ AA 119 [.sl none (F9 x)] (.bool (Ov x)):=by
 refine FQ.fit ABr.c λhf=>?_
 have hl:=fits hf
 rw [Nd] at hl
 refine pC ABr rfl ?_
 simp only [f119,go_sem]
 refine Fa x (λr=>K9 (r.take (12 - (x.length - r.length)))) (λk=>[(0,.sl none (F9 x)),(3,.int .i64 k)]) hl rfl ?_ ?_
 ·intro k y ys hd hx hF h0 h1 hw
  have hk:=Fl hd
  have e1:x.length - (ys.length+1)=k:=FO
  have e2:x.length - ys.length=k+1:=FO
  simp only [AD,e1,AO,Bo] at hF
  simp only [go_sem,h0,h1,Fg hx,e1,e2]
  rcases Nat.lt_or_ge k 12 with aX|aX
  ·have e3:12 - k=(12 - (k+1))+1:=FO
   rw [e3,List.take_succ_cons] at hF
   repeat' (first|(refine pK (ACg _) ?_;simp only [go_sem,h0,h1,hw,Fg hx,e1,e2])|(first|apply cS|apply gS)<;>intro hc<;>simp only [go_sem,hc,h0,h1,hw,Fg hx,e1,e2])
   all_goals first
    | rfl
    | (simp only [Ov,K9,e3];rfl)
    | grind [Ov,K9]
    | (simp only [Ov,K9,e3];grind)
    | (simp [Ov,K9,e3, *];done)
    | (simp_all [Ov,K9,e3];done)
    | skip
  ·have e3:12 - k=0:=FO
   rw [e3,List.take_zero] at hF
   have Lb : ¬ (k:Int)<12:=FO
   simp only [go_sem,Lb,dF]
   repeat' (first|(refine pK (ACg _) ?_;simp only [go_sem,h0,h1,hw,Fg hx,e1,e2])|(first|apply cS|apply gS)<;>intro hc<;>simp only [go_sem,hc,h0,h1,hw,Fg hx,e1,e2])
   all_goals first
    | rfl
    | (simp only [Ov,K9];rfl)
    | grind [Ov,K9]
    | (simp only [Ov,K9];grind)
    | (simp [Ov,K9, *];done)
    | (simp_all [Ov,K9];done)
    | skip
 ·intro hF hlt
  simp only [go_sem,hlt,dF]
  repeat' (first|(first|apply cS|apply gS)<;>intro hc<;>simp only [go_sem,hc])
  all_goals first
   | rfl
   | (simp only [Ov,K9];rfl)
   | grind [Ov,K9]
   | (simp only [Ov,K9];grind)
   | (simp [Ov,K9, *];done)
   | (simp_all [Ov,K9];done)
   | skip
def ATN(t:Em):FQ AA 69 [.agg t.c] (.bool (L0 t)):=by
 refine FQ.fit AG3.c λhf=>?_
 have hl1:=Qz (Ri hf)
 have hl2:=Rx (Ri hf)
 refine pC AG3 rfl ?_
 simp only [f69,go_sem]
 repeat' (first|(refine pK (ATQ _) ?_;simp only [go_sem])|(first|apply cS|apply gS)<;>intro hc<;>simp only [go_sem,hc])
 all_goals first
  | rfl
  | (simp only [L0];rfl)
  | grind [L0]
  | (simp only [L0];grind)
  | (simp [L0, *];done)
  | (simp_all [L0];done)
  | skip
 refine Fa t.program (λr=>r.all λx=>decide (OQ x.policy<=2)&&Ob x.policy) (λk=>[(1,.ptr 0 0),(4,.int .i64 k)]) hl1 rfl ?_ ?_
 ·intro k y ys hd hx hF h0 h1 hw
  simp only [go_sem,h0,h1,Fg hx]
  repeat' (first|((first|refine pK (iW _) ?_|refine pK (ACb _) ?_);simp only [go_sem,h0,h1,hw,Fg hx])|(first|apply cS|apply gS)<;>intro hc<;>simp only [go_sem,hc,h0,h1,hw,Fg hx])
  all_goals first
   | rfl
   | (simp only [L0,Al,Ay];rfl)
   | grind [L0]
   | (simp only [L0,Al,Ay];grind)
   | (simp [L0,Al,Ay, *];done)
   | (simp_all [L0,Al,Ay];done)
   | skip
  skip
 ·intro hF hlt
  simp only [go_sem,hlt,dF]
  refine Fa t.routes (λr=>r.all λx=>Xk x.pred&&gq x.path) (λk=>[(1,.ptr 0 0),(5,.int .i64 k)]) hl2 rfl ?_ ?_
  ·intro k y ys hd hx hF h0 h1 hw
   simp only [go_sem,h0,h1,KX hx]
   repeat' (first|((first|refine pK (ACf _) ?_|refine pK (ATO _) ?_);simp only [go_sem,h0,h1,hw,KX hx])|(first|apply cS|apply gS)<;>intro hc<;>simp only [go_sem,hc,h0,h1,hw,KX hx])
   all_goals first
    | rfl
    | (simp only [L0,Al,Ay];rfl)
    | grind [L0]
    | (simp only [L0,Al,Ay];grind)
    | (simp [L0,Al,Ay, *];done)
    | (simp_all [L0,Al,Ay];done)
    | skip
   skip
  ·intro hF2 hlt2
   simp only [go_sem,hlt2,dF]
   repeat' (first|(first|apply cS|apply gS)<;>intro hc<;>simp only [go_sem,hc])
   all_goals first
    | rfl
    | (simp only [L0,Al,Ay];rfl)
    | grind [L0]
    | (simp only [L0,Al,Ay];grind)
    | (simp [L0,Al,Ay, *];done)
    | (simp_all [L0,Al,Ay];done)
    | skip
   skip
def Abp : ∀ x y:Eh,FQ AA 314 [.agg x.c,.agg y.c] (.bool (qW x y)):=by
 refine JS _ λx ih=>λy=>?_
 refine FQ.fit ABZ.c λhf=>?_
 have hl:=Kz (Ri hf)
 refine pC ABZ rfl ?_
 simp only [f314,go_sem,FN]
 repeat' (first|(first|apply cS|apply gS)<;>intro hc<;>simp only [go_sem,hc,FN])
 all_goals first
  | rfl
  | (simp only [Ir];rfl)
  | grind [Ir]
  | (simp only [Ir];grind)
  | (simp [Ir, *];done)
  | (simp_all [Ir];done)
  | skip
 have hll:x.args.length=y.args.length:=by grind
 refine Fa x.args (λr=>T6 r (y.args.drop (x.args.length - r.length))) (λk=>[(2,.ptr 0 0),(3,.ptr 1 0),(5,.int .i64 k)]) hl rfl ?_ ?_
 ·intro k z zs hd hx hF h0 h1 hw
  have hk:=Fl hd
  obtain ⟨w,hy⟩ : ∃ w,y.args[k]? =some w:=⟨_,AL FO⟩
  have e1:x.args.length - (z::zs).length=k:=by simp;omega
  have e2:x.args.length - zs.length=k+1:=FO
  have e3:y.args.drop k=w::y.args.drop (k+1):=by rw [BL FO];congr 1;grind
  have h2:(k:Int)<(y.args.length:Int):=FO
  rw [e1,e3,AO,BO,I4] at hF
  have hm:=AB hx
  simp only [go_sem,h0,h1,h2,Fp hx,Fp hy,e1,e2,e3]
  repeat' (first|(refine pK (ih _ hm _) ?_;simp only [go_sem,h0,h1,h2,hw,Fp hx,Fp hy,e1,e2,e3])|(first|apply cS|apply gS)<;>intro hc<;>simp only [go_sem,hc,h0,h1,h2,hw,Fp hx,Fp hy,e1,e2,e3])
  all_goals first
   | rfl
   | (simp only [Ir,I4,hF];rfl)
   | grind [Ir,I4]
   | (simp only [Ir,I4,hF];grind)
   | (simp [Ir,I4,hF, *];done)
   | (simp_all [Ir,I4,hF];done)
   | skip
 ·intro hF hlt
  simp only [go_sem,hlt,dF]
  all_goals first
   | rfl
   | (simp only [Ir,L1];rfl)
   | grind [Ir,L1]
   | (simp only [Ir,L1];grind)
   | (simp [Ir,L1, *];done)
   | (simp_all [Ir,L1];done)
   | skip
def Abo(x y:Stp):FQ AA 315 [.agg x.c,.agg y.c] (.bool (cY x y)):=by
 refine FQ.fit ABY.c λhf=>?_
 have hl:=ja (Ri hf)
 refine pC ABY rfl ?_
 simp only [f315,go_sem,FN]
 repeat' (first|(first|apply cS|apply gS)<;>intro hc<;>simp only [go_sem,hc,FN])
 all_goals first
  | rfl
  | (simp only [cY];rfl)
  | grind [cY]
  | (simp only [cY];grind)
  | (simp [cY, *];done)
  | (simp_all [cY];done)
  | skip
 have hll:x.key.length=y.key.length:=by grind
 refine Fa x.key (λr=>Oi r (y.key.drop (x.key.length - r.length))) (λk=>[(2,.ptr 0 0),(3,.ptr 1 0),(5,.int .i64 k)]) hl rfl ?_ ?_
 ·intro k z zs hd hx hF h0 h1 hw
  have hk:=Fl hd
  obtain ⟨w,hy⟩ : ∃ w,y.key[k]? =some w:=⟨_,AL FO⟩
  have e1:x.key.length - (z::zs).length=k:=by simp;omega
  have e2:x.key.length - zs.length=k+1:=FO
  have e3:y.key.drop k=w::y.key.drop (k+1):=by rw [BL FO];congr 1;grind
  have h2:(k:Int)<(y.key.length:Int):=FO
  rw [e1,e3,AO,BO,Jq] at hF
  have hm:=AB hx
  simp only [go_sem,h0,h1,h2,Fv hx,Fv hy,e1,e2,e3,FN]
  repeat' (first|(first|apply cS|apply gS)<;>intro hc<;>simp only [go_sem,hc,h0,h1,h2,hw,Fv hx,Fv hy,e1,e2,e3,FN])
  all_goals first
   | rfl
   | (simp only [cY,Jq,hF];rfl)
   | grind [cY,Jq]
   | (simp only [cY,Jq,hF];grind)
   | (simp [cY,Jq,hF, *];done)
   | (simp_all [cY,Jq,hF];done)
   | skip
 ·intro hF hlt
  simp only [go_sem,hlt,dF]
  all_goals first
   | rfl
   | (simp only [cY,Lx];rfl)
   | grind [cY,Lx]
   | (simp only [cY,Lx];grind)
   | (simp [cY,Lx, *];done)
   | (simp_all [cY,Lx];done)
   | skip
def AHF : ∀ x:Eh,FR x.c<=1073741824->FQ AA 270 [.agg x.c] (.bool (NL x)):=by
 refine JS _ λx ih=>λhb=>?_
 have hl:x.args.length<=9223372036854775807:=AK (Vk (I9 hb)) dc
 refine pC AKr rfl ?_
 simp only [f270,go_sem,FN]
 repeat' (first|(refine pK (Uq _ (QG hb)) ?_;simp only [go_sem,FN])|(first|apply cS|apply gS)<;>intro hc<;>simp only [go_sem,hc,FN])
 all_goals first
  | rfl
  | (simp only [Hn,Sh,JO,NK];rfl)
  | grind [Hn,Sh,JO,NK]
  | (simp only [Hn,Sh,JO,NK];grind)
  | (simp [Hn,Sh,JO,NK, *];done)
  | (simp_all [Hn,Sh,JO,NK];done)
  | skip
 all_goals
  have ho:((Sh x).1&&x.args.length==(Sh x).2)=true:=by grind [Sh,JO,NK]
  refine Fa x.args (λr=>WB r) (λk=>[(1,.ptr 0 0),(6,.int .i64 x.args.length),(8,.int .i64 k)]) hl (by grind) ?_ ?_
  ·intro k y ys hd hx hF h0 h1 hw
   have hm:=AB hx
   have hby:FR y.c<=1073741824:=by have:=Vl (I9 hb) hm;simpa only [AV.bulk] using this
   simp only [go_sem,h0,h1,Fp hx]
   repeat' (first|(refine pK (ih _ hm hby) ?_;simp only [go_sem,h0,h1,hw,Fp hx])|(first|apply cS|apply gS)<;>intro hc<;>simp only [go_sem,hc,h0,h1,hw,Fp hx])
   ·rw [Hn,ho,hF,Kc]
    simp only [BW] at hc
    rw [hc];rfl
   ·rw [Kc]
    simp only [CX] at hc
    rw [hc];rfl
  ·intro hF hlt
   simp only [go_sem,hlt,dF]
   rw [Hn,ho,hF,Hm];rfl
def Abn : ∀ x:Ei,FR x.c<=1073741824->FQ AA 269 [.agg x.c] (.bool (Rg x)):=by
 refine Hq _ λx ih=>λhb=>?_
 have hl:x.args.length<=9223372036854775807:=AK (Qb (II hb)) dc
 refine pC AKu rfl ?_
 simp only [f269,go_sem,FN]
 repeat' (first|((first|refine pK (Uq _ (N7 hb)) ?_|refine pK (FQ.lend (Abp x.pred Pred.z)) ?_|refine pK (AHF _ (MC hb)) ?_);simp only [go_sem,FN])|(first|apply cS|apply gS)<;>intro hc<;>simp only [go_sem,hc,FN])
 all_goals first
  | rfl
  | (simp only [IP,VU,NK];rfl)
  | grind [IP,VU,NK]
  | (simp only [IP,VU,NK];grind)
  | (simp [IP,VU,NK, *];done)
  | (simp_all [IP,VU,NK];done)
  | skip
 all_goals
  have ho:((VU x).1&&x.args.length==(VU x).2)=true:=by grind [VU,NK]
  refine Fa x.args (λr=>WC r) (λk=>[(1,.ptr 0 0),(6,.int .i64 x.args.length),(8,.int .i64 k)]) hl (by grind) ?_ ?_
  ·intro k y ys hd hx hF h0 h1 hw
   have hm:=AB hx
   have hby:FR y.c<=1073741824:=by have:=Qc (II hb) hm;simpa only [AV.bulk] using this
   simp only [go_sem,h0,h1,Fc hx]
   repeat' (first|(refine pK (ih _ hm hby) ?_;simp only [go_sem,h0,h1,hw,Fc hx])|(first|apply cS|apply gS)<;>intro hc<;>simp only [go_sem,hc,h0,h1,hw,Fc hx])
   ·rw [IP,ho,hF,Kd]
    simp only [BW] at hc
    rw [hc];rfl
   ·rw [Kd]
    simp only [CX] at hc
    rw [hc];rfl
  ·intro hF hlt
   simp only [go_sem,hlt,dF]
   rw [IP,ho,hF,Ip];rfl
def Abm : ∀ x:Ej,FR x.c<=1073741824->FQ AA 263 [.agg x.c] (.bool (fmR x)):=by
 refine TB _ λx ih=>λhb=>?_
 have hl:x.args.length<=9223372036854775807:=AK (sw (QF hb)) dc
 refine pC ALF rfl ?_
 simp only [f263,go_sem,FN]
 repeat' (first|(refine pK (aw _ (YE hb)) ?_;simp only [go_sem,FN])|(first|apply cS|apply gS)<;>intro hc<;>simp only [go_sem,hc,FN])
 all_goals first
  | rfl
  | (simp only [Qs,yZ];rfl)
  | grind [Qs,yZ]
  | (simp only [Qs,yZ];grind)
  | (simp [Qs,yZ, *];done)
  | (simp_all [Qs,yZ];done)
  | skip
 all_goals
  have ho:((yZ x).1&&x.args.length==(yZ x).2)=true:=by grind [yZ]
  refine Fa x.args (λr=>aY r) (λk=>[(1,.ptr 0 0),(4,.int .i64 x.args.length),(6,.int .i64 k)]) hl (by grind) ?_ ?_
  ·intro k y ys hd hx hF h0 h1 hw
   have hm:=AB hx
   have hby:FR y.c<=1073741824:=by have:=sy (QF hb) hm;simpa only [AV.bulk] using this
   simp only [go_sem,h0,h1,IOq hx]
   repeat' (first|(refine pK (ih _ hm hby) ?_;simp only [go_sem,h0,h1,hw,IOq hx])|(first|apply cS|apply gS)<;>intro hc<;>simp only [go_sem,hc,h0,h1,hw,IOq hx])
   ·rw [Qs,ho,hF,ZB]
    simp only [BW] at hc
    rw [hc];rfl
   ·rw [ZB]
    simp only [CX] at hc
    rw [hc];rfl
  ·intro hF hlt
   simp only [go_sem,hlt,dF]
   rw [Qs,ho,hF,AB3];rfl
def AFu(z:Eg):FQ AA 307 [.agg z.c] (.int .i64 (QZ z)):=by
 refine pC AJz rfl ?_
 simp only [f307,go_sem]
 repeat' (first|(first|apply cS|apply gS)<;>intro hc<;>simp only [go_sem,hc])
 all_goals first
  | rfl
  | (simp only [QZ];rfl)
  | grind [QZ]
  | (simp only [QZ];grind)
  | (simp [QZ, *];done)
  | (simp_all [QZ];done)
  | skip
def WY(z:Eg)(b:Bool):FQ AA 262 [.agg z.c,.bool b] (.int .i64 (qR z b)):=by
 refine pC ALI rfl ?_
 simp only [f262,go_sem]
 repeat' (first|(refine pK (AFu _) ?_;simp only [go_sem])|(first|apply cS|apply gS)<;>intro hc<;>simp only [go_sem,hc])
 all_goals first
  | rfl
  | (simp only [qR];rfl)
  | grind [qR]
  | (simp only [qR];grind)
  | (simp [qR, *];done)
  | (simp_all [qR];done)
  | skip
def Abs(x:Eh)(hb:FR x.c<=1073741824):FQ AA 204 [.agg x.c] (.int .i64 (ckP x)):=by
 refine pC AM1 rfl ?_
 simp only [f204,go_sem]
 repeat' (first|((first|refine pK (qi _) ?_|refine pK (AHF _ hb) ?_|refine pK (WY _ _) ?_);simp only [go_sem])|(first|apply cS|apply gS)<;>intro hc<;>simp only [go_sem,hc])
 all_goals first
  | rfl
  | (simp only [ckP];rfl)
  | grind [ckP]
  | (simp only [ckP];grind)
  | (simp [ckP, *];done)
  | (simp_all [ckP];done)
  | skip
def ACk(x:Ei)(hb:FR x.c<=1073741824):FQ AA 203 [.agg x.c] (.int .i64 (Up x)):=by
 refine pC AM4 rfl ?_
 simp only [f203,go_sem]
 repeat' (first|((first|refine pK (AHD _) ?_|refine pK (Abn _ hb) ?_|refine pK (WY _ _) ?_);simp only [go_sem])|(first|apply cS|apply gS)<;>intro hc<;>simp only [go_sem,hc])
 all_goals first
  | rfl
  | (simp only [Up];rfl)
  | grind [Up]
  | (simp only [Up];grind)
  | (simp [Up, *];done)
  | (simp_all [Up];done)
  | skip
def Abr(x:Ej)(hb:FR x.c<=1073741824):FQ AA 199 [.agg x.c] (.int .i64 (ckR x)):=by
 refine pC ANF rfl ?_
 simp only [f199,go_sem]
 repeat' (first|((first|refine pK (AHC _) ?_|refine pK (Abm _ hb) ?_|refine pK (WY _ _) ?_);simp only [go_sem])|(first|apply cS|apply gS)<;>intro hc<;>simp only [go_sem,hc])
 all_goals first
  | rfl
  | (simp only [ckR];rfl)
  | grind [ckR]
  | (simp only [ckR];grind)
  | (simp [ckR, *];done)
  | (simp_all [ckR];done)
  | skip
def Abl(x:Stp)(hb:FR x.c<=1073741824):FQ AA 273 [.agg x.c] (.bool (ZA x)):=by
 have hl:x.key.length<=9223372036854775807:=AK (Uf (MA hb)) dc
 refine pC AKi rfl ?_
 simp only [f273,go_sem,FN]
 repeat' (first|((first|refine pK (FQ.lend (Abo x Stp.z)) ?_|refine pK (aw _ (oz hb)) ?_);simp only [go_sem,FN])|(first|apply cS|apply gS)<;>intro hc<;>simp only [go_sem,hc,FN])
 all_goals first
  | rfl
  | (simp only [ZA];rfl)
  | grind [ZA]
  | (simp only [ZA];grind)
  | (simp [ZA, *];done)
  | (simp_all [ZA];done)
  | skip
 refine Fa x.key (λr=>r.all Uj) (λk=>[(1,.ptr 0 0),(5,.int .i64 k)]) hl rfl ?_ ?_
 ·intro k y ys hd hx hF h0 h1 hw
  have hm:=AB hx
  have hby:y.size<=1073741824:=by have:=AFD (MA hb) hm;simp only [AV.bulk] at this;omega
  simp only [go_sem,h0,h1,Fv hx]
  repeat' (first|(refine pK (Uq _ hby) ?_;simp only [go_sem,h0,h1,hw,Fv hx])|(first|apply cS|apply gS)<;>intro hc<;>simp only [go_sem,hc,h0,h1,hw,Fv hx])
  all_goals first
   | rfl
   | (simp only [ZA,Al];rfl)
   | grind [ZA]
   | (simp only [ZA,Al];grind)
   | (simp [ZA,Al, *];done)
   | (simp_all [ZA,Al];done)
   | skip
 ·intro hF hlt
  simp only [go_sem,hlt,dF]
  repeat' (first|(refine pK (Uq _ (bS hb)) ?_;simp only [go_sem,FN])|(first|apply cS|apply gS)<;>intro hc<;>simp only [go_sem,hc,FN])
  all_goals first
   | rfl
   | (simp only [ZA,Ay];rfl)
   | grind [ZA]
   | (simp only [ZA,Ay];grind)
   | (simp [ZA,Ay, *];done)
   | (simp_all [ZA,Ay];done)
   | skip
def AHH(x:Stp)(hb:FR x.c<=1073741824):FQ AA 206 [.agg x.c] (.int .i64 (cZ x)):=by
 refine pC AMv rfl ?_
 simp only [f206,go_sem]
 repeat' (first|(refine pK (Abl _ hb) ?_;simp only [go_sem])|(first|apply cS|apply gS)<;>intro hc<;>simp only [go_sem,hc])
 all_goals first
  | rfl
  | (simp only [cZ];rfl)
  | grind [cZ]
  | (simp only [cZ];grind)
  | (simp [cZ, *];done)
  | (simp_all [cZ];done)
  | skip
def Abt(x:List Ek)(hb:FR (F9 x)<=1073741824):FQ AA 136 [.sl none (F9 x)] (.int .i64 (XH x)):=by
 have hl:x.length<=9223372036854775807:=AK (Mv hb) dc
 refine pC AP0 rfl ?_
 simp only [f136,go_sem]
 repeat' (first|(first|apply cS|apply gS)<;>intro hc<;>simp only [go_sem,hc])
 all_goals first
  | rfl
  | (simp only [XH];rfl)
  | grind [XH]
  | (simp only [XH];grind)
  | (simp [XH, *];done)
  | (simp_all [XH];done)
  | skip
 refine Fa x (λr=>Pt r) (λk=>[(0,.sl none (F9 x)),(3,.int .i64 k)]) hl rfl ?_ ?_
 ·intro k y ys hd hx hF h0 h1 hw
  have hm:=AB hx
  have hby:FR y.c<=1073741824:=by have:=KW hb hm;simpa only [AV.bulk] using this
  simp only [go_sem,h0,h1,Fg hx]
  repeat' (first|((first|refine pK (ACk _ (Hu hby)) ?_|refine pK (AHH _ (Ky hby)) ?_);simp only [go_sem,h0,h1,hw,Fg hx])|(first|apply cS|apply gS)<;>intro hc<;>simp only [go_sem,hc,h0,h1,hw,Fg hx])
  all_goals first
   | rfl
   | (simp only [XH,Pt];rfl)
   | grind [XH,Pt]
   | (simp only [XH,Pt];grind)
   | (simp [XH,Pt, *];done)
   | (simp_all [XH,Pt];done)
   | skip
 ·intro hF hlt
  simp only [go_sem,hlt,dF]
  all_goals first
   | rfl
   | (simp only [XH,Pt];rfl)
   | grind [XH,Pt]
   | (simp only [XH,Pt];grind)
   | (simp [XH,Pt, *];done)
   | (simp_all [XH,Pt];done)
   | skip
def AF2:FQ AA 274 [] (.agg JV.c):=by
 have h:FQ AA 274 [] (.agg JV.c):=FQ.run ACH 100 rfl kr kr
 exact h
def Qv(l:List Fld)(s:ByteArray):FQ AA 208 [.sl none (GN l),.str s] (.tup [.agg (Fb l s).1.c,.bool (Fb l s).2]):=by
 refine FQ.fit ABh.c λhf=>?_
 have hl:=fits hf
 rw [Ra] at hl
 refine pB ABh rfl ?_
 simp only [f208,go_sem,FN]
 repeat' (first|(refine pK (AF2) ?_;simp only [go_sem,FN])|(first|apply cS|apply gS)<;>intro hc<;>simp only [go_sem,hc,FN])
 all_goals first
  | rfl
  | (simp only [Fb,GC];rfl)
  | grind [Fb,GC]
  | (simp only [Fb,GC];grind)
  | (simp [Fb,GC, *];done)
  | (simp_all [Fb,GC];done)
  | skip
 ·refine Fa l (λr=>r.find? (λf=>decide (f.name=s))) (λk=>[(0,.sl none (GN l)),(1,.str s),(4,.ptr 0 0),(6,.int .i64 k)]) hl rfl ?_ ?_
  ·intro k y ys hd hx hF h0 h1 hw
   simp only [go_sem,h0,h1,Gv hx,FN]
   repeat' (first|(first|apply cS|apply gS)<;>intro hc<;>simp only [go_sem,hc,h0,h1,hw,Gv hx,FN])
   all_goals first
    | rfl
    | (simp only [Fb,GC];rfl)
    | grind [Fb,GC]
    | (simp only [Fb,GC];grind)
    | (simp [Fb,GC, *];done)
    | (simp_all [Fb,GC];done)
    | skip
  ·intro hF hlt
   simp only [go_sem,hlt,dF]
   all_goals first
    | rfl
    | (simp only [Fb,GC];rfl)
    | grind [Fb,GC]
    | (simp only [Fb,GC];grind)
    | (simp [Fb,GC, *];done)
    | (simp_all [Fb,GC];done)
    | skip
def AFr(n:Int)(hn:n<9223372036854775807):FQ AA 275 [.int .i64 n] (.int .i64 (XM n.toNat)):=by
 refine pC AKf rfl ?_
 simp only [f275,go_sem]
 refine bD n.toNat (λk=>[(0,.int .i64 n),(3,.int .i64 (XM k)),(4,.int .i64 k)]) (λ_=>[]) rfl rfl ?_
 intro k hk
 by_cases h:(k:Int)<n
 ·have hw:=Mk (k:=k) FO
  simp only [go_sem,h,dT,hw]
  exact ⟨FO,rfl,rfl⟩
 ·have:k=n.toNat:=FO
  subst this
  simp only [go_sem,h,dF]
def au(f:Fld)(hn:f.width<9223372036854775807):FQ AA 209 [.agg f.c] (.int .i64 (KV f)):=by
 refine pC AMn rfl ?_
 simp only [f209,go_sem]
 repeat' (first|(refine pK (AFr _ hn) ?_;simp only [go_sem])|(first|apply cS|apply gS)<;>intro hc<;>simp only [go_sem,hc])
 all_goals first
  | rfl
  | (simp only [KV];rfl)
  | grind [KV]
  | (simp only [KV];grind)
  | (simp [KV, *];done)
  | (simp_all [KV];done)
  | skip
def ATL : ∀ x:Eh,FR x.c<=1073741824->FQ AA 271 [.agg x.c] (.sl none (GH (SV x))):=by
 refine JS _ λx ih=>λhb=>?_
 have hl:x.args.length<=9223372036854775807:=AK (Vk (I9 hb)) dc
 have hn:=AK (dj x) hb
 refine pB AKo rfl ?_
 simp only [f271,go_sem]
 refine Fm x.args (λo l=>o++Mq l) (λ_ _=>True) (λk o=>[(1,.ptr 0 0),(3,.sl (some 5) (GH o)),(4,.int .i64 k)]) (λk o=>[some x.c]) [x] hl trivial (by rw [Hg];rfl) rfl ?_ ?_
 ·intro k o y ys hd hx _ hF h0 h1 hw
  have hm:=AB hx
  have hby:FR y.c<=1073741824:=by have:=Vl (I9 hb) hm;simpa only [AV.bulk] using this
  have hlen:o.length+(SV y).length<=1073741824:=by
   have:=congrArg List.length hF
   rw [Jc] at this
   rw [LX] at hn
   simp at this hn
   omega
  simp only [go_sem,h0,h1,Fp hx]
  repeat' (first|(refine pK (ih _ hm hby) ?_;simp only [go_sem,h0,h1,hw,Fp hx])|(first|apply cS|apply gS)<;>intro hc<;>simp only [go_sem,hc,h0,h1,hw,Fp hx])
  exact ⟨FO,FO,o++SV y,by rw [Jc,AE],rfl,rfl⟩
 ·intro o _ hF
  simp only [go_sem,AW,dF]
  rw [LX]
  simp only [Li,Ai] at hF
  rw [<- hF];rfl
def ACX : ∀ x:Ei,FR x.c<=1073741824->FQ AA 207 [.agg x.c] (.sl none (F3 (Mr x))):=by
 refine Hq _ λx ih=>λhb=>?_
 have hl:x.args.length<=9223372036854775807:=AK (Qb (II hb)) dc
 have hn:=AK (RN x) hb
 refine pB AMs rfl ?_
 simp only [f207,go_sem]
 refine Fm x.args (λo l=>o++MH l) (λ_ _=>True) (λk o=>[(1,.ptr 0 0),(3,.sl (some 9) (F3 o)),(4,.int .i64 k)]) (λk o=>[some x.c]) [x] hl trivial (by rw [Ge];rfl) rfl ?_ ?_
 ·intro k o y ys hd hx _ hF h0 h1 hw
  have hm:=AB hx
  have hby:FR y.c<=1073741824:=by have:=Qc (II hb) hm;simpa only [AV.bulk] using this
  have hlen:o.length+(Mr y).length<=1073741824:=by
   have:=congrArg List.length hF
   rw [Ik] at this
   rw [Kr] at hn
   simp at this hn
   omega
  simp only [go_sem,h0,h1,Fc hx]
  repeat' (first|(refine pK (ih _ hm hby) ?_;simp only [go_sem,h0,h1,hw,Fc hx])|(first|apply cS|apply gS)<;>intro hc<;>simp only [go_sem,hc,h0,h1,hw,Fc hx])
  exact ⟨FO,FO,o++Mr y,by rw [Ik,AE],rfl,rfl⟩
 ·intro o _ hF
  simp only [go_sem,AW,dF]
  rw [Kr]
  simp only [KQ,Ai] at hF
  rw [<- hF];rfl
def ATM(l:List Fld)(x:Eh)(hl : ∀ f∈l,f.width<=9000000000000000000):FQ AA 272 [.sl none (GN l),.agg x.c] (.int .i64 (Pr l x)):=by
 have hw:(Fb l x.field).1.width<9223372036854775807:=by
  unfold Fb
  split
  ·decide
  ·split
   ·rename_i f hf
    have:=hl f (DH hf)
    show f.width<_
    omega
   ·decide
 refine pC AKl rfl ?_
 simp only [f272,go_sem]
 repeat' (first|((first|refine pK (Qv _ _) ?_|refine pK (au _ hw) ?_);simp only [go_sem])|(first|apply cS|apply gS)<;>intro hc<;>simp only [go_sem,hc])
 all_goals first
  | rfl
  | (simp only [Pr];rfl)
  | grind [Pr]
  | (simp only [Pr];grind)
  | (simp [Pr, *];done)
  | (simp_all [Pr];done)
  | skip
def ACe(l:List Fld)(x:Eh)(hl : ∀ f∈l,f.width<=9000000000000000000)(hb:FR x.c<=1073741824):FQ AA 205 [.sl none (GN l),.agg x.c] (.int .i64 (Rh l x)):=by
 have hn:=AK (dj x) hb
 refine pC AMy rfl ?_
 simp only [f205,go_sem]
 repeat' (first|(refine pK (ATL _ hb) ?_;simp only [go_sem])|(first|apply cS|apply gS)<;>intro hc<;>simp only [go_sem,hc])
 refine Fa (SV x) (λr=>LR l r) (λk=>[(0,.sl none (GN l)),(5,.sl none (GH (SV x))),(6,.int .i64 k)]) FO rfl ?_ ?_
 ·intro k y ys hd hx hF h0 h1 hw
  simp only [go_sem,h0,h1,Fp hx]
  repeat' (first|(refine pK (ATM _ _ hl) ?_;simp only [go_sem,h0,h1,hw,Fp hx])|(first|apply cS|apply gS)<;>intro hc<;>simp only [go_sem,hc,h0,h1,hw,Fp hx])
  all_goals first
   | rfl
   | (simp only [Rh,LR];rfl)
   | grind [Rh,LR]
   | (simp only [Rh,LR];grind)
   | (simp [Rh,LR, *];done)
   | (simp_all [Rh,LR];done)
   | skip
 ·intro hF hlt
  simp only [go_sem,hlt,dF]
  all_goals first
   | rfl
   | (simp only [Rh,LR];rfl)
   | grind [Rh,LR]
   | (simp only [Rh,LR];grind)
   | (simp [Rh,LR, *];done)
   | (simp_all [Rh,LR];done)
   | skip
abbrev yb(l:List Fld):Prop:=∀ f∈l,f.width<=9000000000000000000
def aa{l:List Fld}(hl:yb l)(s:ByteArray):(Fb l s).1.width<9223372036854775807:=by
 unfold Fb
 split
 ·decide
 ·split
  ·rename_i f hf
   have:=hl f (DH hf)
   show f.width<_
   omega
  ·decide
def ACa(s:Stp):FQ AA 147 [.agg s.c] (.bool (Lt s)):=by
 refine pC APK rfl ?_
 simp only [f147,go_sem]
 repeat' (first|(first|apply cS|apply gS)<;>intro hc<;>simp only [go_sem,hc])
 all_goals first
  | rfl
  | (simp only [Lt];rfl)
  | grind [Lt]
  | (simp only [Lt];grind)
  | (simp [Lt, *];done)
  | (simp_all [Lt];done)
  | skip
def ACh(k:Int):FQ AA 145 [.int .i64 k] (.int .i64 (Lc k)):=by
 refine pC APT rfl ?_
 simp only [f145,go_sem]
 repeat' (first|(first|apply cS|apply gS)<;>intro hc<;>simp only [go_sem,hc])
 all_goals first
  | rfl
  | (simp only [Lc];rfl)
  | grind [Lc]
  | (simp only [Lc];grind)
  | (simp [Lc, *];done)
  | (simp_all [Lc];done)
  | skip
def nu(l:List Fld)(key:List ByteArray)(hk:key.length<=1073741824):FQ AA 146 [.sl none (GN l),.sl none (HD key)] (.sl none (GB (Iz l key))):=by
 refine pB APP rfl ?_
 simp only [f146,go_sem]
 refine Fm key (λo r=>o++Iz l r) (λk o=>o.length=k) (λk o=>[(0,.sl none (GN l)),(1,.sl none (HD key)),(5,.sl (some 1) (GB o)),(6,.int .i64 k)]) (λk o=>[]) [] FO rfl rfl rfl ?_ ?_
 ·intro k o y ys hd hx hI hF h0 h1 hw
  have hk2:=Fl hd
  simp only [go_sem,h0,h1,Fv hx]
  repeat' (first|(refine pK (Qv _ _) ?_;simp only [go_sem,h0,h1,hw,Fv hx])|(first|apply cS|apply gS)<;>intro hc<;>simp only [go_sem,hc,h0,h1,hw,Fv hx])
  exact ⟨FO,FO,o++[(Fb l y).1.width],by simp [Iz],by simp [hI],rfl,rfl⟩
 ·intro o hI hF
  simp only [go_sem,AW,dF]
  simp only [Iz,List.map_nil,Ai,AN] at hF
  rw [Iz,hF]
def Abq(a b:List Int):FQ AA 210 [.sl none (GB a),.sl none (GB b)] (.bool (Xl a b)):=by
 refine FQ.fit ABg.c λhf=>?_
 have hl:=fits hf
 rw [HM] at hl
 refine pC ABg rfl ?_
 simp only [f210,go_sem]
 repeat' (first|(first|apply cS|apply gS)<;>intro hc<;>simp only [go_sem,hc])
 all_goals first
  | rfl
  | (simp only [Xl];rfl)
  | grind [Xl]
  | (simp only [Xl];grind)
  | (simp [Xl, *];done)
  | (simp_all [Xl];done)
  | skip
 have hll:a.length=b.length:=by grind
 refine Fa a (λr=>decide (r=b.drop (a.length - r.length))) (λk=>[(0,.sl none (GB a)),(1,.sl none (GB b)),(5,.int .i64 k)]) hl rfl ?_ ?_
 ·intro k z zs hd hx hF h0 h1 hw
  have hk:=Fl hd
  obtain ⟨w,hy⟩ : ∃ w,b[k]? =some w:=⟨_,AL FO⟩
  have e1:a.length - (zs.length+1)=k:=FO
  have e2:a.length - zs.length=k+1:=FO
  have e3:b.drop k=w::b.drop (k+1):=by rw [BL FO];congr 1;grind
  have h2:(k:Int)<(b.length:Int):=FO
  simp only [AD,e1,AO,BO,e3] at hF
  simp only [go_sem,h0,h1,h2,GI hx,GI hy,e1,e2,e3]
  repeat' (first|(first|apply cS|apply gS)<;>intro hc<;>simp only [go_sem,hc,h0,h1,h2,hw,GI hx,GI hy,e1,e2,e3])
  all_goals first
   | rfl
   | (simp only [Xl,hF,List.cons.injEq];rfl)
   | grind [Xl,List.cons.injEq]
   | (simp only [Xl,hF,List.cons.injEq];grind)
   | (simp [Xl,hF,List.cons.injEq, *];done)
   | (simp_all [Xl,hF,List.cons.injEq];done)
   | skip
 ·intro hF hlt
  simp only [go_sem,hlt,dF]
  simp only [AO,BO,List.length_nil,Bo] at hF
  have h3:b.drop a.length=[]:=by rw [hll];simp
  simp only [h3] at hF
  rw [Xl,hF];rfl
def ATY(l:List Fld)(s t:Stp)(h1:s.key.length<=1073741824)(h2:t.key.length<=1073741824):FQ AA 139 [.sl none (GN l),.agg s.c,.agg t.c] (.bool (UD l s t)):=by
 refine pC APl rfl ?_
 simp only [f139,go_sem]
 repeat' (first|((first|refine pK (ACa _) ?_|refine pK (nu _ _ h1) ?_|refine pK (nu _ _ h2) ?_|refine pK (Abq _ _) ?_|refine pK (ACh _) ?_);simp only [go_sem])|(first|apply cS|apply gS)<;>intro hc<;>simp only [go_sem,hc])
 all_goals first
  | rfl
  | (simp only [UD];rfl)
  | grind [UD]
  | (simp only [UD];grind)
  | (simp [UD, *];done)
  | (simp_all [UD];done)
  | skip
def ACj(l:List Fld)(x:Eh)(hl:yb l)(hb:FR x.c<=1073741824):FQ AA 135 [.sl none (GN l),.agg x.c] (.int .i64 (T8 l x)):=by
 refine pC AP3 rfl ?_
 simp only [f135,go_sem]
 repeat' (first|((first|refine pK (Abs _ hb) ?_|refine pK (ACe _ _ hl hb) ?_);simp only [go_sem])|(first|apply cS|apply gS)<;>intro hc<;>simp only [go_sem,hc])
 all_goals first
  | rfl
  | (simp only [T8];rfl)
  | grind [T8]
  | (simp only [T8];grind)
  | (simp [T8, *];done)
  | (simp_all [T8];done)
  | skip
def ATT(l:List Fld)(x:Ei)(hl:yb l)(hb:FR x.c<=1073741824):FQ AA 137 [.sl none (GN l),.agg x.c] (.int .i64 (Ki l x)):=by
 have hn:=AK (RN x) hb
 refine pC APw rfl ?_
 simp only [f137,go_sem]
 repeat' (first|((first|refine pK (ACk _ hb) ?_|refine pK (ACX _ hb) ?_);simp only [go_sem])|(first|apply cS|apply gS)<;>intro hc<;>simp only [go_sem,hc])
 all_goals first
  | rfl
  | (simp only [Ki];rfl)
  | grind [Ki]
  | (simp only [Ki];grind)
  | (simp [Ki, *];done)
  | (simp_all [Ki];done)
  | skip
 refine Fa (Mr x) (λr=>LN l r) (λk=>[(0,.sl none (GN l)),(5,.int .i64 0),(6,.sl none (F3 (Mr x))),(7,.int .i64 k)]) FO (by grind) ?_ ?_
 ·intro k y ys hd hx hF h0 h1 hw
  have hm:=AB hx
  have hby:=AK (rn x y hm) hb
  simp only [go_sem,h0,h1,Fc hx]
  repeat' (first|((first|refine pK (ACe _ _ hl (MC hby)) ?_|refine pK (Qv _ _) ?_|refine pK (au _ (aa hl _)) ?_);simp only [go_sem,h0,h1,hw,Fc hx])|(first|apply cS|apply gS)<;>intro hc<;>simp only [go_sem,hc,h0,h1,hw,Fc hx])
  all_goals first
   | rfl
   | (simp only [Ki,LN,RO,At];rfl)
   | grind [Ki,LN,RO,At]
   | (simp only [Ki,LN,RO,At];grind)
   | (simp [Ki,LN,RO,At, *];done)
   | (simp_all [Ki,LN,RO,At];done)
   | skip
 ·intro hF hlt
  simp only [go_sem,hlt,dF]
  all_goals first
   | rfl
   | (simp only [Ki,LN];rfl)
   | grind [Ki,LN]
   | (simp only [Ki,LN];grind)
   | (simp [Ki,LN, *];done)
   | (simp_all [Ki,LN];done)
   | skip
def JI{α:Type}{l:List α}{i k:Nat}{x:α}(h:(l.take i)[k]? =some x):l[k]? =some x:=by
 rw [Ak] at h
 split at h
 ·exact h
 ·cases h
def Jw{α:Type}{l:List α}{i:Nat}(h:i<=l.length):(l.take i).length=i:=by simp;omega
def ATS(l:List Fld)(s:Stp)(hl:yb l)(hb:FR s.c<=1073741824):FQ AA 138 [.sl none (GN l),.agg s.c] (.int .i64 (MD l s)) := by
  have hk:s.key.length<=1073741824 := Uf (MA hb)
  have g0:s.key.length*16<=140737488355328 := by omega
  have g1:s.key.length<=9223372036854775807 := by omega
  have g2:(s.key.length+1)*16<=140737488355328 := by omega
  have g3:s.key.length<=9223372036854775806 := by omega
  refine pC APq rfl ?_
  simp only [f138,go_sem,FN]
  repeat' (first|(refine pK (AHH _ hb) ?_;simp only [go_sem,FN,g0,g1,g2,g3])|(first|apply cS|apply gS)<;>intro hc<;>simp only [go_sem,hc,FN,g0,g1,g2,g3])
  all_goals first
    | rfl
    | (simp only [MD];rfl)
    | grind [MD]
    | (simp only [MD];grind)
    | (simp [MD, *];done)
    | (simp_all [MD];done)
    | skip
  · have hnm:J0 s=s.key++[s.field] := by grind [J0]
    have hnl:(s.key++[s.field]).length<=1073741825 := by first|omega|(simp;omega)
    refine Fa (s.key++[s.field]) (λr=>r.all (λy=>(Fb l y).2)) (λk=>[(0,.sl none (GN l)),(3,.ptr 0 0),(6,.sl (some 1) (HD (s.key++[s.field]))),(7,.int .i64 k)]) FO rfl ?_ ?_
    · intro k y ys hd hx hF h0 h1 hw
      simp only [go_sem,h0,h1,Fv hx]
      repeat' (first|(refine pK (Qv _ _) ?_;simp only [go_sem,h0,h1,hw,Fv hx])|(first|apply cS|apply gS)<;>intro hc<;>simp only [go_sem,hc,h0,h1,hw,Fv hx])
      all_goals first
        | (have h5 : (J0 s).all (fun y => (Fb l y).2) = false := by rw [hnm, hF]; simp_all
           grind [MD])
        | simp_all
    · intro hF hlt
      simp only [go_sem,hlt,dF]
      refine Fa s.key (λr=>JX s.key (s.key.length - r.length) r) (λk=>[(0,.sl none (GN l)),(3,.ptr 0 0),(10,.int .i64 k)]) FO rfl ?_ ?_
      · intro k y ys hd hx hF2 h0 h1 hw
        have hk2 := Fl hd
        have e1:s.key.length - (ys.length+1)=k := by omega
        have e2:s.key.length - ys.length=k+1 := by omega
        have ht:(s.key.take k).length=k := Jw FO
        simp only [AD,e1,AO] at hF2
        simp only [go_sem,h0,h1,e1,e2]
        refine Fa (s.key.take k) (λr=>r.any (λz=>decide (z=y))) (λi=>[(0,.sl none (GN l)),(3,.ptr 0 0),(10,.int .i64 k),(11,.int .i64 i)]) FO rfl ?_ ?_
        · intro i z zs hd3 hx3 hF3 h03 Lb hw3
          rw [ht] at Lb
          have hx4 := JI hx3
          have Nj:(i:Int)<(s.key.length:Int) := by omega
          simp only [go_sem,h03,Lb,Nj,h0,h1,Fv hx4,Fv hx,FN]
          repeat' (first|(first|apply cS|apply gS)<;>intro hc<;>simp only [go_sem,hc,h03,Lb,Nj,hw3,h0,h1,Fv hx4,Fv hx,FN])
          all_goals first
            | (have h5 : JX s.key 0 s.key = false := by rw [hF2, JX, hF3, Au, hc]; rfl
               have h6:(J0 s).all (λy=>(Fb l y).2)=true := by rw [hnm,hF];rfl
               grind [MD])
            | (rw [Au,hc];rfl)
        · intro hF3 hlt3
          rw [ht] at hlt3
          simp only [go_sem,ht,hlt3,dF,hw]
          rw [e1,e2,JX,hF3];rfl
      · intro hF2 hlt2
        have h5:JX s.key 0 s.key=true := by simp only [AO] at hF2;rw [hF2];rfl
        have h6:(J0 s).all (λy=>(Fb l y).2)=true := by rw [hnm,hF];rfl
        simp only [go_sem,hlt2,dF]
        repeat' (first|((first|refine pK (Qv _ _) ?_|refine pK (au _ (aa hl _)) ?_);simp only [go_sem])|(first|apply cS|apply gS)<;>intro hc<;>simp only [go_sem,hc])
        all_goals grind [MD]
  · have hnm:J0 s=s.key := by grind [J0]
    have hnl:(s.key).length<=1073741825 := by first|omega|(simp;omega)
    refine Fa (s.key) (λr=>r.all (λy=>(Fb l y).2)) (λk=>[(0,.sl none (GN l)),(3,.ptr 0 0),(6,.sl (some 1) (HD (s.key))),(7,.int .i64 k)]) FO rfl ?_ ?_
    · intro k y ys hd hx hF h0 h1 hw
      simp only [go_sem,h0,h1,Fv hx]
      repeat' (first|(refine pK (Qv _ _) ?_;simp only [go_sem,h0,h1,hw,Fv hx])|(first|apply cS|apply gS)<;>intro hc<;>simp only [go_sem,hc,h0,h1,hw,Fv hx])
      all_goals first
        | (have h5 : (J0 s).all (fun y => (Fb l y).2) = false := by rw [hnm, hF]; simp_all
           grind [MD])
        | simp_all
    · intro hF hlt
      simp only [go_sem,hlt,dF]
      refine Fa s.key (λr=>JX s.key (s.key.length - r.length) r) (λk=>[(0,.sl none (GN l)),(3,.ptr 0 0),(10,.int .i64 k)]) FO rfl ?_ ?_
      · intro k y ys hd hx hF2 h0 h1 hw
        have hk2 := Fl hd
        have e1:s.key.length - (ys.length+1)=k := by omega
        have e2:s.key.length - ys.length=k+1 := by omega
        have ht:(s.key.take k).length=k := Jw FO
        simp only [AD,e1,AO] at hF2
        simp only [go_sem,h0,h1,e1,e2]
        refine Fa (s.key.take k) (λr=>r.any (λz=>decide (z=y))) (λi=>[(0,.sl none (GN l)),(3,.ptr 0 0),(10,.int .i64 k),(11,.int .i64 i)]) FO rfl ?_ ?_
        · intro i z zs hd3 hx3 hF3 h03 Lb hw3
          rw [ht] at Lb
          have hx4 := JI hx3
          have Nj:(i:Int)<(s.key.length:Int) := by omega
          simp only [go_sem,h03,Lb,Nj,h0,h1,Fv hx4,Fv hx,FN]
          repeat' (first|(first|apply cS|apply gS)<;>intro hc<;>simp only [go_sem,hc,h03,Lb,Nj,hw3,h0,h1,Fv hx4,Fv hx,FN])
          all_goals first
            | (have h5 : JX s.key 0 s.key = false := by rw [hF2, JX, hF3, Au, hc]; rfl
               have h6:(J0 s).all (λy=>(Fb l y).2)=true := by rw [hnm,hF];rfl
               grind [MD])
            | (rw [Au,hc];rfl)
        · intro hF3 hlt3
          rw [ht] at hlt3
          simp only [go_sem,ht,hlt3,dF,hw]
          rw [e1,e2,JX,hF3];rfl
      · intro hF2 hlt2
        have h5:JX s.key 0 s.key=true := by simp only [AO] at hF2;rw [hF2];rfl
        have h6:(J0 s).all (λy=>(Fb l y).2)=true := by rw [hnm,hF];rfl
        simp only [go_sem,hlt2,dF]
        repeat' (first|((first|refine pK (Qv _ _) ?_|refine pK (au _ (aa hl _)) ?_);simp only [go_sem])|(first|apply cS|apply gS)<;>intro hc<;>simp only [go_sem,hc])
        all_goals grind [MD]
def AHG(l:List Fld)(p:List Ek)(hl:yb l)(hb:FR (F9 p)<=1073741824):FQ AA 76 [.sl none (GN l),.sl none (F9 p)] (.int .i64 (QB l p)) := by
  have hn := Mv hb
  refine pC AWZ rfl ?_
  simp only [f76,go_sem]
  repeat' (first|(refine pK (Abt _ hb) ?_;simp only [go_sem])|(first|apply cS|apply gS)<;>intro hc<;>simp only [go_sem,hc])
  all_goals first
    | rfl
    | (simp only [QB];rfl)
    | grind [QB]
    | (simp only [QB];grind)
    | (simp [QB, *];done)
    | (simp_all [QB];done)
    | skip
  refine Fa p (λr=>Mn l r) (λk=>[(0,.sl none (GN l)),(1,.sl none (F9 p)),(6,.int .i64 k)]) FO rfl ?_ ?_
  · intro k y ys hd hx hF h0 h1 hw
    have hby:FR y.c<=1073741824 := by have := KW hb (AB hx);simpa only [AV.bulk] using this
    simp only [go_sem,h0,h1,Fg hx]
    repeat' (first|((first|refine pK (ATT _ _ hl (Hu hby)) ?_|refine pK (ATS _ _ hl (Ky hby)) ?_);simp only [go_sem,h0,h1,hw,Fg hx])|(first|apply cS|apply gS)<;>intro hc<;>simp only [go_sem,hc,h0,h1,hw,Fg hx])
    all_goals first
      | rfl
      | (simp only [QB,Mn];rfl)
      | grind [QB,Mn]
      | (simp only [QB,Mn];grind)
      | (simp [QB,Mn, *];done)
      | (simp_all [QB,Mn];done)
      | skip
  · intro hF hlt
    simp only [go_sem,hlt,dF]
    refine Fa p (λr=>K0 l p (p.length - r.length) r) (λk=>[(0,.sl none (GN l)),(1,.sl none (F9 p)),(9,.int .i64 k)]) FO rfl ?_ ?_
    · intro k y ys hd hx hF2 h0 h1 hw
      have hk := Fl hd
      have e1:p.length - (ys.length+1)=k := by omega
      have e2:p.length - ys.length=k+1 := by omega
      have hby:FR y.c<=1073741824 := by have := KW hb (AB hx);simpa only [AV.bulk] using this
      have hy := Uf (MA (Ky hby))
      have ht:(p.take k).length=k := Jw FO
      simp only [AD,e1,AO] at hF2
      simp only [go_sem,h0,h1,Fg hx,e1,e2]
      refine Fa (p.take k) (λr=>r.any (λz=>LS l z.step y.step)) (λi=>[(0,.sl none (GN l)),(1,.sl none (F9 p)),(9,.int .i64 k),(10,.int .i64 i)]) FO rfl ?_ ?_
      · intro i z zs hd3 hx3 hF3 h03 Lb hw3
        rw [ht] at Lb
        have hx4 := JI hx3
        have Nj:(i:Int)<(p.length:Int) := by omega
        have hbz:FR z.c<=1073741824 := by have := KW hb (AB hx4);simpa only [AV.bulk] using this
        have hz := Uf (MA (Ky hbz))
        simp only [go_sem,h03,Lb,Nj,h0,h1,Fg hx4,Fg hx,FN]
        repeat' (first|(refine pK (ATY _ _ _ hz hy) ?_;simp only [go_sem,h03,Lb,Nj,hw3,h0,h1,Fg hx4,Fg hx,FN])|(first|apply cS|apply gS)<;>intro hc<;>simp only [go_sem,hc,h03,Lb,Nj,hw3,h0,h1,Fg hx4,Fg hx,FN])
        all_goals first
          | (have hcl : LS l z.step y.step = true := by grind [LS]
             have h5:K0 l p 0 p=false := by rw [hF2,K0,hF3,Au,hcl];rfl
             grind [QB,Mn])
          | grind [LS]
      · intro hF3 hlt3
        rw [ht] at hlt3
        simp only [go_sem,ht,hlt3,dF,hw]
        rw [e1,e2,K0,hF3];rfl
    · intro hF2 hlt2
      simp only [go_sem,hlt2,dF]
      all_goals first
        | rfl
        | (simp only [QB,K0,Mn];rfl)
        | grind [QB,K0,Mn]
        | (simp only [QB,K0,Mn];grind)
        | (simp [QB,K0,Mn, *];done)
        | (simp_all [QB,K0,Mn];done)
        | skip
def ATK(l:List Int)(n:Int)(hl:l.length<=1073741824):FQ AA 306 [.sl none (GB l),.int .i64 n] (.sl none (GB (SU l n))):=by
 refine pB AJ2 rfl ?_
 simp only [f306,go_sem]
 refine Fm l (λ(s:List Int×Bool) r=>s.1++JM n s.2 r) (λk s=>s.1.length<=2*k) (λk s=>[(0,.sl none (GB l)),(1,.int .i64 n),(5,.sl (some 1) (GB s.1)),(6,.bool s.2),(7,.int .i64 k)]) (λk o=>[]) ([],false) FO sm rfl rfl ?_ ?_
 ·intro k s y ys hd hx hI hF h0 h1 hw
  have hk2:=Fl hd
  have g1:(s.1.length+1)*8<=140737488355328:=FO
  have g2:s.1.length<=9223372036854775806:=FO
  have g3:(s.1.length+1+1)*8<=140737488355328:=FO
  have g4:s.1.length+1<=9223372036854775806:=FO
  have g5:s.1.length<=9223372036854775805:=FO
  simp only [go_sem,h0,h1,GI hx]
  repeat' (first|(first|apply cS|apply gS)<;>intro hc<;>simp only [go_sem,hc,h0,h1,hw,GI hx,AF,List.length_singleton,g1,g2,g3,g4,g5])
  all_goals first
   | exact ⟨(s.1++[n,y],true),by grind [JM],by simp;omega,rfl,rfl⟩
   | exact ⟨(s.1++[n],true),by grind [JM],by simp;omega,rfl,rfl⟩
   | exact ⟨(s.1++[y],s.2),by grind [JM],by simp;omega,rfl,rfl⟩
   | exact ⟨(s.1,s.2),by grind [JM],by simp;omega,rfl,rfl⟩
   | skip
 ·intro s hI hF
  have g1:(s.1.length+1)*8<=140737488355328:=FO
  have g2:s.1.length<=9223372036854775806:=FO
  simp only [go_sem,AW,dF]
  repeat' (first|(first|apply cS|apply gS)<;>intro hc<;>simp only [go_sem,hc,g1,g2])
  all_goals first
   | rfl
   | (simp only [SU,JM];rfl)
   | grind [SU,JM]
   | (simp only [SU,JM];grind)
   | (simp [SU,JM, *];done)
   | (simp_all [SU,JM];done)
   | skip
def O4(t:Em)(n:Int):FQ AA 260 [.agg t.c,.int .i64 n] (.bool (HR t n)):=by
 refine pC ALN rfl ?_
 simp only [f260,go_sem]
 repeat' (first|(first|apply cS|apply gS)<;>intro hc<;>simp only [go_sem,hc])
 all_goals first
  | rfl
  | (simp only [HR];rfl)
  | grind [HR]
  | (simp only [HR];grind)
  | (simp [HR, *];done)
  | (simp_all [HR];done)
  | skip
def VG{t:Em}{n:Int}(h:HR t n=true):0<=n/\n<(t.ports.length:Int) /\ ∃ p,t.ports[n.toNat]? =some p/\MZ t n=p.edge/\(KI t.ports)[n.toNat]? =some (.agg p.c):=by
 simp only [HR,AQ,decide_eq_true_eq] at h
 have hg:=AL (l:=t.ports) (i:=n.toNat) FO
 exact ⟨h.1,h.2,_,hg,by simp [MZ,hg],GV hg⟩
def AFw(t:Em)(n:Int):FQ AA 258 [.agg t.c,.int .i64 n] (.bool (J5 t n)):=by
 refine pC ALU rfl ?_
 cases hp:HR t n with
 | false =>
  simp only [f258,go_sem]
  repeat' (first|(refine pK (O4 _ _) ?_;simp only [go_sem,hp])|(first|apply cS|apply gS)<;>intro hc<;>simp only [go_sem,hc,hp])
  all_goals first
   | rfl
   | (simp only [J5];rfl)
   | grind [J5]
   | (simp only [J5];grind)
   | (simp [J5, *];done)
   | (simp_all [J5];done)
   | skip
 | true =>
  obtain ⟨h1,h2,p,h3,h4,h5⟩:=VG hp
  simp only [f258,go_sem]
  repeat' (first|(refine pK (O4 _ _) ?_;simp only [go_sem,hp,h1,h2,h5])|(first|apply cS|apply gS)<;>intro hc<;>simp only [go_sem,hc,hp,h1,h2,h5])
  all_goals first
   | rfl
   | (simp only [J5];rfl)
   | grind [J5]
   | (simp only [J5];grind)
   | (simp [J5, *];done)
   | (simp_all [J5];done)
   | skip
def AFt(t:Em)(n:Int):FQ AA 201 [.agg t.c,.int .i64 n] (.bool (KS t n)):=by
 refine pC ANA rfl ?_
 cases hp:HR t n with
 | false =>
  simp only [f201,go_sem]
  repeat' (first|(refine pK (O4 _ _) ?_;simp only [go_sem,hp])|(first|apply cS|apply gS)<;>intro hc<;>simp only [go_sem,hc,hp])
  all_goals first
   | rfl
   | (simp only [KS];rfl)
   | grind [KS]
   | (simp only [KS];grind)
   | (simp [KS, *];done)
   | (simp_all [KS];done)
   | skip
 | true =>
  obtain ⟨h1,h2,p,h3,h4,h5⟩:=VG hp
  simp only [f201,go_sem]
  repeat' (first|(refine pK (O4 _ _) ?_;simp only [go_sem,hp,h1,h2,h5])|(first|apply cS|apply gS)<;>intro hc<;>simp only [go_sem,hc,hp,h1,h2,h5])
  all_goals first
   | rfl
   | (simp only [KS];rfl)
   | grind [KS]
   | (simp only [KS];grind)
   | (simp [KS, *];done)
   | (simp_all [KS];done)
   | skip
def AHE(l:List ByteArray)(s:ByteArray):FQ AA 261 [.sl none (HD l),.str s] (.bool (tQ l s)):=by
 refine FQ.fit ABd.c λhf=>?_
 have hl:=fits hf
 rw [Lw] at hl
 refine pC ABd rfl ?_
 simp only [f261,go_sem]
 refine Fa l (λr=>r.any (λy=>decide (y=s))) (λk=>[(0,.sl none (HD l)),(1,.str s),(5,.int .i64 k)]) hl rfl ?_ ?_
 ·intro k y ys hd hx hF h0 h1 hw
  simp only [go_sem,h0,h1,Fv hx,FN]
  repeat' (first|(first|apply cS|apply gS)<;>intro hc<;>simp only [go_sem,hc,h0,h1,hw,Fv hx,FN])
  all_goals first
   | (rw [tQ,hF,Au,hc];rfl)
   | (rw [Au,hc];rfl)
 ·intro hF hlt
  simp only [go_sem,hlt,dF]
  rw [tQ,hF];rfl
def ACY(x:Ei)(hb:FR x.c<=1073741824):FQ AA 259 [.agg x.c] (.sl none (GB (NT x))):=by
 have hn:=AK (RN x) hb
 refine pB ALR rfl ?_
 simp only [f259,go_sem]
 repeat' (first|(refine pK (ACX _ hb) ?_;simp only [go_sem])|(first|apply cS|apply gS)<;>intro hc<;>simp only [go_sem,hc])
 have step : ∀ (y:Ei) (ys:List Ei) (o:List Int),MR o (y::ys)=MR (if y.kind=2/\y.field=GC then SU o y.n else o) ys:=λy ys o=>by rw [MR]
 have len1 : ∀ (o:List Int) (n:Int),(SU o n).length<=o.length+1:=λo n=>zz o n
 refine Fm (Mr x) (λ(o:Option Nat×List Int) r=>MR o.2 r) (λk o=>o.2.length<=k) (λk o=>[(3,.sl o.1 (GB o.2)),(4,.sl none (F3 (Mr x))),(5,.int .i64 k)]) (λk o=>[some x.c]) (some 1,[]) FO sm rfl rfl ?_ ?_
 ·intro k o y ys hd hx hI hF h0 h1 hw
  have hk2:=Fl hd
  simp only [go_sem,h0,h1,Fc hx,FN]
  repeat' (first|(refine pK (ATK o.2 y.n (show o.2.length<=1073741824 by omega)) ?_;simp only [go_sem,h0,h1,hw,Fc hx,FN])|(first|apply cS|apply gS)<;>intro hc<;>simp only [go_sem,hc,h0,h1,hw,Fc hx,FN])
  all_goals first
   | exact ⟨(none,SU o.2 y.n),by rw [step,iP (by simp_all [GC])],by have:=len1 o.2 y.n;simp only;omega,rfl,rfl⟩
   | exact ⟨o,by rw [step,iN (by simp_all [GC])],FO,rfl,rfl⟩
   | skip
 ·intro o hI hF
  simp only [go_sem,AW,dF]
  rw [NT,hF,MR]
def ATU(s:En)(t:Em)(hl:yb s.fields)(hb:FR t.c<=1073741824):FQ AA 198 [.agg s.c,.agg t.c] (.int .i64 (Mc s t)) := by
  have hbp := Hb hb
  have hn := Mv hbp
  refine pC ANK rfl ?_
  simp only [f198,go_sem,FN]
  repeat' (first|(refine pK (AHG _ _ hl hbp) ?_;simp only [go_sem,FN])|(first|apply cS|apply gS)<;>intro hc<;>simp only [go_sem,hc,FN])
  all_goals first
    | rfl
    | (simp only [Mc];rfl)
    | grind [Mc]
    | (simp only [Mc];grind)
    | (simp [Mc, *];done)
    | (simp_all [Mc];done)
    | skip
  refine Fa t.program (λr=>J8 t r) (λk=>[(3,.ptr 1 0),(6,.int .i64 k)]) FO rfl ?_ ?_
  · intro k y ys hd hx hF h0 h1 hw
    have hby:FR y.c<=1073741824 := by have := KW hbp (AB hx);simpa only [AV.bulk] using this
    have hp1 := lR y.policy
    have hp2 := AK (RN y.policy) (Hu hby)
    simp only [go_sem,h0,h1,Fg hx,FN]
    repeat' (first|(refine pK (ACY _ (Hu hby)) ?_;simp only [go_sem,h0,h1,hw,Fg hx,FN])|(first|apply cS|apply gS)<;>intro hc<;>simp only [go_sem,hc,h0,h1,hw,Fg hx,FN])
    refine Fa (NT y.policy) (λr=>r.all (HR t)) (λi=>[(3,.ptr 1 0),(6,.int .i64 k),(7,.sl none (GB (NT y.policy))),(8,.int .i64 i)]) FO rfl ?_ ?_
    · intro i z zs hd3 hx3 hF3 h03 Lb hw3
      simp only [go_sem,h03,Lb,GI hx3]
      repeat' (first|(refine pK (O4 _ _) ?_;simp only [go_sem,h03,Lb,hw3,GI hx3])|(first|apply cS|apply gS)<;>intro hc<;>simp only [go_sem,hc,h03,Lb,hw3,GI hx3])
      all_goals first
        | (have h5 : (NT y.policy).all (HR t) = false := by rw [hF3, Al]; simp_all
           grind [Mc,J8])
        | simp_all
    · intro hF3 hlt3
      have h5:(NT y.policy).all (HR t)=true := by rw [hF3];rfl
      simp only [go_sem,hlt3,dF,h0,h1,Fg hx,FN]
      repeat' (first|(refine pK (AHE _ _) ?_;simp only [go_sem,h0,h1,hw,Fg hx,FN])|(first|apply cS|apply gS)<;>intro hc<;>simp only [go_sem,hc,h0,h1,hw,Fg hx,FN])
      all_goals first
        | rfl
        | (simp only [Mc,J8,GC];rfl)
        | grind [Mc,J8,GC]
        | (simp only [Mc,J8,GC];grind)
        | (simp [Mc,J8,GC, *];done)
        | (simp_all [Mc,J8,GC];done)
        | skip
  · intro hF hlt
    simp only [go_sem,hlt,dF]
    all_goals first
      | rfl
      | (simp only [Mc,J8];rfl)
      | grind [Mc,J8]
      | (simp only [Mc,J8];grind)
      | (simp [Mc,J8, *];done)
      | (simp_all [Mc,J8];done)
      | skip
def qn(n:El)(h1:n.nodes.length<=1073741824)(h2:n.edges.length<=1073741824):FQ AA 124 [.agg n.c] (.tup [.sl none (HD (IE n)),.sl none (HD (Kf n))]):=by
 refine pB AQf rfl ?_
 simp only [f124,go_sem]
 refine Fm n.nodes (λo r=>o++r.map (·.name)) (λk o=>o.length=k) (λk o=>[(1,.ptr 0 0),(4,.sl (some 1) (HD o)),(5,.sl (some 1) (HD [])),(6,.int .i64 k)]) (λk o=>[some n.c]) [] FO rfl rfl rfl ?_ ?_
 ·intro k o y ys hd hx hI hF h0 h1 hw
  have hk2:=Fl hd
  simp only [go_sem,h0,h1,hw,Mz hx]
  repeat' (first|(first|apply cS|apply gS)<;>intro hc<;>simp only [go_sem,hc,h0,h1,hw,Mz hx])
  exact ⟨FO,FO,o++[y.name],sm,by simp [hI],rfl,rfl⟩
 ·intro o hI hF
  simp only [go_sem,AW,dF]
  have ho:o=IE n:=by simpa [IE] using hF.symm
  subst ho
  refine Fm n.edges (λo r=>o++r.map (·.name)) (λk o=>o.length=k) (λk o=>[(1,.ptr 0 0),(4,.sl (some 1) (HD (IE n))),(5,.sl (some 1) (HD o)),(7,.int .i64 k)]) (λk o=>[some n.c]) [] FO rfl rfl rfl ?_ ?_
  ·intro k o y ys hd hx hI hF h0 h1 hw
   have hk2:=Fl hd
   simp only [go_sem,h0,h1,hw,M2 hx]
   repeat' (first|(first|apply cS|apply gS)<;>intro hc<;>simp only [go_sem,hc,h0,h1,hw,M2 hx])
   exact ⟨FO,FO,o++[y.name],sm,by simp [hI],rfl,rfl⟩
  ·intro o hI hF
   simp only [go_sem,AW,dF]
   have ho:o=Kf n:=by simpa [Kf] using hF.symm
   subst ho
   rfl
def Abk(n:El)(h1:n.nodes.length<=1073741824)(h2:n.edges.length<=1073741824): ∀ x:Ej,FQ AA 200 [.agg n.c,.agg x.c] (.bool (knB (IE n) x)):=by
 refine TB _ λx ih=>?_
 refine FQ.fit ABi.c λhf=>?_
 have hl:x.args.length<=9223372036854775807:=PE (Ri (show HY [.agg x.c] from hf.2))
 refine pC ABi rfl ?_
 simp only [f200,go_sem]
 repeat' (first|((first|refine pK (qn n h1 h2) ?_|refine pK (AHE _ _) ?_);simp only [go_sem])|(first|apply cS|apply gS)<;>intro hc<;>simp only [go_sem,hc])
 all_goals first
  | rfl
  | (simp only [Jf];rfl)
  | grind [Jf]
  | (simp only [Jf];grind)
  | (simp [Jf, *];done)
  | (simp_all [Jf];done)
  | skip
 all_goals
  refine Fa x.args (λr=>aR (IE n) r) (λk=>[(2,.ptr 0 0),(3,.ptr 1 0),(7,.int .i64 k)]) hl rfl ?_ ?_
  ·intro k y ys hd hx hF h0 h1 hw
   have hm:=AB hx
   simp only [go_sem,h0,h1,IOq hx]
   repeat' (first|(refine pK (ih _ hm) ?_;simp only [go_sem,h0,h1,hw,IOq hx])|(first|apply cS|apply gS)<;>intro hc<;>simp only [go_sem,hc,h0,h1,hw,IOq hx])
   all_goals first
    | rfl
    | (simp only [Jf,M3];rfl)
    | grind [Jf,M3]
    | (simp only [Jf,M3];grind)
    | (simp [Jf,M3, *];done)
    | (simp_all [Jf,M3];done)
    | skip
  ·intro hF hlt
   simp only [go_sem,hlt,dF]
   all_goals first
    | rfl
    | (simp only [Jf,Oh];rfl)
    | grind [Jf,Oh]
    | (simp only [Jf,Oh];grind)
    | (simp [Jf,Oh, *];done)
    | (simp_all [Jf,Oh];done)
    | skip
def ATV(s:En)(t:Em)(hb:FR t.c<=1073741824):FQ AA 197 [.agg s.c,.agg t.c] (.int .i64 (It s t)) := by
  have hbp := LM hb
  have hn := Vn hbp
  have hn2 := Oc (Ib hb)
  refine pC ANO rfl ?_
  simp only [f197,go_sem,FN]
  repeat' (first|(refine pK (Ur _ (Ws hb)) ?_;simp only [go_sem,FN])|(first|apply cS|apply gS)<;>intro hc<;>simp only [go_sem,hc,FN])
  all_goals first
    | rfl
    | (simp only [It];rfl)
    | grind [It]
    | (simp only [It];grind)
    | (simp [It, *];done)
    | (simp_all [It];done)
    | skip
  refine Fa t.ports (λr=>Ij SY SG t.ports (t.ports.length - r.length) r) (λk=>[(2,.ptr 0 0),(3,.ptr 1 0),(6,.int .i64 k)]) FO rfl ?_ ?_
  · intro k y ys hd hx hF2 h0 h1 hw
    have hk2 := Fl hd
    have hmy := AB hx
    have e1:t.ports.length - (ys.length+1)=k := by omega
    have e2:t.ports.length - ys.length=k+1 := by omega
    have ht:(t.ports.take k).length=k := Jw FO
    have hby:FR y.c<=1073741824 := by have := ABC hbp hmy;simpa only [AV.bulk] using this
    simp only [AD,e1,AO] at hF2
    simp only [go_sem,h0,h1,GV hx,FN]
    repeat' (first|(refine pK (Ur _ (b5 hby)) ?_;simp only [go_sem,h0,h1,hw,GV hx,FN])|(first|apply cS|apply gS)<;>intro hc<;>simp only [go_sem,hc,h0,h1,hw,GV hx,FN])
    all_goals first
      | (have hp : SY y = false := by grind [It, SY, SG, RA, Q9, RM, RL]
         have h5:Ij SY SG t.ports 0 t.ports=false := by rw [hF2,Ij,hp];rfl
         have h6:IU SY SG t.ports=false := h5
         grind [It,SY,SG,RA,Q9,RM,RL])
      | skip
    have hp:SY y=true := by grind [It,SY,SG,RA,Q9,RM,RL]
    refine Fa (t.ports.take k) (λr=>r.any (λz=>SG z y)) (λi=>[(2,.ptr 0 0),(3,.ptr 1 0),(6,.int .i64 k),(8,.int .i64 i)]) FO rfl ?_ ?_
    · intro i z zs hd3 hx3 hF3 h03 Lb hw3
      rw [ht] at Lb
      have hx4 := JI hx3
      have Nj:(i:Int)<(t.ports.length:Int) := by omega
      have hmz := AB hx4
      simp only [go_sem,h03,Lb,Nj,h0,h1,GV hx4,GV hx,FN]
      repeat' (first|(first|apply cS|apply gS)<;>intro hc<;>simp only [go_sem,hc,h03,Lb,Nj,hw3,h0,h1,GV hx4,GV hx,FN])
      all_goals first
        | (have hq : SG z y = true := by grind [It, SY, SG, RA, Q9, RM, RL]
           have h5:Ij SY SG t.ports 0 t.ports=false := by rw [hF2,Ij,hF3,Au,hq];simp
           have h6:IU SY SG t.ports=false := h5
           grind [It,SY,SG,RA,Q9,RM,RL])
        | (have hq : SG z y = false := by grind [It, SY, SG, RA, Q9, RM, RL]
           first|(rw [Au,hq];rfl)|(rw [hq];rfl))
        | skip
    · intro hF3 hlt3
      rw [ht] at hlt3
      simp only [go_sem,ht,hlt3,dF,hw]
      rw [e1,e2,Ij,hF3,hp];rfl
  · intro hF2 hlt2
    have hok:IU SY SG t.ports=true := by simp only [AO] at hF2;exact hF2
    simp only [go_sem,hlt2,dF]
    refine Fa t.ports (λr=>Ij (RA s.network.edges.length) Q9 t.ports (t.ports.length - r.length) r) (λk=>[(2,.ptr 0 0),(3,.ptr 1 0),(9,.int .i64 k)]) FO rfl ?_ ?_
    · intro k y ys hd hx hF2 h0 h1 hw
      have hk2 := Fl hd
      have hmy := AB hx
      have e1:t.ports.length - (ys.length+1)=k := by omega
      have e2:t.ports.length - ys.length=k+1 := by omega
      have ht:(t.ports.take k).length=k := Jw FO
      simp only [AD,e1,AO] at hF2
      simp only [go_sem,h0,h1,GV hx,FN]
      repeat' (first|(first|apply cS|apply gS)<;>intro hc<;>simp only [go_sem,hc,h0,h1,hw,GV hx,FN])
      all_goals first
        | (have hp : (RA s.network.edges.length) y = false := by grind [It, SY, SG, RA, Q9, RM, RL]
           have h5:Ij (RA s.network.edges.length) Q9 t.ports 0 t.ports=false := by rw [hF2,Ij,hp];rfl
           have h6:IU (RA s.network.edges.length) Q9 t.ports=false := h5
           grind [It,SY,SG,RA,Q9,RM,RL])
        | skip
      have hp:(RA s.network.edges.length) y=true := by grind [It,SY,SG,RA,Q9,RM,RL]
      refine Fa (t.ports.take k) (λr=>r.any (λz=>Q9 z y)) (λi=>[(2,.ptr 0 0),(3,.ptr 1 0),(9,.int .i64 k),(10,.int .i64 y.edge),(11,.int .i64 i)]) FO rfl ?_ ?_
      · intro i z zs hd3 hx3 hF3 h03 Lb hw3
        rw [ht] at Lb
        have hx4 := JI hx3
        have Nj:(i:Int)<(t.ports.length:Int) := by omega
        have hmz := AB hx4
        simp only [go_sem,h03,Lb,Nj,h0,h1,GV hx4,GV hx,FN]
        repeat' (first|(first|apply cS|apply gS)<;>intro hc<;>simp only [go_sem,hc,h03,Lb,Nj,hw3,h0,h1,GV hx4,GV hx,FN])
        all_goals first
          | (have hq : Q9 z y = true := by grind [It, SY, SG, RA, Q9, RM, RL]
             have h5:Ij (RA s.network.edges.length) Q9 t.ports 0 t.ports=false := by rw [hF2,Ij,hF3,Au,hq];simp
             have h6:IU (RA s.network.edges.length) Q9 t.ports=false := h5
             grind [It,SY,SG,RA,Q9,RM,RL])
          | (have hq : Q9 z y = false := by grind [It, SY, SG, RA, Q9, RM, RL]
             first|(rw [Au,hq];rfl)|(rw [hq];rfl))
          | skip
      · intro hF3 hlt3
        rw [ht] at hlt3
        simp only [go_sem,ht,hlt3,dF,hw]
        rw [e1,e2,Ij,hF3,hp];rfl
    · intro hF2b hlt2
      have hokb:IU (RA s.network.edges.length) Q9 t.ports=true := by simp only [AO] at hF2b;exact hF2b
      simp only [go_sem,hlt2,dF]
      refine Fa t.wires (λr=>Ij (RM t) RL t.wires (t.wires.length - r.length) r) (λk=>[(3,.ptr 1 0),(12,.int .i64 k)]) FO rfl ?_ ?_
      · intro k y ys hd hx hF2 h0 h1 hw
        have hk2 := Fl hd
        have hmy := AB hx
        have e1:t.wires.length - (ys.length+1)=k := by omega
        have e2:t.wires.length - ys.length=k+1 := by omega
        have ht:(t.wires.take k).length=k := Jw FO
        simp only [AD,e1,AO] at hF2
        simp only [go_sem,h0,h1,Gr hx,FN]
        repeat' (first|(refine pK (AFw _ _) ?_;simp only [go_sem,h0,h1,hw,Gr hx,FN])|(first|apply cS|apply gS)<;>intro hc<;>simp only [go_sem,hc,h0,h1,hw,Gr hx,FN])
        all_goals first
          | (have hp : (RM t) y = false := by grind [It, SY, SG, RA, Q9, RM, RL]
             have h5:Ij (RM t) RL t.wires 0 t.wires=false := by rw [hF2,Ij,hp];rfl
             have h6:IU (RM t) RL t.wires=false := h5
             grind [It,SY,SG,RA,Q9,RM,RL])
          | skip
        have hp:(RM t) y=true := by grind [It,SY,SG,RA,Q9,RM,RL]
        refine Fa (t.wires.take k) (λr=>r.any (λz=>RL z y)) (λi=>[(3,.ptr 1 0),(12,.int .i64 k),(13,.int .i64 i)]) FO rfl ?_ ?_
        · intro i z zs hd3 hx3 hF3 h03 Lb hw3
          rw [ht] at Lb
          have hx4 := JI hx3
          have Nj:(i:Int)<(t.wires.length:Int) := by omega
          have hmz := AB hx4
          simp only [go_sem,h03,Lb,Nj,h0,h1,Gr hx4,Gr hx,FN]
          repeat' (first|(first|apply cS|apply gS)<;>intro hc<;>simp only [go_sem,hc,h03,Lb,Nj,hw3,h0,h1,Gr hx4,Gr hx,FN])
          all_goals first
            | (have hq : RL z y = true := by grind [It, SY, SG, RA, Q9, RM, RL]
               have h5:Ij (RM t) RL t.wires 0 t.wires=false := by rw [hF2,Ij,hF3,Au,hq];simp
               have h6:IU (RM t) RL t.wires=false := h5
               grind [It,SY,SG,RA,Q9,RM,RL])
            | (have hq : RL z y = false := by grind [It, SY, SG, RA, Q9, RM, RL]
               first|(rw [Au,hq];rfl)|(rw [hq];rfl))
            | skip
        · intro hF3 hlt3
          rw [ht] at hlt3
          simp only [go_sem,ht,hlt3,dF,hw]
          rw [e1,e2,Ij,hF3,hp];rfl
      · intro hF2c hlt2
        have hokc:IU (RM t) RL t.wires=true := by simp only [AO] at hF2c;exact hF2c
        simp only [go_sem,hlt2,dF]
        all_goals first
          | rfl
          | (simp only [It];rfl)
          | grind [It]
          | (simp only [It];grind)
          | (simp [It, *];done)
          | (simp_all [It];done)
          | skip
def ATX(s:En)(t:Em)(hl:yb s.fields)(hs:FR s.c<=1073741824)(hb:FR t.c<=1073741824):FQ AA 130 [.agg s.c,.agg t.c] (.int .i64 (Jh s t)) := by
  have hsn := NF hs
  have g1 := fZ (NG hsn)
  have g2 := Vu (NH hsn)
  have hbr := TA hb
  have hn := sq hbr
  have hn2 := ma (Ry hb)
  refine pC AQM rfl ?_
  simp only [f130,go_sem]
  repeat' (first|((first|refine pK (ATV _ _ hb) ?_|refine pK (ATU _ _ hl hb) ?_);simp only [go_sem])|(first|apply cS|apply gS)<;>intro hc<;>simp only [go_sem,hc])
  all_goals first
    | rfl
    | (simp only [Jh];rfl)
    | grind [Jh]
    | (simp only [Jh];grind)
    | (simp [Jh, *];done)
    | (simp_all [Jh];done)
    | skip
  refine Fa t.routes (λr=>Jl s r) (λk=>[(2,.ptr 0 0),(3,.ptr 1 0),(6,.int .i64 k)]) FO rfl ?_ ?_
  · intro k y ys hd hx hF h0 h1 hw
    have hby:FR y.c<=1073741824 := by have := sr hbr (AB hx);simpa only [AV.bulk] using this
    simp only [go_sem,h0,h1,KX hx]
    repeat' (first|((first|refine pK (ACj _ _ hl (YB hby)) ?_|refine pK (Abr _ (YC hby)) ?_|refine pK (Abk _ g1 g2 _) ?_);simp only [go_sem,h0,h1,hw,KX hx])|(first|apply cS|apply gS)<;>intro hc<;>simp only [go_sem,hc,h0,h1,hw,KX hx])
    all_goals first
      | rfl
      | (simp only [Jh,Jl,lL];rfl)
      | grind [Jh,Jl,lL]
      | (simp only [Jh,Jl,lL];grind)
      | (simp [Jh,Jl,lL, *];done)
      | (simp_all [Jh,Jl,lL];done)
      | skip
  · intro hF hlt
    simp only [go_sem,hlt,dF]
    refine Fa t.demands (λr=>Ij (lS t) kY t.demands (t.demands.length - r.length) r) (λk=>[(3,.ptr 1 0),(7,.int .i64 k)]) FO rfl ?_ ?_
    · intro k y ys hd hx hF2 h0 h1 hw
      have hk2 := Fl hd
      have hmy := AB hx
      have e1:t.demands.length - (ys.length+1)=k := by omega
      have e2:t.demands.length - ys.length=k+1 := by omega
      have ht:(t.demands.take k).length=k := Jw FO
      simp only [AD,e1,AO] at hF2
      simp only [go_sem,h0,h1,In hx,FN]
      repeat' (first|(refine pK (AFt _ _) ?_;simp only [go_sem,h0,h1,hw,In hx,FN])|(first|apply cS|apply gS)<;>intro hc<;>simp only [go_sem,hc,h0,h1,hw,In hx,FN])
      all_goals first
        | (have hp : (lS t) y = false := by grind [Jh, lS, kY, Jl]
           have h5:Ij (lS t) kY t.demands 0 t.demands=false := by rw [hF2,Ij,hp];rfl
           have h6:IU (lS t) kY t.demands=false := h5
           grind [Jh,lS,kY,Jl])
        | skip
      have hp:(lS t) y=true := by grind [Jh,lS,kY,Jl]
      refine Fa (t.demands.take k) (λr=>r.any (λz=>kY z y)) (λi=>[(3,.ptr 1 0),(7,.int .i64 k),(8,.ptr 2 0),(9,.int .i64 i)]) FO rfl ?_ ?_
      · intro i z zs hd3 hx3 hF3 h03 Lb hw3
        rw [ht] at Lb
        have hx4 := JI hx3
        have Nj:(i:Int)<(t.demands.length:Int) := by omega
        have hmz := AB hx4
        simp only [go_sem,h03,Lb,Nj,h0,h1,In hx4,In hx,FN]
        repeat' (first|(first|apply cS|apply gS)<;>intro hc<;>simp only [go_sem,hc,h03,Lb,Nj,hw3,h0,h1,In hx4,In hx,FN])
        all_goals first
          | (have hq : kY z y = true := by grind [Jh, lS, kY, Jl]
             have h5:Ij (lS t) kY t.demands 0 t.demands=false := by rw [hF2,Ij,hF3,Au,hq];simp
             have h6:IU (lS t) kY t.demands=false := h5
             grind [Jh,lS,kY,Jl])
          | (have hq : kY z y = false := by grind [Jh, lS, kY, Jl]
             first|(rw [Au,hq];rfl)|(rw [hq];rfl))
          | skip
      · intro hF3 hlt3
        rw [ht] at hlt3
        simp only [go_sem,ht,hlt3,dF,hw]
        rw [e1,e2,Ij,hF3,hp];rfl
    · intro hF2c hlt2
      have hokc:IU (lS t) kY t.demands=true := by simp only [AO] at hF2c;exact hF2c
      simp only [go_sem,hlt2,dF]
      all_goals first
        | rfl
        | (simp only [Jh,Jl];rfl)
        | grind [Jh,Jl]
        | (simp only [Jh,Jl];grind)
        | (simp [Jh,Jl, *];done)
        | (simp_all [Jh,Jl];done)
        | skip
def qk(l:List ByteArray)(hn:l.length<=1073741824)(hl : ∀ y∈l,y.size<=1073741824):FQ AA 125 [.sl none (HD l)] (.bool (IU dp cU l)) := by
  refine pC AQc rfl ?_
  simp only [f125,go_sem]
  refine Fa l (λr=>Ij dp cU l (l.length - r.length) r) (λk=>[(0,.sl none (HD l)),(3,.int .i64 k)]) FO rfl ?_ ?_
  · intro k y ys hd hx hF2 h0 h1 hw
    have hk2 := Fl hd
    have hmy := AB hx
    have e1:l.length - (ys.length+1)=k := by omega
    have e2:l.length - ys.length=k+1 := by omega
    have ht:(l.take k).length=k := Jw FO
    simp only [AD,e1,AO] at hF2
    simp only [go_sem,h0,h1,Fv hx,FN]
    repeat' (first|(refine pK (Ur _ (hl y hmy)) ?_;simp only [go_sem,h0,h1,hw,Fv hx,FN])|(first|apply cS|apply gS)<;>intro hc<;>simp only [go_sem,hc,h0,h1,hw,Fv hx,FN])
    all_goals first
      | (have hp : dp y = false := by grind [dp, cU]
         have h5:Ij dp cU l 0 l=false := by rw [hF2,Ij,hp];rfl
         have h6:IU dp cU l=false := h5
         grind [dp,cU])
      | skip
    have hp:dp y=true := by grind [dp,cU]
    refine Fa (l.take k) (λr=>r.any (λz=>cU z y)) (λi=>[(0,.sl none (HD l)),(3,.int .i64 k),(5,.int .i64 i)]) FO rfl ?_ ?_
    · intro i z zs hd3 hx3 hF3 h03 Lb hw3
      rw [ht] at Lb
      have hx4 := JI hx3
      have Nj:(i:Int)<(l.length:Int) := by omega
      have hmz := AB hx4
      simp only [go_sem,h03,Lb,Nj,h0,h1,Fv hx4,Fv hx,FN]
      repeat' (first|(first|apply cS|apply gS)<;>intro hc<;>simp only [go_sem,hc,h03,Lb,Nj,hw3,h0,h1,Fv hx4,Fv hx,FN])
      all_goals first
        | (have hq : cU z y = true := by grind [dp, cU]
           have h5:Ij dp cU l 0 l=false := by rw [hF2,Ij,hF3,Au,hq];simp
           have h6:IU dp cU l=false := h5
           grind [dp,cU])
        | (have hq : cU z y = false := by grind [dp, cU]
           first|(rw [Au,hq];rfl)|(rw [hq];rfl))
        | skip
    · intro hF3 hlt3
      rw [ht] at hlt3
      simp only [go_sem,ht,hlt3,dF,hw]
      rw [e1,e2,Ij,hF3,hp];rfl
  · intro hF2c hlt2
    have hokc:IU dp cU l=true := by simp only [AO] at hF2c;exact hF2c
    simp only [go_sem,hlt2,dF]
    all_goals first
      | rfl
      | (simp only [hokc];rfl)
      | grind []
      | (simp only [hokc];grind)
      | (simp [hokc, *];done)
      | (simp_all [hokc];done)
      | skip
def iY(n:El)(k:Int):FQ AA 126 [.agg n.c,.int .i64 k] (.bool (Ii n k)):=by
 refine pC AQZ rfl ?_
 simp only [f126,go_sem]
 repeat' (first|(first|apply cS|apply gS)<;>intro hc<;>simp only [go_sem,hc])
 all_goals first
  | rfl
  | (simp only [Ii];rfl)
  | grind [Ii]
  | (simp only [Ii];grind)
  | (simp [Ii, *];done)
  | (simp_all [Ii];done)
  | skip
def AF0(n:El)(hb:FR n.c<=1073741824):FQ AA 71 [.agg n.c] (.int .i64 (JC n)) := by
  have b1 := NG hb
  have b2 := NH hb
  have g1 := fZ b1
  have g2 := Vu b2
  have g3 := ABG (TD hb)
  have n1:(IE n).length<=1073741824 := by simpa [IE] using g1
  have n2:(Kf n).length<=1073741824 := by simpa [Kf] using g2
  have n3 : ∀ y∈IE n,y.size<=1073741824 := by
    intro y hy
    obtain ⟨x,hx,rfl⟩ := AP.1 hy
    have := ABE b1 hx
    exact b8 (by simpa only [AV.bulk] using this)
  have n4 : ∀ y∈Kf n,y.size<=1073741824 := by
    intro y hy
    obtain ⟨x,hx,rfl⟩ := AP.1 hy
    have := ABI b2 hx
    exact cI (by simpa only [AV.bulk] using this)
  refine pC AWu rfl ?_
  simp only [f71,go_sem]
  repeat' (first|((first|refine pK (qn n g1 g2) ?_|refine pK (qk _ n1 n3) ?_|refine pK (qk _ n2 n4) ?_);simp only [go_sem])|(first|apply cS|apply gS)<;>intro hc<;>simp only [go_sem,hc])
  all_goals first
    | rfl
    | (simp only [JC];rfl)
    | grind [JC]
    | (simp only [JC];grind)
    | (simp [JC, *];done)
    | (simp_all [JC];done)
    | skip
  refine Fa n.nodes (λr=>r.all (TU n)) (λk=>[(1,.ptr 0 0),(7,.int .i64 k)]) FO rfl ?_ ?_
  · intro k y ys hd hx hF h0 h1 hw
    simp only [go_sem,h0,h1,Mz hx]
    repeat' (first|(first|apply cS|apply gS)<;>intro hc<;>simp only [go_sem,hc,h0,h1,hw,Mz hx])
    all_goals first
      | (have hp : TU n y = false := by grind [TU]
         have h5:n.nodes.all (TU n)=false := by rw [hF,Al,hp];rfl
         grind [JC])
      | (have hp : TU n y = true := by grind [TU]
         first|(rw [Al,hp];rfl)|(rw [hp];rfl))
      | skip
  · intro hF hlt
    have k1:n.nodes.all (TU n)=true := by rw [hF];rfl
    simp only [go_sem,hlt,dF]
    refine Fa n.links (λr=>r.all (TW n)) (λk=>[(1,.ptr 0 0),(9,.int .i64 k)]) FO rfl ?_ ?_
    · intro k y ys hd hx hF h0 h1 hw
      simp only [go_sem,h0,h1,Sm hx]
      repeat' (first|(refine pK (iY _ _) ?_;simp only [go_sem,h0,h1,hw,Sm hx])|(first|apply cS|apply gS)<;>intro hc<;>simp only [go_sem,hc,h0,h1,hw,Sm hx])
      all_goals first
        | (have hp : TW n y = false := by grind [TW]
           have h5:n.links.all (TW n)=false := by rw [hF,Al,hp];rfl
           grind [JC])
        | (have hp : TW n y = true := by grind [TW]
           first|(rw [Al,hp];rfl)|(rw [hp];rfl))
        | skip
    · intro hF2 hlt2
      have k2:n.links.all (TW n)=true := by rw [hF2];rfl
      simp only [go_sem,hlt2,dF]
      refine Fa n.edges (λr=>r.all (λx=>Ii n x.node)) (λk=>[(1,.ptr 0 0),(11,.int .i64 k)]) FO rfl ?_ ?_
      · intro k y ys hd hx hF h0 h1 hw
        simp only [go_sem,h0,h1,M2 hx]
        repeat' (first|(refine pK (iY _ _) ?_;simp only [go_sem,h0,h1,hw,M2 hx])|(first|apply cS|apply gS)<;>intro hc<;>simp only [go_sem,hc,h0,h1,hw,M2 hx])
        all_goals first
          | (have hp : Ii n y.node = false := by grind
             have h5:n.edges.all (λx=>Ii n x.node)=false := by rw [hF,Al,hp];rfl
             grind [JC])
          | (have hp : Ii n y.node = true := by grind
             first|(rw [Al,hp];rfl)|(rw [hp];rfl))
          | skip
      · intro hF3 hlt3
        have k3:n.edges.all (λx=>Ii n x.node)=true := by rw [hF3];rfl
        simp only [go_sem,hlt3,dF]
        all_goals first
          | rfl
          | (simp only [JC];rfl)
          | grind [JC]
          | (simp only [JC];grind)
          | (simp [JC, *];done)
          | (simp_all [JC];done)
          | skip
def ATP(n:El)(a b c:Int):FQ AA 68 [.agg n.c,.int .i64 a,.int .i64 b,.int .i64 c] (.bool (nL n a b c)):=by
 refine pC AW3 rfl ?_
 simp only [f68,go_sem]
 repeat' (first|(first|apply cS|apply gS)<;>intro hc<;>simp only [go_sem,hc])
 all_goals first
  | rfl
  | (simp only [nL];rfl)
  | grind [nL]
  | (simp only [nL];grind)
  | (simp [nL, *];done)
  | (simp_all [nL];done)
  | skip
def AFs(f:Fld):FQ AA 128 [.agg f.c] (.bool (SZ f)) := by
  refine pC AQT rfl ?_
  simp only [f128,go_sem]
  repeat' (first|(first|apply cS|apply gS)<;>intro hc<;>simp only [go_sem,hc])
  all_goals first
    | grind [SZ]
    | (simp only [decide_eq_true_eq] at *
       refine ⟨dc, ?_⟩
       rw [Int.tmod_eq_emod_of_nonneg FO,OA FO FO]
       grind [SZ])
def ACi(a b:Fld):FQ AA 129 [.agg a.c,.agg b.c] (.bool (Kx a b)):=by
 refine pC AQQ rfl ?_
 simp only [f129,go_sem]
 repeat' (first|(first|apply cS|apply gS)<;>intro hc<;>simp only [go_sem,hc])
 all_goals first
  | rfl
  | (simp only [Kx,i64];rfl)
  | grind [Kx,i64]
  | (simp only [Kx,i64];grind)
  | (simp [Kx,i64, *];done)
  | (simp_all [Kx,i64];done)
  | skip
def Abu(l:List Fld)(hb:FR (GN l)<=1073741824):FQ AA 72 [.sl none (GN l)] (.int .i64 (O1 l)) := by
  have hn := qH hb
  refine pC AWp rfl ?_
  simp only [f72,go_sem]
  repeat' (first|(first|apply cS|apply gS)<;>intro hc<;>simp only [go_sem,hc])
  all_goals first
    | rfl
    | (simp only [O1];rfl)
    | grind [O1]
    | (simp only [O1];grind)
    | (simp [O1, *];done)
    | (simp_all [O1];done)
    | skip
  refine Fa l (λr=>IZ l (l.length - r.length) r) (λk=>[(0,.sl none (GN l)),(3,.int .i64 k)]) FO rfl ?_ ?_
  · intro k y ys hd hx hF2 h0 h1 hw
    have hk2 := Fl hd
    have e1:l.length - (ys.length+1)=k := by omega
    have e2:l.length - ys.length=k+1 := by omega
    have ht:(l.take k).length=k := Jw FO
    have hby:FR y.c<=1073741824 := by have := AFI hb (AB hx);simpa only [AV.bulk] using this
    simp only [AD,e1,AO] at hF2
    simp only [go_sem,h0,h1,Gv hx,FN]
    repeat' (first|(refine pK (Ur _ (kP hby)) ?_;simp only [go_sem,h0,h1,hw,Gv hx,FN])|(first|apply cS|apply gS)<;>intro hc<;>simp only [go_sem,hc,h0,h1,hw,Gv hx,FN])
    all_goals first
      | rfl
      | (simp only [O1,IZ,GC];rfl)
      | grind [O1,IZ,GC]
      | (simp only [O1,IZ,GC];grind)
      | (simp [O1,IZ,GC, *];done)
      | (simp_all [O1,IZ,GC];done)
      | skip
    refine Fa (l.take k) (λr=>r.any (λz=>decide (z.name=y.name))) (λi=>[(0,.sl none (GN l)),(3,.int .i64 k),(5,.int .i64 i)]) FO rfl ?_ ?_
    · intro i z zs hd3 hx3 hF3 h03 Lb hw3
      rw [ht] at Lb
      have hx4 := JI hx3
      have Nj:(i:Int)<(l.length:Int) := by omega
      simp only [go_sem,h03,Lb,Nj,h0,h1,Gv hx4,Gv hx,FN]
      repeat' (first|(first|apply cS|apply gS)<;>intro hc<;>simp only [go_sem,hc,h03,Lb,Nj,hw3,h0,h1,Gv hx4,Gv hx,FN])
      all_goals first
        | (have h5 : (l.take k).any (fun z => decide (z.name = y.name)) = true := by rw [hF3, Au, hc]; rfl
           grind [O1,IZ,GC])
        | (first|(rw [Au,hc];rfl)|(rw [hc];rfl))
        | skip
    · intro hF3 hlt3
      rw [ht] at hlt3
      have k1:(l.take k).any (λz=>decide (z.name=y.name))=false := by rw [hF3];rfl
      simp only [go_sem,ht,hlt3,dF,h0,h1,Gv hx]
      repeat' (first|(refine pK (AFs _) ?_;simp only [go_sem,h0,h1,hw,Gv hx])|(first|apply cS|apply gS)<;>intro hc<;>simp only [go_sem,hc,h0,h1,hw,Gv hx])
      all_goals first
        | rfl
        | (simp only [O1,IZ,GC];rfl)
        | grind [O1,IZ,GC]
        | (simp only [O1,IZ,GC];grind)
        | (simp [O1,IZ,GC, *];done)
        | (simp_all [O1,IZ,GC];done)
        | skip
      refine Fa (l.take k) (λr=>r.any (λz=>Kx z y)) (λi=>[(0,.sl none (GN l)),(3,.int .i64 k),(7,.int .i64 i)]) FO rfl ?_ ?_
      · intro i z zs hd4 hx5 hF4 h04 h15 hw4
        rw [ht] at h15
        have hx6 := JI hx5
        have Nj:(i:Int)<(l.length:Int) := by omega
        simp only [go_sem,h04,h15,Nj,h0,h1,Gv hx6,Gv hx]
        repeat' (first|(refine pK (ACi _ _) ?_;simp only [go_sem,h04,h15,Nj,hw4,h0,h1,Gv hx6,Gv hx])|(first|apply cS|apply gS)<;>intro hc<;>simp only [go_sem,hc,h04,h15,Nj,hw4,h0,h1,Gv hx6,Gv hx])
        all_goals first
          | (have h5 : (l.take k).any (fun z => Kx z y) = true := by rw [hF4, Au, hc]; rfl
             grind [O1,IZ,GC])
          | (first|(rw [Au,hc];rfl)|(rw [hc];rfl))
          | skip
      · intro hF4 hlt4
        rw [ht] at hlt4
        have k2:(l.take k).any (λz=>Kx z y)=false := by rw [hF4];rfl
        simp only [go_sem,ht,hlt4,dF,hw]
        rw [e1,e2]
        grind [IZ,GC]
  · intro hF2 hlt2
    simp only [go_sem,hlt2,dF]
    all_goals first
      | rfl
      | (simp only [O1,IZ];rfl)
      | grind [O1,IZ]
      | (simp only [O1,IZ];grind)
      | (simp [O1,IZ, *];done)
      | (simp_all [O1,IZ];done)
      | skip
def Head.l(h:Eo):List Int:=[h.h0,h.h1,h.h2,h.h3,h.h4,h.h5,h.h6,h.h7,h.h8,h.h9]
def ADo(h:Eo):h.c=h.l.map (.int .i64):=rfl
def FX(h:Eo):Bool:=h.l.all LT
def xQ(h:Eo):FQ AA 42 [.agg h.c] (.bool (FX h)):=by
 refine pC AX0 rfl ?_
 simp only [f42,go_sem]
 refine Fa h.l (λr=>r.all LT) (λk=>[(1,.ptr 0 0),(3,.int .i64 k)]) (by simp [Head.l]) rfl ?_ ?_
 ·intro k y ys hd hx hF h0 h1 hw
  have h2:(k:Int)<10:=h1
  have h3:(k:Int)<((10:Nat):Int):=h1
  have hg:h.c[k]? =some (.int .i64 y):=by rw [ADo,List.getElem?_map,hx];rfl
  simp only [go_sem,h0,h2,h3,hg]
  repeat' (first|(first|apply cS|apply gS)<;>intro hc<;>simp only [go_sem,hc,h0,h2,h3,hg,hw])
  all_goals first
   | rfl
   | (simp only [FX,LT];rfl)
   | grind [FX,LT]
   | (simp only [FX,LT];grind)
   | (simp [FX,LT, *];done)
   | (simp_all [FX,LT];done)
   | skip
 ·intro hF hlt
  have h2 : ¬ ((h.l.length:Nat):Int)<10:=by simp [Head.l]
  simp only [go_sem,h2,dF]
  rw [FX,hF];rfl
@[go_sem] def AgE:((0:Int)<((10:Nat):Int))=True:=dc
@[go_sem] def AgD:((9:Int)<((10:Nat):Int))=True:=dc
def Ua(H:FP)(x y:Option (List AV)):(H++[x]).set H.length y=H++[y]:=sm
attribute [go_sem] Ua List.getElem?_concat_length
def zi(n:Nat)(Q:Exit->Kt)(e:Fs)(H2:FP):Prop :=
 ∃ st av,H2[n]? =some (some (G8 st av))/\((st=0/\Q .normal e (H2.set n none))\/(st = -2/\Q .ret e (H2.set n none)) \/ ∃ k:Nat,st=(k:Int)+1/\Q (.exit k) e (H2.set n none))
def SQ {P:Program} {n tag:Nat} {h:Hint} {g:Operand} {rs:Array Tmp} {assign body:Code} {Q:Exit->Kt} {e:Fs} {H:FP} {f:FuncId} {first captured:List AV}
  (hg:G7 P none e g = .fn (.func f) first captured)
  (hc:FV P f (first.map AV.borrow++[.yld H.length ⟨tag,rs,assign,body⟩]++captured.map AV.borrow) (H++[some (G8 0 (Ha n e))]) (λ_ H2=>zi H.length Q e H2)):rfK P n h none g rs assign body Q e H :=
 ⟨trivial,tag,f,first,captured,hg,hc⟩
def He(t:Em)(n:Int):Int:=if HR t n=true then MZ t n else -1
def IN(e:Int):Nat->List Port->Int
 | _,[] => -1
 | i,x::r=>if 0<=e/\x.edge=e then (i:Int) else IN e (i+1) r
def IM(t:Em)(e:Int):Int:=IN e 0 t.ports
def IT(e:Int):Nat->List Port->Int
 | _,[] => -1
 | i,x::r=>if x.edge ≠ -1/\x.edge=e then (i:Int) else IT e (i+1) r
def HI(t:Em)(e:Int):Int:=IT e 0 t.ports
def LK(p:Int)(h:Eo):Eo×Bool:=if p<0 then (Head.z,false) else ({ { h with h0:=p } with h9:=0 },true)
def Ow(e:Int)(h:Eo):Eo×Bool:=if e<0 then (Head.z,false) else ({ h with h0:=i64 (10000+e) },true)
def iV(n lo hi:Int):FQ AA 115 [.int .i64 n,.int .i64 lo,.int .i64 hi] (.bool (decide (lo<=n)&&decide (n<=hi))):=by
 refine pC AQ3 rfl ?_
 simp only [f115,go_sem]
 repeat' (first|(first|apply cS|apply gS)<;>intro hc<;>simp only [go_sem,hc])
 all_goals grind
def ATa(t:Em)(n:Int):FQ AA 55 [.agg t.c,.int .i64 n] (.int .i64 (He t n)):=by
 refine FQ.fit AG5.c λhf=>?_
 have hl:=NE (Ri hf)
 have hw:IntKind.i64.wrap ((t.ports.length:Int) - 1)=(t.ports.length:Int) - 1:=OA FO FO
 refine pC AG5 rfl ?_
 cases hp:HR t n with
 | false =>
  have hq:(decide (0<=n)&&decide (n<=(t.ports.length:Int) - 1))=false:=by unfold HR at hp;grind
  simp only [f55,go_sem]
  repeat' (first|(refine pK (iV _ _ _) ?_;simp only [go_sem,hw,hq])|(first|apply cS|apply gS)<;>intro hc<;>simp only [go_sem,hc,hw,hq])
  all_goals first
   | rfl
   | (simp only [He,hp];rfl)
   | grind [He]
   | (simp only [He,hp];grind)
   | (simp [He,hp, *];done)
   | (simp_all [He,hp];done)
   | skip
 | true =>
  obtain ⟨h1,h2,p,h3,h4,h5⟩:=VG hp
  have hq:(decide (0<=n)&&decide (n<=(t.ports.length:Int) - 1))=true:=by grind
  simp only [f55,go_sem]
  repeat' (first|(refine pK (iV _ _ _) ?_;simp only [go_sem,hw,hq,h1,h2,h5])|(first|apply cS|apply gS)<;>intro hc<;>simp only [go_sem,hc,hw,hq,h1,h2,h5])
  all_goals first
   | rfl
   | (simp only [He,hp];rfl)
   | grind [He]
   | (simp only [He,hp];grind)
   | (simp [He,hp, *];done)
   | (simp_all [He,hp];done)
   | skip
def ia(t:Em)(e:Int):FQ AA 132 [.agg t.c,.int .i64 e] (.int .i64 (IM t e)):=by
 refine FQ.fit ABo.c λhf=>?_
 have hl:=NE (Ri hf)
 refine pC ABo rfl ?_
 simp only [f132,go_sem]
 refine Fa t.ports (λr=>IN e (t.ports.length - r.length) r) (λk=>[(1,.int .i64 e),(2,.ptr 0 0),(5,.int .i64 k)]) hl rfl ?_ ?_
 ·intro k y ys hd hx hF h0 h1 hw
  have hk2:=Fl hd
  have e1:t.ports.length - (ys.length+1)=k:=FO
  have e2:t.ports.length - ys.length=k+1:=FO
  simp only [AD,e1,AO] at hF
  simp only [go_sem,h0,h1,GV hx,e1,e2]
  repeat' (first|(first|apply cS|apply gS)<;>intro hc<;>simp only [go_sem,hc,h0,h1,hw,GV hx,e1,e2])
  all_goals first
   | rfl
   | (simp only [IM,IN];rfl)
   | grind [IM,IN]
   | (simp only [IM,IN];grind)
   | (simp [IM,IN, *];done)
   | (simp_all [IM,IN];done)
   | skip
 ·intro hF hlt
  simp only [go_sem,hlt,dF]
  all_goals first
   | rfl
   | (simp only [IM,IN];rfl)
   | grind [IM,IN]
   | (simp only [IM,IN];grind)
   | (simp [IM,IN, *];done)
   | (simp_all [IM,IN];done)
   | skip
def ATZ(t:Em)(h:Eo):FQ AA 29 [.agg t.c,.agg h.c] (.tup [.agg (Ow (He t h.h0) h).1.c,.bool (Ow (He t h.h0) h).2]):=by
 refine pB AYc rfl ?_
 simp only [f29,go_sem]
 repeat' (first|(refine pK (ATa _ _) ?_;simp only [go_sem])|(first|apply cS|apply gS)<;>intro hc<;>simp only [go_sem,hc])
 all_goals first
  | rfl
  | (simp only [Ow,i64];rfl)
  | grind [Ow,i64]
  | (simp only [Ow,i64];grind)
  | (simp [Ow,i64, *];done)
  | (simp_all [Ow,i64];done)
  | skip
def ACZ(t:Em)(H:FP):FV AA 67 [.agg t.c] H (λv H'=>v = .fn (.func 118) [] [.ptr H.length 0]/\H'=H++[some t.c]):=by
 refine aC AW5 rfl ?_
 simp only [f67,go_sem]
def ny (t:Em) (hl:t.ports.length<=1073741824) (o p:Nat) (L:LoopRec) (H0:FP) (Inv:Nat->FP->Prop) (Q:FP->Prop)
  (hp : ∀ k H,Inv k H->H[p]? =some (some t.c)) (hg : ∀ k H x,Inv k H->Inv k (H++[x]))
  (round : ∀ k x H,t.ports[k]? =some x->x.edge ≠ -1->Inv k H->L8 AA o L [.int .i64 k,.int .i64 x.edge] H (λv H'=>(v = .bool true/\Inv (k+1) H')\/(v = .bool false/\Q H')))
  (skip : ∀ k x H,t.ports[k]? =some x->x.edge = -1->Inv k H->Inv (k+1) H)
  (fin : ∀ H,Inv t.ports.length H->Q H) (h0:Inv 0 H0):FV AA 118 [.yld o L,.ptr p 0] H0 (λ_ H'=>Q H'):=by
 refine aC AQu rfl ?_
 have hp0:=hp 0 H0 h0
 simp only [f118,go_sem,hp0]
 refine Ko (σ:=Nat×FP) (λs=>[(0,.yld o L),(6,.sl none (KI t.ports)),(7,.int .i64 t.ports.length),(8,.int .i64 s.1)]) (λs=>s.2) (λs=>s.1<=t.ports.length/\Inv s.1 s.2) (λs=>t.ports.length - s.1) (0,H0) ⟨BY _,h0⟩ rfl rfl ?_
 rintro ⟨k,H⟩ ⟨hk,hI⟩
 by_cases hlt:k<t.ports.length
 ·obtain ⟨x,hx⟩ : ∃ x,t.ports[k]? =some x:=⟨_,AL hlt⟩
  have h0:(0:Int)<=(k:Int):=FO
  have h1:(k:Int)<(t.ports.length:Int):=FO
  have hw:=Mk (k:=k) FO
  simp only [go_sem,h0,h1,GV hx,dT]
  repeat' (first|(first|apply cS|apply gS)<;>intro hc<;>simp only [go_sem,hc,h0,h1,hw,GV hx])
  ·refine Me.intro (round k x _ hx (by simpa using hc) (hg _ _ _ hI)) λv H' hr=>?_
   rcases hr with ⟨rfl,hi⟩|⟨rfl,hq⟩
   ·simp only [go_sem,hw,Bool.not_true]
    exact ⟨(k+1,H'),⟨FO,hi⟩,FO,rfl,rfl⟩
   ·simp only [go_sem,Ax]
    exact hq
  ·exact ⟨(k+1,H++[some x.c]),⟨FO,hg _ _ _ (skip k x H hx (by simpa using hc) hI)⟩,FO,rfl,rfl⟩
 ·have h1 : ¬ (k:Int)<(t.ports.length:Int):=FO
  have hkl:k=t.ports.length:=FO
  simp only [go_sem,h1,dF]
  exact fin H (hkl▸hI)
def ACn(t:Em)(hl:t.ports.length<=1073741824)(e:Int):FQ AA 38 [.agg t.c,.int .i64 e] (.int .i64 (HI t e)):=by
 refine pC AX9 rfl ?_
 simp only [f38,go_sem]
 refine Fr.intro (ACZ t _) λv H' hr=>?_
 obtain ⟨rfl,rfl⟩:=hr
 simp only [go_sem]
 have step : ∀ (k:Nat) (x:Port),t.ports[k]? =some x->IT e k (t.ports.drop k)=if x.edge ≠ -1/\x.edge=e then (k:Int) else IT e (k+1) (t.ports.drop (k+1)):=λk x hx=>by
  obtain ⟨hlt,rfl⟩:=AC.1 hx
  rw [BL hlt,IT]
 refine SQ (tag:=38) rfl (FV.mono (ny t hl 4 3 _ _
  (λk H => ∃ g,H=some t.c::some [.int .i64 e]::some [.int .i64 0]::some t.c::some (G8 0 (Ha 15 [(3,.ptr 1 0),(4,.ptr 2 0),(8,.fn (.func 118) [] [.ptr 3 0])]))::g/\HI t e=IT e k (t.ports.drop k))
  (λH=>(∃ g,H=some t.c::some [.int .i64 e]::some [.int .i64 0]::some t.c::some (G8 0 (Ha 15 [(3,.ptr 1 0),(4,.ptr 2 0),(8,.fn (.func 118) [] [.ptr 3 0])]))::g/\HI t e = -1)
   \/ ∃ g r,H=some t.c::some [.int .i64 e]::some [.int .i64 r]::some t.c::some (G8 (-2) (Ha 15 [(3,.ptr 1 0),(4,.ptr 2 0),(8,.fn (.func 118) [] [.ptr 3 0])]))::g/\HI t e=r)
  ?_ ?_ ?_ ?_ ?_ ?_) λv H2 hq=>?_)
 ·rintro k H ⟨g,rfl,_⟩;rfl
 ·rintro k H x ⟨g,rfl,h⟩;exact ⟨g++[x],rfl,h⟩
 ·rintro k x H hx hne ⟨g,rfl,h⟩
  refine Jv (h:=h38) (n:=15) mixed rfl ⟨kr,kr⟩ dc _ _ _ _ rfl rfl rfl ?_
  show I7 _ _ _ _ _ _ [(10,.int .i64 x.edge),(9,.int .i64 k),(0,.undef),(1,.undef),(2,.undef),(3,.ptr 1 0),(4,.ptr 2 0),(5,.undef),(6,.undef),(7,.undef),(8,.fn (.func 118) [] [.ptr 3 0]),(9,.undef),(10,.undef),(11,.undef),(12,.undef),(13,.undef),(14,.undef)] _
  simp only [go_sem]
  refine ⟨_,rfl,Tj _ _ _ (λhc=>?_) (λhc=>?_)⟩
  ·simp only [go_sem,hc]
   exact ⟨_,rfl,.inr (.inr ⟨g,(k:Int),rfl,by rw [h,step k x hx,iP ⟨hne,by simpa using hc⟩]⟩)⟩
  ·simp only [go_sem,hc]
   first
    | exact ⟨_,rfl,g,rfl,by rw [h,step k x hx,iN (λc=>by rw [c.2] at hc;simp at hc)]⟩
    | exact ⟨_,rfl,.inl ⟨g,rfl,by rw [h,step k x hx,iN (λc=>by rw [c.2] at hc;simp at hc)]⟩⟩
 ·rintro k x H hx hne ⟨g,rfl,h⟩
  exact ⟨g,rfl,by rw [h,step k x hx,iN (λc=>c.1 hne)]⟩
 ·rintro H ⟨g,rfl,h⟩
  exact .inl ⟨g,rfl,by rw [h,List.drop_length];rfl⟩
 ·exact ⟨[],rfl,rfl⟩
 ·rcases hq with ⟨g,rfl,h⟩|⟨g,r,rfl,h⟩
  ·refine ⟨0,_,rfl,.inl ⟨rfl, ?_⟩⟩
   show bA 0 _ .normal _ (some t.c::some [.int .i64 e]::some [.int .i64 0]::some t.c::none::g)
   simp only [go_sem,h]
   all_goals skip
  ·refine ⟨-2,_,rfl,.inr (.inl ⟨rfl, ?_⟩)⟩
   show bA 0 _ .ret _ (some t.c::some [.int .i64 e]::some [.int .i64 r]::some t.c::none::g)
   simp only [go_sem,h]
   all_goals skip
def qo(t:Em)(hl:t.ports.length<=1073741824)(h:Eo):FQ AA 25 [.agg t.c,.agg h.c] (.tup [.agg (LK (HI t (i64 (h.h0 - 10000))) h).1.c,.bool (LK (HI t (i64 (h.h0 - 10000))) h).2]):=by
 refine pB AYp rfl ?_
 simp only [f25,go_sem]
 repeat' (first|(refine pK (ACn _ hl _) ?_;simp only [go_sem])|(first|apply cS|apply gS)<;>intro hc<;>simp only [go_sem,hc])
 all_goals first
  | rfl
  | (simp only [LK,i64];rfl)
  | grind [LK,i64]
  | (simp only [LK,i64];grind)
  | (simp [LK,i64, *];done)
  | (simp_all [LK,i64];done)
  | skip
def mA{α:Type}{p:α->Bool}{q:α->α->Bool}{l:List α}(h:IU p q l=true): ∀ (k:Nat) (x:α),l[k]? =some x->p x=true /\ ∀ (j:Nat) (y:α),j<k->l[j]? =some y->q y x=false:=by
 have key : ∀ (n i:Nat),l.length - i=n->Ij p q l i (l.drop i)=true -> ∀ (k:Nat) (x:α),i<=k->l[k]? =some x->p x=true /\ ∀ (j:Nat) (y:α),j<k->l[j]? =some y->q y x=false:=by
  intro n
  induction n with
  | zero =>
   intro i hi _ k x hk hx
   have:=(AC.1 hx).1
   omega
  | succ n ih =>
   intro i hi ho k x hk hx
   have hlt:i<l.length:=FO
   rw [BL hlt,Ij] at ho
   simp only [AQ,BW] at ho
   obtain ⟨⟨h1,h2⟩,h3⟩:=ho
   rcases Nat.eq_or_lt_of_le hk with rfl|hk
   ·rw [AL hlt] at hx
    cases hx
    refine ⟨h1,λj y hj hy=>?_⟩
    rw [List.any_eq_false] at h2
    have hm:y∈l.take i:=AB (i:=j) (by rw [Ak,iP hj];exact hy)
    simpa using h2 y hm
   ·exact ih (i+1) FO h3 k x hk hx
 intro k x hx
 exact key l.length 0 FO (by rw [BO];exact h) k x (BY _) hx
section
variable {s:En} {t:Em} {h:Eo}
end
end Go.AI
