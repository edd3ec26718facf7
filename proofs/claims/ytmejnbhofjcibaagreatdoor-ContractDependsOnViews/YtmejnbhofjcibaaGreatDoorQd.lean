/- A part. -/
import Derived.Test.YtmejnbhofjcibaaGreatDoorLi
import Derived.Test.YtmejnbhofjcibaaGreatDoorProg
set_option linter.unusedSimpArgs false
set_option linter.unusedVariables false
set_option linter.defProp false
open Array renaming toList_inj->Cs
open Bool renaming eq_iff_iff->A'
open List renaming length_map->Ap,mem_cons->AY,mem_map->AO,mem_of_getElem?->AB,sizeOf_lt_of_mem->DE
open Nat renaming le_refl->AT,le_trans->AL,lt_of_lt_of_le->BP
open Go.Proofs.Tryz renaming prog->AA
namespace Go.AI
open Go.Proofs
def LK{a:AV}(h:Rd AA 3 a): ∃n,a = .int .i64 n/\(IntKind.i64.min<=n/\n<=IntKind.i64.max):=yc kr h
def lq{a:AV}(h:Rd AA 9 a): ∃s,a = .str s/\s.size<=reachBytes:=yb kr h
def IA{P:Program}{t0 t1:TypeId}{ps:List AV}(h:Gg P [t0,t1] ps): ∃a0 a1,ps=[a0,a1]/\Rd P t0 a0/\Rd P t1 a1:=by
 match ps,h with
 |[a0,a1],h=>exact⟨a0,a1,rfl,h.1,h.2.1⟩
def JA{P:Program}{t0 t1 t2:TypeId}{ps:List AV}(h:Gg P [t0,t1,t2] ps): ∃a0 a1 a2,ps=[a0,a1,a2]/\Rd P t0 a0/\Rd P t1 a1/\Rd P t2 a2:=by
 match ps,h with
 |[a0,a1,a2],h=>exact⟨a0,a1,a2,rfl,h.1,h.2.1,h.2.2.1⟩
def Li{P:Program}{t0 t1 t2 t3:TypeId}{ps:List AV}(h:Gg P [t0,t1,t2,t3] ps): ∃a0 a1 a2 a3,ps=[a0,a1,a2,a3]/\Rd P t0 a0/\Rd P t1 a1/\Rd P t2 a2/\Rd P t3 a3:=by
 match ps,h with
 |[a0,a1,a2,a3],h=>exact⟨a0,a1,a2,a3,rfl,h.1,h.2.1,h.2.2.1,h.2.2.2.1⟩
def OC{P:Program}{t0 t1 t2 t3 t4:TypeId}{ps:List AV}(h:Gg P [t0,t1,t2,t3,t4] ps): ∃a0 a1 a2 a3 a4,ps=[a0,a1,a2,a3,a4]/\Rd P t0 a0/\Rd P t1 a1/\Rd P t2 a2/\Rd P t3 a3/\Rd P t4 a4:=by
 match ps,h with
 |[a0,a1,a2,a3,a4],h=>exact⟨a0,a1,a2,a3,a4,rfl,h.1,h.2.1,h.2.2.1,h.2.2.2.1,h.2.2.2.2.1⟩
def SF{P:Program}{t0 t1 t2 t3 t4 t5:TypeId}{ps:List AV}(h:Gg P [t0,t1,t2,t3,t4,t5] ps): ∃a0 a1 a2 a3 a4 a5,ps=[a0,a1,a2,a3,a4,a5]/\Rd P t0 a0/\Rd P t1 a1/\Rd P t2 a2/\Rd P t3 a3/\Rd P t4 a4/\Rd P t5 a5:=by
 match ps,h with
 |[a0,a1,a2,a3,a4,a5],h=>exact⟨a0,a1,a2,a3,a4,a5,rfl,h.1,h.2.1,h.2.2.1,h.2.2.2.1,h.2.2.2.2.1,h.2.2.2.2.2.1⟩
def cF{P:Program}{t0 t1 t2 t3 t4 t5 t6 t7:TypeId}{ps:List AV}(h:Gg P [t0,t1,t2,t3,t4,t5,t6,t7] ps): ∃a0 a1 a2 a3 a4 a5 a6 a7,ps=[a0,a1,a2,a3,a4,a5,a6,a7]/\Rd P t0 a0/\Rd P t1 a1/\Rd P t2 a2/\Rd P t3 a3/\Rd P t4 a4/\Rd P t5 a5/\Rd P t6 a6/\Rd P t7 a7:=by
 match ps,h with
 |[a0,a1,a2,a3,a4,a5,a6,a7],h=>exact⟨a0,a1,a2,a3,a4,a5,a6,a7,rfl,h.1,h.2.1,h.2.2.1,h.2.2.2.1,h.2.2.2.2.1,h.2.2.2.2.2.1,h.2.2.2.2.2.2.1,h.2.2.2.2.2.2.2.1⟩
def YG{P:Program}{t0 t1 t2 t3 t4 t5 t6 t7 t8 t9:TypeId}{ps:List AV}(h:Gg P [t0,t1,t2,t3,t4,t5,t6,t7,t8,t9] ps): ∃a0 a1 a2 a3 a4 a5 a6 a7 a8 a9,ps=[a0,a1,a2,a3,a4,a5,a6,a7,a8,a9]/\Rd P t0 a0/\Rd P t1 a1/\Rd P t2 a2/\Rd P t3 a3/\Rd P t4 a4/\Rd P t5 a5/\Rd P t6 a6/\Rd P t7 a7/\Rd P t8 a8/\Rd P t9 a9:=by
 match ps,h with
 |[a0,a1,a2,a3,a4,a5,a6,a7,a8,a9],h=>exact⟨a0,a1,a2,a3,a4,a5,a6,a7,a8,a9,rfl,h.1,h.2.1,h.2.2.1,h.2.2.2.1,h.2.2.2.2.1,h.2.2.2.2.2.1,h.2.2.2.2.2.2.1,h.2.2.2.2.2.2.2.1,h.2.2.2.2.2.2.2.2.1,h.2.2.2.2.2.2.2.2.2.1⟩
@[ext] structure Head where
 h0:Int
 h1:Int
 h2:Int
 h3:Int
 h4:Int
 h5:Int
 h6:Int
 h7:Int
 h8:Int
 h9:Int
 deriving DecidableEq,Inhabited
def Head.c(x:Head):List AV:=[.int .i64 x.h0,.int .i64 x.h1,.int .i64 x.h2,.int .i64 x.h3,.int .i64 x.h4,.int .i64 x.h5,.int .i64 x.h6,.int .i64 x.h7,.int .i64 x.h8,.int .i64 x.h9]
def kf(x:Head):x.c.length=10:=rfl
def kg(x:Head):x.c.map borrow1=x.c:=rfl
def ke(x:Head):x.c.any GB=false:=by
 rfl
def cQ(x:Head):x.c.take 10=x.c:=rfl
def Head.cf_pure(x:Head):FW x.c=true:=by
 simp[Head.c,FW,AV.pure]
def kj(x:Head):FW x.c=true:=x.cf_pure
def Tx(k:Nat)(x:Head):Fo k x.c=true:=by
 simp[Head.c,Fo,AV.bnd]
def Head.c_bnd(k:Nat)(x:Head):Fo k x.c=true:=Tx k x
def ki(x:Head):x.c[0]? =some (.int .i64 x.h0):=rfl
def UL(x:Head)(v:Int):Hq x.c [.int .i64 v]=({ x with h0:=v }:Head).c:=rfl
def W1(x:Head)(v:Int):splice x.c 1 [.int .i64 v]=({ x with h1:=v }:Head).c:=rfl
def W0(x:Head)(v:Int):splice x.c 9 [.int .i64 v]=({ x with h9:=v }:Head).c:=rfl
def Head.z:Head:=⟨0,0,0,0,0,0,0,0,0,0⟩
def Head.zero:Fk AA 34=some (.agg Head.z.c):=kr
def Head.ok(_:Head):Prop:=True
def Head.rd{a:AV}(h:Rd AA 34 a): ∃x:Head,a = .agg x.c/\x.ok:=by
 obtain⟨ps,rfl,hp⟩:=GJ (ts:=[3,3,3,3,3,3,3,3,3,3]) kr h
 obtain⟨a0,a1,a2,a3,a4,a5,a6,a7,a8,a9,rfl,g0,g1,g2,g3,g4,g5,g6,g7,g8,g9⟩:=YG hp
 obtain⟨v0,rfl,k0⟩:=LK g0
 obtain⟨v1,rfl,k1⟩:=LK g1
 obtain⟨v2,rfl,k2⟩:=LK g2
 obtain⟨v3,rfl,k3⟩:=LK g3
 obtain⟨v4,rfl,k4⟩:=LK g4
 obtain⟨v5,rfl,k5⟩:=LK g5
 obtain⟨v6,rfl,k6⟩:=LK g6
 obtain⟨v7,rfl,k7⟩:=LK g7
 obtain⟨v8,rfl,k8⟩:=LK g8
 obtain⟨v9,rfl,k9⟩:=LK g9
 exact⟨⟨v0,v1,v2,v3,v4,v5,v6,v7,v8,v9⟩,rfl,trivial⟩
def Head.eq(x y:Head):KM AA 34 (.agg x.c) (.agg y.c)=some (decide (x=y)):=by
 have e:KM AA 34 (.agg x.c) (.agg y.c)=some ((x.h0==y.h0)&&((x.h1==y.h1)&&((x.h2==y.h2)&&((x.h3==y.h3)&&((x.h4==y.h4)&&((x.h5==y.h5)&&((x.h6==y.h6)&&((x.h7==y.h7)&&((x.h8==y.h8)&&((x.h9==y.h9)&&true)))))))))):=kr
 rw[e,Option.some.injEq,A']
 simp[Head.ext_iff]
def ADt(x y:Head){d:Tmp}{K:Kt}{e:Fs}{H:cj}:IC AA .neq 34 (.agg x.c) (.agg y.c) d K e H=K ((d,.bool !(decide (x=y)))::e) H:=Jw (Head.eq x y)
@[ext] structure Fld where
 name:ByteArray
 at_:Int
 width:Int
 deriving DecidableEq,Inhabited
def Fld.c(x:Fld):List AV:=[.str x.name,.int .i64 x.at_,.int .i64 x.width]
def AGf(x:Fld):1<=FU x.c:=by
 have h1:1<=(.str x.name:AV).bulk:=by simp[AV.bulk]
 exact AL h1 (Fw (AB (i:=0) rfl))
def pm(x:Fld):x.c.length=3:=rfl
def po(x:Fld):x.c.map borrow1=x.c:=rfl
def pl(x:Fld):x.c.any GB=false:=by
 rfl
def kl(x:Fld):x.c.take 3=x.c:=rfl
def Fld.cf_pure(x:Fld):FW x.c=true:=by
 simp[Fld.c,FW,AV.pure]
def pq(x:Fld):FW x.c=true:=x.cf_pure
def W3(k:Nat)(x:Fld):Fo k x.c=true:=by
 simp[Fld.c,Fo,AV.bnd]
def Fld.c_bnd(k:Nat)(x:Fld):Fo k x.c=true:=W3 k x
def ko{x:Fld}{B:Nat}(h:FU x.c<=B):x.name.size<=B:=HD (AB (i:=0) rfl) h
def pp(x:Fld):x.c[0]? =some (.str x.name)/\x.c[1]? =some (.int .i64 x.at_)/\x.c[2]? =some (.int .i64 x.width):=⟨rfl,rfl,rfl⟩
def Fld.z:Fld:=⟨.empty,0,0⟩
def Fld.zero:Fk AA 99=some (.agg Fld.z.c):=kr
def Fld.ok(_:Fld):Prop:=True
def Fld.rd{a:AV}(h:Rd AA 99 a): ∃x:Fld,a = .agg x.c/\x.ok:=by
 obtain⟨ps,rfl,hp⟩:=GJ (ts:=[9,3,3]) kr h
 obtain⟨a0,a1,a2,rfl,g0,g1,g2⟩:=JA hp
 obtain⟨v0,rfl,k0⟩:=lq g0
 obtain⟨v1,rfl,k1⟩:=LK g1
 obtain⟨v2,rfl,k2⟩:=LK g2
 exact⟨⟨v0,v1,v2⟩,rfl,trivial⟩
def Fld.eq(x y:Fld):KM AA 99 (.agg x.c) (.agg y.c)=some (decide (x=y)):=by
 have e:KM AA 99 (.agg x.c) (.agg y.c)=some ((x.name.toList==y.name.toList)&&((x.at_==y.at_)&&((x.width==y.width)&&true))):=kr
 rw[e,Option.some.injEq,A']
 simp[Fld.ext_iff,ByteArray.toList_eq,Cs,ByteArray.ext_iff]
def AGe(x y:Fld){d:Tmp}{K:Kt}{e:Fs}{H:cj}:IC AA .neq 99 (.agg x.c) (.agg y.c) d K e H=K ((d,.bool !(decide (x=y)))::e) H:=Jw (Fld.eq x y)
@[ext] structure Port where
 name:ByteArray
 edge:Int
 deriving DecidableEq,Inhabited
def Port.c(x:Port):List AV:=[.str x.name,.int .i64 x.edge]
def ADj(x:Port):1<=FU x.c:=by
 have h1:1<=(.str x.name:AV).bulk:=by simp[AV.bulk]
 exact AL h1 (Fw (AB (i:=0) rfl))
def kH(x:Port):x.c.length=2:=rfl
def kI(x:Port):x.c.map borrow1=x.c:=rfl
def kG(x:Port):x.c.any GB=false:=by
 rfl
def cI(x:Port):x.c.take 2=x.c:=rfl
def Port.cf_pure(x:Port):FW x.c=true:=by
 simp[Port.c,FW,AV.pure]
def kK(x:Port):FW x.c=true:=x.cf_pure
def Tr(k:Nat)(x:Port):Fo k x.c=true:=by
 simp[Port.c,Fo,AV.bnd]
def Port.c_bnd(k:Nat)(x:Port):Fo k x.c=true:=Tr k x
def cJ{x:Port}{B:Nat}(h:FU x.c<=B):x.name.size<=B:=HD (AB (i:=0) rfl) h
def kJ(x:Port):x.c[0]? =some (.str x.name)/\x.c[1]? =some (.int .i64 x.edge):=⟨rfl,rfl⟩
def Port.z:Port:=⟨.empty,0⟩
def Port.zero:Fk AA 104=some (.agg Port.z.c):=kr
def Port.ok(_:Port):Prop:=True
def Port.rd{a:AV}(h:Rd AA 104 a): ∃x:Port,a = .agg x.c/\x.ok:=by
 obtain⟨ps,rfl,hp⟩:=GJ (ts:=[9,3]) kr h
 obtain⟨a0,a1,rfl,g0,g1⟩:=IA hp
 obtain⟨v0,rfl,k0⟩:=lq g0
 obtain⟨v1,rfl,k1⟩:=LK g1
 exact⟨⟨v0,v1⟩,rfl,trivial⟩
def Port.eq(x y:Port):KM AA 104 (.agg x.c) (.agg y.c)=some (decide (x=y)):=by
 have e:KM AA 104 (.agg x.c) (.agg y.c)=some ((x.name.toList==y.name.toList)&&((x.edge==y.edge)&&true)):=kr
 rw[e,Option.some.injEq,A']
 simp[Port.ext_iff,ByteArray.toList_eq,Cs,ByteArray.ext_iff]
def ADi(x y:Port){d:Tmp}{K:Kt}{e:Fs}{H:cj}:IC AA .neq 104 (.agg x.c) (.agg y.c) d K e H=K ((d,.bool !(decide (x=y)))::e) H:=Jw (Port.eq x y)
@[ext] structure Wire where
 src:Int
 dst:Int
 deriving DecidableEq,Inhabited
def Wire.c(x:Wire):List AV:=[.int .i64 x.src,.int .i64 x.dst]
def ADc(x:Wire):1<=FU x.c:=by
 have h1:1<=(.int .i64 x.src:AV).bulk:=by simp[AV.bulk]
 exact AL h1 (Fw (AB (i:=0) rfl))
def jt(x:Wire):x.c.length=2:=rfl
def ju(x:Wire):x.c.map borrow1=x.c:=rfl
def js(x:Wire):x.c.any GB=false:=by
 rfl
def ba(x:Wire):x.c.take 2=x.c:=rfl
def Wire.cf_pure(x:Wire):FW x.c=true:=by
 simp[Wire.c,FW,AV.pure]
def jw(x:Wire):FW x.c=true:=x.cf_pure
def Tp(k:Nat)(x:Wire):Fo k x.c=true:=by
 simp[Wire.c,Fo,AV.bnd]
def Wire.c_bnd(k:Nat)(x:Wire):Fo k x.c=true:=Tp k x
def jv(x:Wire):x.c[0]? =some (.int .i64 x.src)/\x.c[1]? =some (.int .i64 x.dst):=⟨rfl,rfl⟩
def Wire.z:Wire:=⟨0,0⟩
def Wire.zero:Fk AA 155=some (.agg Wire.z.c):=kr
def Wire.ok(_:Wire):Prop:=True
def Wire.rd{a:AV}(h:Rd AA 155 a): ∃x:Wire,a = .agg x.c/\x.ok:=by
 obtain⟨ps,rfl,hp⟩:=GJ (ts:=[3,3]) kr h
 obtain⟨a0,a1,rfl,g0,g1⟩:=IA hp
 obtain⟨v0,rfl,k0⟩:=LK g0
 obtain⟨v1,rfl,k1⟩:=LK g1
 exact⟨⟨v0,v1⟩,rfl,trivial⟩
def Wire.eq(x y:Wire):KM AA 155 (.agg x.c) (.agg y.c)=some (decide (x=y)):=by
 have e:KM AA 155 (.agg x.c) (.agg y.c)=some ((x.src==y.src)&&((x.dst==y.dst)&&true)):=kr
 rw[e,Option.some.injEq,A']
 simp[Wire.ext_iff]
def ADb(x y:Wire){d:Tmp}{K:Kt}{e:Fs}{H:cj}:IC AA .neq 155 (.agg x.c) (.agg y.c) d K e H=K ((d,.bool !(decide (x=y)))::e) H:=Jw (Wire.eq x y)
structure Pred where
 kind:Int
 field:ByteArray
 n:Int
 m:Int
 args:List Pred
instance:Inhabited Pred:=⟨⟨default,default,default,default,default⟩⟩
mutual
def Pred.e:Pred->AV
 |⟨v0,v1,v2,v3,v4⟩ => .agg [.int .i64 v0,.str v1,.int .i64 v2,.int .i64 v3,.sl none (Pred.es v4)]
def Pred.es:List Pred->List AV
 |[]=>[]
 |x::l=>Pred.e x::Pred.es l
end
abbrev GH:List Pred->List AV:=Pred.es
mutual
def kB:∀x:Pred,(x.e).pure=true
 |⟨v0,v1,v2,v3,v4⟩=>by simp[Pred.e,AV.pure,FW,OD v4]
def OD:∀l:List Pred,FW (Pred.es l)=true
 |[]=>rfl
 |x::l=>by simp[Pred.es,FW,kB x,OD l]
end
mutual
def pZ(k:Nat): ∀x:Pred,(x.e).bnd k=true
 |⟨v0,v1,v2,v3,v4⟩=>by simp[Pred.e,AV.bnd,Fo,PQ k v4]
def PQ(k:Nat): ∀l:List Pred,Fo k (Pred.es l)=true
 |[]=>rfl
 |x::l=>by simp[Pred.es,Fo,pZ k x,PQ k l]
end
def Jh(l:List Pred):FW (GH l)=true:=OD l
def Kc(k:Nat)(l:List Pred):Fo k (GH l)=true:=PQ k l
def I2(p:Pred->Prop)(h:∀x:Pred,(∀y∈x.args,p y)->p x): ∀x,p x :=
 λx=>Pred.rec (motive_1:=p) (motive_2:=λl => ∀y∈l,p y) (λv0 v1 v2 v3 v4 ih=>h ⟨v0,v1,v2,v3,v4⟩ ih) (λy hy=>by cases hy) (λx l h1 h2 y hy=>by
  rcases AY.1 hy with rfl|hy
  ·exact h1
  ·exact h2 y hy) x
def Pred.cf(x:Pred)(o0:Option Nat):List AV:=[.int .i64 x.kind,.str x.field,.int .i64 x.n,.int .i64 x.m,.sl o0 (GH x.args)]
abbrev Pred.c(x:Pred):List AV:=x.cf none
def ADh(x:Pred):1<=FU x.c:=by
 have h1:1<=(.int .i64 x.kind:AV).bulk:=by simp[AV.bulk]
 exact AL h1 (Fw (AB (i:=0) rfl))
def yd(x:Pred):x.e = .agg x.c:=by cases x;rfl
def He(l:List Pred):GH l=l.map λx => .agg x.c:=by
 induction l with
 |nil=>rfl
 |cons x l ih=>show x.e::Pred.es l=_;rw[show Pred.es l=_ from ih,yd];rfl
def ND(l:List Pred):(GH l).length=l.length:=by simp[He]
def GQ{l:List Pred}{i:Nat}{x:Pred}(h:l[i]? =some x):(GH l)[i]? =some (.agg x.c):=by simp[He,h]
def NC{l:List Pred}{x:Pred}(h:x∈l): .agg x.c∈GH l:=by rw[He];exact AO.2 ⟨x,h,rfl⟩
def gE(l:List Pred): ∀x∈GH l,x.cells.length=5:=by
 intro x hx;rw[He]at hx;obtain⟨y,_,rfl⟩:=AO.1 hx;rfl
def aQ(l:List Pred):(∀x∈GH l,x.cells.length=5)=True:=eq_true (gE l)
def tU:GH []=[]:=rfl
def gC(l:List Pred)(k:Nat):(GH l).take k=GH (l.take k):=by simp[He]
def gD(l:List Pred)(k:Nat):(GH l).drop k=GH (l.drop k):=by simp[He]
def tW(a b:List Pred):GH a++GH b=GH (a++b):=by simp[He]
def Vi{l:List Pred}{B:Nat}(h:FU (GH l)<=B){x:Pred}(hx:x∈l):(.agg x.c:AV).bulk<=B:=AL (Fw (NC hx)) h
def Vh{l:List Pred}{B:Nat}(h:FU (GH l)<=B):l.length<=B:=by
 refine AL ?_ h
 rw[He];exact HK (f:=λ(x:Pred) => .agg x.c) (λx=>by exact ADh x) l
def kD(x:Pred)(o0:Option Nat):(x.cf o0).length=5:=rfl
def kE(x:Pred)(o0:Option Nat):(x.cf o0).map borrow1=x.cf none:=rfl
def kC(x:Pred)(o0:Option Nat):(x.cf o0).any GB=(o0.isSome):=by
 cases o0<;>rfl
def cH(x:Pred)(o0:Option Nat):(x.cf o0).take 5=x.cf o0:=rfl
def Pred.cf_pure(x:Pred)(o0:Option Nat):FW (x.cf o0)=true:=by
 simp[Pred.cf,FW,AV.pure,Jh]
def Tq(k:Nat)(x:Pred)(o0:Option Nat):Fo k (x.cf o0)=true:=by
 simp[Pred.cf,Fo,AV.bnd,Kc]
def Pred.c_bnd(k:Nat)(x:Pred):Fo k x.c=true:=Tq k x none
def K1{x:Pred}(h:HU x.c):x.args.length<=9223372036854775807:=by
 have h1:(AV.sl none (GH x.args)).fit:=Fx.1 h _ (AB (i:=4) rfl)
 have h2:=h1.1
 rwa [ND]at h2
def QU{x:Pred}{B:Nat}(h:FU x.c<=B):x.field.size<=B:=HD (AB (i:=1) rfl) h
def JB{x:Pred}{B:Nat}(h:FU x.c<=B):FU (GH x.args)<=B:=Gr (o:=none) (AB (i:=4) rfl) h
def kF(x:Pred)(o0:Option Nat):(x.cf o0)[0]? =some (.int .i64 x.kind)/\(x.cf o0)[1]? =some (.str x.field)/\(x.cf o0)[2]? =some (.int .i64 x.n)/\(x.cf o0)[3]? =some (.int .i64 x.m)/\(x.cf o0)[4]? =some (.sl o0 (GH x.args)):=⟨rfl,rfl,rfl,rfl,rfl⟩
def Pred.z:Pred:=⟨0,.empty,0,0,[]⟩
def Pred.zero:Fk AA 66=some (.agg (Pred.z.cf (some 5))):=kr
def Pred.ok(_:Pred):Prop:=True
def kA:∀(n:Nat) {a:AV},SizeOf.sizeOf a<=n->Rd AA 66 a -> ∃x:Pred,a = .agg x.c/\x.ok
 | 0,a,hn,h=>by cases a<;>simp at hn
 | n+1,a,hn,h=>by
  obtain⟨ps,rfl,hp⟩:=GJ (ts:=[3,9,3,3,64]) kr h
  obtain⟨a0,a1,a2,a3,a4,rfl,g0,g1,g2,g3,g4⟩:=OC hp
  obtain⟨v0,rfl,k0⟩:=LK g0
  obtain⟨v1,rfl,k1⟩:=lq g1
  obtain⟨v2,rfl,k2⟩:=LK g2
  obtain⟨v3,rfl,k3⟩:=LK g3
  obtain⟨es,rfl,hb,he⟩:=PO (e:=66) kr g4
  obtain⟨v4,rfl,hok⟩:=aH (f:=λx:Pred => .agg x.c) (ok:=Pred.ok) λx hx=>kA n (by
   have h1:=DE hx
   have h2:=BP (Zr (o:=none) (es:=es) (by simp[HP,AV.cells])) hn
   omega) (he x hx)
  rw[Ap,show AA.bytesOf 66=64 by kernel_rfl]at hb
  refine⟨⟨v0,v1,v2,v3,v4⟩, ?_,trivial⟩
  rw[<- He];rfl
def Pred.rd{a:AV}(h:Rd AA 66 a): ∃x:Pred,a = .agg x.c/\x.ok:=kA _ (AT _) h
structure Policy where
 kind:Int
 pred:Pred
 field:ByteArray
 n:Int
 args:List Policy
instance:Inhabited Policy:=⟨⟨default,default,default,default,default⟩⟩
mutual
def Policy.e:Policy->AV
 |⟨v0,v1,v2,v3,v4⟩ => .agg [.int .i64 v0,.int .i64 v1.kind,.str v1.field,.int .i64 v1.n,.int .i64 v1.m,.sl none (GH v1.args),.str v2,.int .i64 v3,.sl none (Policy.es v4)]
def Policy.es:List Policy->List AV
 |[]=>[]
 |x::l=>Policy.e x::Policy.es l
end
abbrev F6:List Policy->List AV:=Policy.es
mutual
def YH:∀x:Policy,(x.e).pure=true
 |⟨v0,v1,v2,v3,v4⟩=>by simp[Policy.e,AV.pure,FW,MR v4,Jh]
def MR:∀l:List Policy,FW (Policy.es l)=true
 |[]=>rfl
 |x::l=>by simp[Policy.es,FW,YH x,MR l]
end
mutual
def cK(k:Nat): ∀x:Policy,(x.e).bnd k=true
 |⟨v0,v1,v2,v3,v4⟩=>by simp[Policy.e,AV.bnd,Fo,Mz k v4,Kc]
def Mz(k:Nat): ∀l:List Policy,Fo k (Policy.es l)=true
 |[]=>rfl
 |x::l=>by simp[Policy.es,Fo,cK k x,Mz k l]
end
def Ns(l:List Policy):FW (F6 l)=true:=MR l
def Ot(k:Nat)(l:List Policy):Fo k (F6 l)=true:=Mz k l
def HM(p:Policy->Prop)(h:∀x:Policy,(∀y∈x.args,p y)->p x): ∀x,p x :=
 λx=>Policy.rec (motive_1:=p) (motive_2:=λl => ∀y∈l,p y) (λv0 v1 v2 v3 v4 ih=>h ⟨v0,v1,v2,v3,v4⟩ ih) (λy hy=>by cases hy) (λx l h1 h2 y hy=>by
  rcases AY.1 hy with rfl|hy
  ·exact h1
  ·exact h2 y hy) x
def Policy.cf(x:Policy)(o0 o1:Option Nat):List AV:=[.int .i64 x.kind,.int .i64 x.pred.kind,.str x.pred.field,.int .i64 x.pred.n,.int .i64 x.pred.m,.sl o0 (GH x.pred.args),.str x.field,.int .i64 x.n,.sl o1 (F6 x.args)]
abbrev Policy.c(x:Policy):List AV:=x.cf none none
def pg(x:Policy):1<=FU x.c:=by
 have h1:1<=(.int .i64 x.kind:AV).bulk:=by simp[AV.bulk]
 exact AL h1 (Fw (AB (i:=0) rfl))
def kM(x:Policy):x.e = .agg x.c:=by cases x;rfl
def Gf(l:List Policy):F6 l=l.map λx => .agg x.c:=by
 induction l with
 |nil=>rfl
 |cons x l ih=>show x.e::Policy.es l=_;rw[show Policy.es l=_ from ih,kM];rfl
def Tf(l:List Policy):(F6 l).length=l.length:=by simp[Gf]
def Ft{l:List Policy}{i:Nat}{x:Policy}(h:l[i]? =some x):(F6 l)[i]? =some (.agg x.c):=by simp[Gf,h]
def Te{l:List Policy}{x:Policy}(h:x∈l): .agg x.c∈F6 l:=by rw[Gf];exact AO.2 ⟨x,h,rfl⟩
def XZ(l:List Policy): ∀x∈F6 l,x.cells.length=9:=by
 intro x hx;rw[Gf]at hx;obtain⟨y,_,rfl⟩:=AO.1 hx;rfl
def Vk(l:List Policy):(∀x∈F6 l,x.cells.length=9)=True:=eq_true (XZ l)
def gF:F6 []=[]:=rfl
def XX(l:List Policy)(k:Nat):(F6 l).take k=F6 (l.take k):=by simp[Gf]
def XY(l:List Policy)(k:Nat):(F6 l).drop k=F6 (l.drop k):=by simp[Gf]
def gG(a b:List Policy):F6 a++F6 b=F6 (a++b):=by simp[Gf]
def Qq{l:List Policy}{B:Nat}(h:FU (F6 l)<=B){x:Policy}(hx:x∈l):(.agg x.c:AV).bulk<=B:=AL (Fw (Te hx)) h
def Qp{l:List Policy}{B:Nat}(h:FU (F6 l)<=B):l.length<=B:=by
 refine AL ?_ h
 rw[Gf];exact HK (f:=λ(x:Policy) => .agg x.c) (λx=>by exact pg x) l
def YJ(x:Policy)(o0 o1:Option Nat):(x.cf o0 o1).length=9:=rfl
def YK(x:Policy)(o0 o1:Option Nat):(x.cf o0 o1).map borrow1=x.cf none none:=rfl
def YI(x:Policy)(o0 o1:Option Nat):(x.cf o0 o1).any GB=(o0.isSome||o1.isSome):=by
 cases o0<;>cases o1<;>rfl
def Wt(x:Policy)(o0 o1:Option Nat):(x.cf o0 o1).take 9=x.cf o0 o1:=rfl
def Policy.cf_pure(x:Policy)(o0 o1:Option Nat):FW (x.cf o0 o1)=true:=by
 simp[Policy.cf,FW,AV.pure,Ns,Jh]
def QV(k:Nat)(x:Policy)(o0 o1:Option Nat):Fo k (x.cf o0 o1)=true:=by
 simp[Policy.cf,Fo,AV.bnd,Ot,Kc]
def Policy.c_bnd(k:Nat)(x:Policy):Fo k x.c=true:=QV k x none none
def Ic{x:Policy}(h:HU x.c):x.args.length<=9223372036854775807:=by
 have h1:(AV.sl none (F6 x.args)).fit:=Fx.1 h _ (AB (i:=8) rfl)
 have h2:=h1.1
 rwa [Tf]at h2
def MS{x:Policy}{B:Nat}(h:FU x.c<=B):FU x.pred.c<=B:=by
 have h1:=Hc x.c 1 5
 rw[show(x.c.drop 1).take 5=x.pred.c from rfl]at h1
 omega
def OI{x:Policy}{B:Nat}(h:FU x.c<=B):x.field.size<=B:=HD (AB (i:=6) rfl) h
def IL{x:Policy}{B:Nat}(h:FU x.c<=B):FU (F6 x.args)<=B:=Gr (o:=none) (AB (i:=8) rfl) h
def YL(x:Policy)(o0 o1:Option Nat):(x.cf o0 o1)[0]? =some (.int .i64 x.kind)/\(x.cf o0 o1)[6]? =some (.str x.field)/\(x.cf o0 o1)[7]? =some (.int .i64 x.n)/\(x.cf o0 o1)[8]? =some (.sl o1 (F6 x.args)):=⟨rfl,rfl,rfl,rfl⟩
def P'(x:Policy)(o0 o1:Option Nat):((x.cf o0 o1).drop 1).take 5=x.pred.cf o0:=rfl
def Policy.z:Policy:=⟨0,⟨0,.empty,0,0,[]⟩,.empty,0,[]⟩
def Policy.zero:Fk AA 112=some (.agg (Policy.z.cf (some 5) (some 9))):=kr
def Policy.ok(_:Policy):Prop:=True
def Ws:∀(n:Nat) {a:AV},SizeOf.sizeOf a<=n->Rd AA 112 a -> ∃x:Policy,a = .agg x.c/\x.ok
 | 0,a,hn,h=>by cases a<;>simp at hn
 | n+1,a,hn,h=>by
  obtain⟨ps,rfl,hp⟩:=GJ (ts:=[3,66,9,3,110]) kr h
  obtain⟨a0,a1,a2,a3,a4,rfl,g0,g1,g2,g3,g4⟩:=OC hp
  obtain⟨v0,rfl,k0⟩:=LK g0
  obtain⟨v1,rfl,k1⟩:=Pred.rd g1
  obtain⟨v2,rfl,k2⟩:=lq g2
  obtain⟨v3,rfl,k3⟩:=LK g3
  obtain⟨es,rfl,hb,he⟩:=PO (e:=112) kr g4
  obtain⟨v4,rfl,hok⟩:=aH (f:=λx:Policy => .agg x.c) (ok:=Policy.ok) λx hx=>Ws n (by
   have h1:=DE hx
   have h2:=BP (Zr (o:=none) (es:=es) (by simp[HP,AV.cells])) hn
   omega) (he x hx)
  rw[Ap,show AA.bytesOf 112=120 by kernel_rfl]at hb
  refine⟨⟨v0,v1,v2,v3,v4⟩, ?_,trivial⟩
  rw[<- Gf];rfl
def Policy.rd{a:AV}(h:Rd AA 112 a): ∃x:Policy,a = .agg x.c/\x.ok:=Ws _ (AT _) h
structure Regex where
 kind:Int
 node:ByteArray
 args:List Regex
instance:Inhabited Regex:=⟨⟨default,default,default⟩⟩
mutual
def Regex.e:Regex->AV
 |⟨v0,v1,v2⟩ => .agg [.int .i64 v0,.str v1,.sl none (Regex.es v2)]
def Regex.es:List Regex->List AV
 |[]=>[]
 |x::l=>Regex.e x::Regex.es l
end
abbrev J7:List Regex->List AV:=Regex.es
mutual
def cA:∀x:Regex,(x.e).pure=true
 |⟨v0,v1,v2⟩=>by simp[Regex.e,AV.pure,FW,My v2]
def My:∀l:List Regex,FW (Regex.es l)=true
 |[]=>rfl
 |x::l=>by simp[Regex.es,FW,cA x,My l]
end
mutual
def j_(k:Nat): ∀x:Regex,(x.e).bnd k=true
 |⟨v0,v1,v2⟩=>by simp[Regex.e,AV.bnd,Fo,OB k v2]
def OB(k:Nat): ∀l:List Regex,Fo k (Regex.es l)=true
 |[]=>rfl
 |x::l=>by simp[Regex.es,Fo,j_ k x,OB k l]
end
def Oq(l:List Regex):FW (J7 l)=true:=My l
def Qo(k:Nat)(l:List Regex):Fo k (J7 l)=true:=OB k l
def Pz(p:Regex->Prop)(h:∀x:Regex,(∀y∈x.args,p y)->p x): ∀x,p x :=
 λx=>Regex.rec (motive_1:=p) (motive_2:=λl => ∀y∈l,p y) (λv0 v1 v2 ih=>h ⟨v0,v1,v2⟩ ih) (λy hy=>by cases hy) (λx l h1 h2 y hy=>by
  rcases AY.1 hy with rfl|hy
  ·exact h1
  ·exact h2 y hy) x
def Regex.cf(x:Regex)(o0:Option Nat):List AV:=[.int .i64 x.kind,.str x.node,.sl o0 (J7 x.args)]
abbrev Regex.c(x:Regex):List AV:=x.cf none
def ya(x:Regex):1<=FU x.c:=by
 have h1:1<=(.int .i64 x.kind:AV).bulk:=by simp[AV.bulk]
 exact AL h1 (Fw (AB (i:=0) rfl))
def pX(x:Regex):x.e = .agg x.c:=by cases x;rfl
def NB(l:List Regex):J7 l=l.map λx => .agg x.c:=by
 induction l with
 |nil=>rfl
 |cons x l ih=>show x.e::Regex.es l=_;rw[show Regex.es l=_ from ih,pX];rfl
def Vg(l:List Regex):(J7 l).length=l.length:=by simp[NB]
def Kb{l:List Regex}{i:Nat}{x:Regex}(h:l[i]? =some x):(J7 l)[i]? =some (.agg x.c):=by simp[NB,h]
def Vf{l:List Regex}{x:Regex}(h:x∈l): .agg x.c∈J7 l:=by rw[NB];exact AO.2 ⟨x,h,rfl⟩
def tT{l:List Regex}{B:Nat}(h:FU (J7 l)<=B){x:Regex}(hx:x∈l):(.agg x.c:AV).bulk<=B:=AL (Fw (Vf hx)) h
def tQ{l:List Regex}{B:Nat}(h:FU (J7 l)<=B):l.length<=B:=by
 refine AL ?_ h
 rw[NB];exact HK (f:=λ(x:Regex) => .agg x.c) (λx=>by exact ya x) l
def cC(x:Regex)(o0:Option Nat):(x.cf o0).length=3:=rfl
def cD(x:Regex)(o0:Option Nat):(x.cf o0).map borrow1=x.cf none:=rfl
def cB(x:Regex)(o0:Option Nat):(x.cf o0).any GB=(o0.isSome):=by
 cases o0<;>rfl
def YE(x:Regex)(o0:Option Nat):(x.cf o0).take 3=x.cf o0:=rfl
def Regex.cf_pure(x:Regex)(o0:Option Nat):FW (x.cf o0)=true:=by
 simp[Regex.cf,FW,AV.pure,Oq]
def SE(k:Nat)(x:Regex)(o0:Option Nat):Fo k (x.cf o0)=true:=by
 simp[Regex.cf,Fo,AV.bnd,Qo]
def Regex.c_bnd(k:Nat)(x:Regex):Fo k x.c=true:=SE k x none
def MQ{x:Regex}(h:HU x.c):x.args.length<=9223372036854775807:=by
 have h1:(AV.sl none (J7 x.args)).fit:=Fx.1 h _ (AB (i:=2) rfl)
 have h2:=h1.1
 rwa [Vg]at h2
def YF{x:Regex}{B:Nat}(h:FU x.c<=B):x.node.size<=B:=HD (AB (i:=1) rfl) h
def QT{x:Regex}{B:Nat}(h:FU x.c<=B):FU (J7 x.args)<=B:=Gr (o:=none) (AB (i:=2) rfl) h
def cE(x:Regex)(o0:Option Nat):(x.cf o0)[0]? =some (.int .i64 x.kind)/\(x.cf o0)[1]? =some (.str x.node)/\(x.cf o0)[2]? =some (.sl o0 (J7 x.args)):=⟨rfl,rfl,rfl⟩
def Regex.z:Regex:=⟨0,.empty,[]⟩
def Regex.zero:Fk AA 159=some (.agg (Regex.z.cf (some 3))):=kr
def Regex.ok(_:Regex):Prop:=True
def Zb:∀(n:Nat) {a:AV},SizeOf.sizeOf a<=n->Rd AA 159 a -> ∃x:Regex,a = .agg x.c/\x.ok
 | 0,a,hn,h=>by cases a<;>simp at hn
 | n+1,a,hn,h=>by
  obtain⟨ps,rfl,hp⟩:=GJ (ts:=[3,9,157]) kr h
  obtain⟨a0,a1,a2,rfl,g0,g1,g2⟩:=JA hp
  obtain⟨v0,rfl,k0⟩:=LK g0
  obtain⟨v1,rfl,k1⟩:=lq g1
  obtain⟨es,rfl,hb,he⟩:=PO (e:=159) kr g2
  obtain⟨v2,rfl,hok⟩:=aH (f:=λx:Regex => .agg x.c) (ok:=Regex.ok) λx hx=>Zb n (by
   have h1:=DE hx
   have h2:=BP (Zr (o:=none) (es:=es) (by simp[HP,AV.cells])) hn
   omega) (he x hx)
  rw[Ap,show AA.bytesOf 159=48 by kernel_rfl]at hb
  refine⟨⟨v0,v1,v2⟩, ?_,trivial⟩
  rw[<- NB];rfl
def Regex.rd{a:AV}(h:Rd AA 159 a): ∃x:Regex,a = .agg x.c/\x.ok:=Zb _ (AT _) h
def HB(l:List ByteArray):List AV:=l.map λx => .str x
def L7(l:List ByteArray):(HB l).length=l.length:=by simp[HB]
def Gk{l:List ByteArray}{i:Nat}{x:ByteArray}(h:l[i]? =some x):(HB l)[i]? =some (.str x):=by simp[HB,h]
def ABK{l:List ByteArray}{x:ByteArray}(h:x∈l): .str x∈HB l:=by rw[HB];exact AO.2 ⟨x,h,rfl⟩
def mr(l:List ByteArray): ∀x∈HB l,x.cells.length=1:=by
 intro x hx;obtain⟨y,_,rfl⟩:=AO.1 hx;rfl
def fy(l:List ByteArray):(∀x∈HB l,x.cells.length=1)=True:=eq_true (mr l)
def ABJ:HB []=[]:=rfl
def mo(l:List ByteArray)(k:Nat):(HB l).take k=HB (l.take k):=by simp[HB]
def tM(a:List ByteArray)(x:ByteArray):HB a++[.str x]=HB (a++[x]):=by simp[HB]
def Pf(l:List ByteArray):FW (HB l)=true:=by
 induction l with
 |nil=>rfl
 |cons x xs ih=>simpa [HB,FW,AV.pure]using ih
def Rj(k:Nat)(l:List ByteArray):Fo k (HB l)=true:=Hg λx=>rfl
def AFC{l:List ByteArray}{B:Nat}(h:FU (HB l)<=B){x:ByteArray}(hx:x∈l):(.str x:AV).bulk<=B:=AL (Fw (ABK hx)) h
def Ug{l:List ByteArray}{B:Nat}(h:FU (HB l)<=B):l.length<=B:=by
 refine AL ?_ h
 exact HK (f:=λ(x:ByteArray) => .str x) (λx=>by simp[AV.bulk]) l
def AFB(l:List ByteArray):Prop:=l.length*16<=reachBytes /\ ∀x∈l,x.size<=reachBytes
def mq{a:AV}(h:Rd AA 113 a): ∃l,a = .sl none (HB l)/\AFB l:=by
 obtain⟨l,h1,h2,h3⟩:=IW (f:=λ(x:ByteArray) => .str x) (ok:=λ(x:ByteArray)=>x.size<=reachBytes) (P:=AA) (t:=113) (e:=9) kr (λx hx=>lq hx) h
 exact⟨l,h1,by rw[show AA.bytesOf 9=16 by kernel_rfl]at h2;exact h2,h3⟩
@[ext] structure Stp where
 kind:Int
 var:ByteArray
 key:List ByteArray
 field:ByteArray
 n:Int
 m:Int
 deriving DecidableEq,Inhabited
def Stp.cf(x:Stp)(o0:Option Nat):List AV:=[.int .i64 x.kind,.str x.var,.sl o0 (HB x.key),.str x.field,.int .i64 x.n,.int .i64 x.m]
abbrev Stp.c(x:Stp):List AV:=x.cf none
def pQ(x:Stp)(o0:Option Nat):(x.cf o0).length=6:=rfl
def pR(x:Stp)(o0:Option Nat):(x.cf o0).map borrow1=x.cf none:=rfl
def pP(x:Stp)(o0:Option Nat):(x.cf o0).any GB=(o0.isSome):=by
 cases o0<;>rfl
def jz(x:Stp)(o0:Option Nat):(x.cf o0).take 6=x.cf o0:=rfl
def Stp.cf_pure(x:Stp)(o0:Option Nat):FW (x.cf o0)=true:=by
 simp[Stp.cf,FW,AV.pure,Pf]
def Wq(k:Nat)(x:Stp)(o0:Option Nat):Fo k (x.cf o0)=true:=by
 simp[Stp.cf,Fo,AV.bnd,Rj]
def Stp.c_bnd(k:Nat)(x:Stp):Fo k x.c=true:=Wq k x none
def jy{x:Stp}(h:HU x.c):x.key.length<=9223372036854775807:=by
 have h1:(AV.sl none (HB x.key)).fit:=Fx.1 h _ (AB (i:=2) rfl)
 have h2:=h1.1
 rwa [L7]at h2
def pT{x:Stp}{B:Nat}(h:FU x.c<=B):x.var.size<=B:=HD (AB (i:=1) rfl) h
def MP{x:Stp}{B:Nat}(h:FU x.c<=B):FU (HB x.key)<=B:=Gr (o:=none) (AB (i:=2) rfl) h
def be{x:Stp}{B:Nat}(h:FU x.c<=B):x.field.size<=B:=HD (AB (i:=3) rfl) h
def pS(x:Stp)(o0:Option Nat):(x.cf o0)[0]? =some (.int .i64 x.kind)/\(x.cf o0)[1]? =some (.str x.var)/\(x.cf o0)[2]? =some (.sl o0 (HB x.key))/\(x.cf o0)[3]? =some (.str x.field)/\(x.cf o0)[4]? =some (.int .i64 x.n)/\(x.cf o0)[5]? =some (.int .i64 x.m):=⟨rfl,rfl,rfl,rfl,rfl,rfl⟩
def Stp.z:Stp:=⟨0,.empty,[],.empty,0,0⟩
def Stp.zero:Fk AA 115=some (.agg (Stp.z.cf (some 1))):=kr
def Stp.ok(_:Stp):Prop:=True
def Stp.rd{a:AV}(h:Rd AA 115 a): ∃x:Stp,a = .agg x.c/\x.ok:=by
 obtain⟨ps,rfl,hp⟩:=GJ (ts:=[3,9,113,9,3,3]) kr h
 obtain⟨a0,a1,a2,a3,a4,a5,rfl,g0,g1,g2,g3,g4,g5⟩:=SF hp
 obtain⟨v0,rfl,k0⟩:=LK g0
 obtain⟨v1,rfl,k1⟩:=lq g1
 obtain⟨v2,rfl,k2⟩:=mq g2
 obtain⟨v3,rfl,k3⟩:=lq g3
 obtain⟨v4,rfl,k4⟩:=LK g4
 obtain⟨v5,rfl,k5⟩:=LK g5
 exact⟨⟨v0,v1,v2,v3,v4,v5⟩,rfl,trivial⟩
@[ext] structure Stage where
 policy:Policy
 step:Stp
 deriving Inhabited
def Stage.cf(x:Stage)(o0 o1 o2:Option Nat):List AV:=[.int .i64 x.policy.kind,.int .i64 x.policy.pred.kind,.str x.policy.pred.field,.int .i64 x.policy.pred.n,.int .i64 x.policy.pred.m,.sl o0 (GH x.policy.pred.args),.str x.policy.field,.int .i64 x.policy.n,.sl o1 (F6 x.policy.args),.int .i64 x.step.kind,.str x.step.var,.sl o2 (HB x.step.key),.str x.step.field,.int .i64 x.step.n,.int .i64 x.step.m]
abbrev Stage.c(x:Stage):List AV:=x.cf none none none
def yY(x:Stage):1<=FU x.c:=by
 have h1:1<=(.int .i64 x.policy.kind:AV).bulk:=by simp[AV.bulk]
 exact AL h1 (Fw (AB (i:=0) rfl))
def bg(x:Stage)(o0 o1 o2:Option Nat):(x.cf o0 o1 o2).length=15:=rfl
def bi(x:Stage)(o0 o1 o2:Option Nat):(x.cf o0 o1 o2).map borrow1=x.cf none none none:=rfl
def bf(x:Stage)(o0 o1 o2:Option Nat):(x.cf o0 o1 o2).any GB=(o0.isSome||o1.isSome||o2.isSome):=by
 cases o0<;>cases o1<;>cases o2<;>rfl
def X_(x:Stage)(o0 o1 o2:Option Nat):(x.cf o0 o1 o2).take 15=x.cf o0 o1 o2:=rfl
def Stage.cf_pure(x:Stage)(o0 o1 o2:Option Nat):FW (x.cf o0 o1 o2)=true:=by
 simp[Stage.cf,FW,AV.pure,Ns,Jh,Pf]
def bk(x:Stage):FW x.c=true:=x.cf_pure none none none
def R_(k:Nat)(x:Stage)(o0 o1 o2:Option Nat):Fo k (x.cf o0 o1 o2)=true:=by
 simp[Stage.cf,Fo,AV.bnd,Ot,Kc,Rj]
def Stage.c_bnd(k:Nat)(x:Stage):Fo k x.c=true:=R_ k x none none none
def Hu{x:Stage}{B:Nat}(h:FU x.c<=B):FU x.policy.c<=B:=by
 have h1:=Hc x.c 0 9
 rw[show(x.c.drop 0).take 9=x.policy.c from rfl]at h1
 omega
def K0{x:Stage}{B:Nat}(h:FU x.c<=B):FU x.step.c<=B:=by
 have h1:=Hc x.c 9 6
 rw[show(x.c.drop 9).take 6=x.step.c from rfl]at h1
 omega
def bj(x:Stage)(o0 o1 o2:Option Nat):(x.cf o0 o1 o2)[9]? =some (.int .i64 x.step.kind)/\(x.cf o0 o1 o2)[10]? =some (.str x.step.var)/\(x.cf o0 o1 o2)[11]? =some (.sl o2 (HB x.step.key)):=⟨rfl,rfl,rfl⟩
def PN(x:Stage)(o0 o1 o2:Option Nat):(x.cf o0 o1 o2).take 9=x.policy.cf o0 o1:=rfl
def PM(x:Stage)(v:Policy)(o0 o1 o2:Option Nat)(p0 p1:Option Nat):Hq (x.cf o0 o1 o2) (v.cf p0 p1)=({ x with policy:=v }:Stage).cf p0 p1 o2:=rfl
def RD(x:Stage)(o0 o1 o2:Option Nat):((x.cf o0 o1 o2).drop 9).take 6=x.step.cf o2:=rfl
def R9(x:Stage)(v:Stp)(o0 o1 o2:Option Nat)(p0:Option Nat):splice (x.cf o0 o1 o2) 9 (v.cf p0)=({ x with step:=v }:Stage).cf o0 o1 p0:=rfl
def Stage.z:Stage:=⟨⟨0,⟨0,.empty,0,0,[]⟩,.empty,0,[]⟩,⟨0,.empty,[],.empty,0,0⟩⟩
def Stage.zero:Fk AA 117=some (.agg (Stage.z.cf (some 5) (some 9) (some 1))):=kr
def Stage.ok(_:Stage):Prop:=True
def Stage.rd{a:AV}(h:Rd AA 117 a): ∃x:Stage,a = .agg x.c/\x.ok:=by
 obtain⟨ps,rfl,hp⟩:=GJ (ts:=[112,115]) kr h
 obtain⟨a0,a1,rfl,g0,g1⟩:=IA hp
 obtain⟨v0,rfl,k0⟩:=Policy.rd g0
 obtain⟨v1,rfl,k1⟩:=Stp.rd g1
 exact⟨⟨v0,v1⟩,rfl,trivial⟩
@[ext] structure Route where
 pred:Pred
 path:Regex
 deriving Inhabited
def Route.cf(x:Route)(o0 o1:Option Nat):List AV:=[.int .i64 x.pred.kind,.str x.pred.field,.int .i64 x.pred.n,.int .i64 x.pred.m,.sl o0 (GH x.pred.args),.int .i64 x.path.kind,.str x.path.node,.sl o1 (J7 x.path.args)]
abbrev Route.c(x:Route):List AV:=x.cf none none
def yZ(x:Route):1<=FU x.c:=by
 have h1:1<=(.int .i64 x.pred.kind:AV).bulk:=by simp[AV.bulk]
 exact AL h1 (Fw (AB (i:=0) rfl))
def b8(x:Route)(o0 o1:Option Nat):(x.cf o0 o1).length=8:=rfl
def b9(x:Route)(o0 o1:Option Nat):(x.cf o0 o1).map borrow1=x.cf none none:=rfl
def b7(x:Route)(o0 o1:Option Nat):(x.cf o0 o1).any GB=(o0.isSome||o1.isSome):=by
 cases o0<;>cases o1<;>rfl
def Route.cf_pure(x:Route)(o0 o1:Option Nat):FW (x.cf o0 o1)=true:=by
 simp[Route.cf,FW,AV.pure,Jh,Oq]
def b_(x:Route):FW x.c=true:=x.cf_pure none none
def SD(k:Nat)(x:Route)(o0 o1:Option Nat):Fo k (x.cf o0 o1)=true:=by
 simp[Route.cf,Fo,AV.bnd,Kc,Qo]
def Route.c_bnd(k:Nat)(x:Route):Fo k x.c=true:=SD k x none none
def YC{x:Route}{B:Nat}(h:FU x.c<=B):FU x.pred.c<=B:=by
 have h1:=Hc x.c 0 5
 rw[show(x.c.drop 0).take 5=x.pred.c from rfl]at h1
 omega
def YD{x:Route}{B:Nat}(h:FU x.c<=B):FU x.path.c<=B:=by
 have h1:=Hc x.c 5 3
 rw[show(x.c.drop 5).take 3=x.path.c from rfl]at h1
 omega
def RF(x:Route)(o0 o1:Option Nat):(x.cf o0 o1).take 5=x.pred.cf o0:=rfl
def RG(x:Route)(o0 o1:Option Nat):((x.cf o0 o1).drop 5).take 3=x.path.cf o1:=rfl
def Route.z:Route:=⟨⟨0,.empty,0,0,[]⟩,⟨0,.empty,[]⟩⟩
def Route.ok(_:Route):Prop:=True
def Route.rd{a:AV}(h:Rd AA 161 a): ∃x:Route,a = .agg x.c/\x.ok:=by
 obtain⟨ps,rfl,hp⟩:=GJ (ts:=[66,159]) kr h
 obtain⟨a0,a1,rfl,g0,g1⟩:=IA hp
 obtain⟨v0,rfl,k0⟩:=Pred.rd g0
 obtain⟨v1,rfl,k1⟩:=Regex.rd g1
 exact⟨⟨v0,v1⟩,rfl,trivial⟩
@[ext] structure Demand where
 src:Int
 dst:Int
 floor:Int
 ceiling:Int
 deriving DecidableEq,Inhabited
def Demand.c(x:Demand):List AV:=[.int .i64 x.src,.int .i64 x.dst,.int .i64 x.floor,.int .i64 x.ceiling]
def pu(x:Demand):1<=FU x.c:=by
 have h1:1<=(.int .i64 x.src:AV).bulk:=by simp[AV.bulk]
 exact AL h1 (Fw (AB (i:=0) rfl))
def YO(x:Demand):x.c.length=4:=rfl
def YP(x:Demand):x.c.map borrow1=x.c:=rfl
def YN(x:Demand):x.c.any GB=false:=by
 rfl
def W4(x:Demand):x.c.take 4=x.c:=rfl
def Demand.cf_pure(x:Demand):FW x.c=true:=by
 simp[Demand.c,FW,AV.pure]
def YR(x:Demand):FW x.c=true:=x.cf_pure
def QW(k:Nat)(x:Demand):Fo k x.c=true:=by
 simp[Demand.c,Fo,AV.bnd]
def Demand.c_bnd(k:Nat)(x:Demand):Fo k x.c=true:=QW k x
def YQ(x:Demand):x.c[0]? =some (.int .i64 x.src)/\x.c[1]? =some (.int .i64 x.dst)/\x.c[2]? =some (.int .i64 x.floor)/\x.c[3]? =some (.int .i64 x.ceiling):=⟨rfl,rfl,rfl,rfl⟩
def Demand.z:Demand:=⟨0,0,0,0⟩
def Demand.zero:Fk AA 164=some (.agg Demand.z.c):=kr
def Demand.ok(_:Demand):Prop:=True
def Demand.rd{a:AV}(h:Rd AA 164 a): ∃x:Demand,a = .agg x.c/\x.ok:=by
 obtain⟨ps,rfl,hp⟩:=GJ (ts:=[3,3,3,3]) kr h
 obtain⟨a0,a1,a2,a3,rfl,g0,g1,g2,g3⟩:=Li hp
 obtain⟨v0,rfl,k0⟩:=LK g0
 obtain⟨v1,rfl,k1⟩:=LK g1
 obtain⟨v2,rfl,k2⟩:=LK g2
 obtain⟨v3,rfl,k3⟩:=LK g3
 exact⟨⟨v0,v1,v2,v3⟩,rfl,trivial⟩
def Demand.eq(x y:Demand):KM AA 164 (.agg x.c) (.agg y.c)=some (decide (x=y)):=by
 have e:KM AA 164 (.agg x.c) (.agg y.c)=some ((x.src==y.src)&&((x.dst==y.dst)&&((x.floor==y.floor)&&((x.ceiling==y.ceiling)&&true)))):=kr
 rw[e,Option.some.injEq,A']
 simp[Demand.ext_iff]
def pt(x y:Demand){d:Tmp}{K:Kt}{e:Fs}{H:cj}:IC AA .neq 164 (.agg x.c) (.agg y.c) d K e H=K ((d,.bool !(decide (x=y)))::e) H:=Jw (Demand.eq x y)
def J8(l:List Port):List AV:=l.map λx => .agg x.c
def Yx(l:List Port):(J8 l).length=l.length:=by simp[J8]
def HY{l:List Port}{i:Nat}{x:Port}(h:l[i]? =some x):(J8 l)[i]? =some (.agg x.c):=by simp[J8,h]
def tX{l:List Port}{x:Port}(h:x∈l): .agg x.c∈J8 l:=by rw[J8];exact AO.2 ⟨x,h,rfl⟩
def Vj(l:List Port):FW (J8 l)=true:=by
 induction l with
 |nil=>rfl
 |cons x xs ih=>simpa [J8,FW,AV.pure]using⟨kK x,ih⟩
def Yy(k:Nat)(l:List Port):Fo k (J8 l)=true:=Hg λx=>Port.c_bnd k x
def ABM{l:List Port}{B:Nat}(h:FU (J8 l)<=B){x:Port}(hx:x∈l):(.agg x.c:AV).bulk<=B:=AL (Fw (tX hx)) h
def Rk{l:List Port}{B:Nat}(h:FU (J8 l)<=B):l.length<=B:=by
 refine AL ?_ h
 exact HK (f:=λ(x:Port) => .agg x.c) (λx=>by exact ADj x) l
def ABL(l:List Port):Prop:=l.length*24<=reachBytes /\ ∀x∈l,x.ok
def mz{a:AV}(h:Rd AA 51 a): ∃l,a = .sl none (J8 l)/\ABL l:=by
 obtain⟨l,h1,h2,h3⟩:=IW (f:=λ(x:Port) => .agg x.c) (ok:=λ(x:Port)=>x.ok) (P:=AA) (t:=51) (e:=104) kr (λx hx=>Port.rd hx) h
 exact⟨l,h1,by rw[show AA.bytesOf 104=24 by kernel_rfl]at h2;exact h2,h3⟩
def Ma(l:List Wire):List AV:=l.map λx => .agg x.c
def tJ(l:List Wire):(Ma l).length=l.length:=by simp[Ma]
def HW{l:List Wire}{i:Nat}{x:Wire}(h:l[i]? =some x):(Ma l)[i]? =some (.agg x.c):=by simp[Ma,h]
def Va(l:List Wire):FW (Ma l)=true:=by
 induction l with
 |nil=>rfl
 |cons x xs ih=>simpa [Ma,FW,AV.pure]using⟨jw x,ih⟩
def Yv(k:Nat)(l:List Wire):Fo k (Ma l)=true:=Hg λx=>Wire.c_bnd k x
def NA{l:List Wire}{B:Nat}(h:FU (Ma l)<=B):l.length<=B:=by
 refine AL ?_ h
 exact HK (f:=λ(x:Wire) => .agg x.c) (λx=>by exact ADc x) l
def ABG(l:List Wire):Prop:=l.length*16<=reachBytes /\ ∀x∈l,x.ok
def mh{a:AV}(h:Rd AA 52 a): ∃l,a = .sl none (Ma l)/\ABG l:=by
 obtain⟨l,h1,h2,h3⟩:=IW (f:=λ(x:Wire) => .agg x.c) (ok:=λ(x:Wire)=>x.ok) (P:=AA) (t:=52) (e:=155) kr (λx hx=>Wire.rd hx) h
 exact⟨l,h1,by rw[show AA.bytesOf 155=16 by kernel_rfl]at h2;exact h2,h3⟩
def F4(l:List Stage):List AV:=l.map λx => .agg x.c
def KZ(l:List Stage):(F4 l).length=l.length:=by simp[F4]
def F7{l:List Stage}{i:Nat}{x:Stage}(h:l[i]? =some x):(F4 l)[i]? =some (.agg x.c):=by simp[F4,h]
def mu{l:List Stage}{x:Stage}(h:x∈l): .agg x.c∈F4 l:=by rw[F4];exact AO.2 ⟨x,h,rfl⟩
def aO(l:List Stage): ∀x∈F4 l,x.cells.length=15:=by
 intro x hx;obtain⟨y,_,rfl⟩:=AO.1 hx;rfl
def XW(l:List Stage):(∀x∈F4 l,x.cells.length=15)=True:=eq_true (aO l)
def mw(a b:List Stage):F4 a++F4 b=F4 (a++b):=by simp[F4]
def Tc(l:List Stage):FW (F4 l)=true:=by
 induction l with
 |nil=>rfl
 |cons x xs ih=>simpa [F4,FW,AV.pure]using⟨bk x,ih⟩
def Vc(k:Nat)(l:List Stage):Fo k (F4 l)=true:=Hg λx=>Stage.c_bnd k x
def Ka{l:List Stage}{B:Nat}(h:FU (F4 l)<=B){x:Stage}(hx:x∈l):(.agg x.c:AV).bulk<=B:=AL (Fw (mu hx)) h
def Lm{l:List Stage}{B:Nat}(h:FU (F4 l)<=B):l.length<=B:=by
 refine AL ?_ h
 exact HK (f:=λ(x:Stage) => .agg x.c) (λx=>by exact yY x) l
def tN(l:List Stage):Prop:=l.length*200<=reachBytes /\ ∀x∈l,x.ok
def f0{a:AV}(h:Rd AA 48 a): ∃l,a = .sl none (F4 l)/\tN l:=by
 obtain⟨l,h1,h2,h3⟩:=IW (f:=λ(x:Stage) => .agg x.c) (ok:=λ(x:Stage)=>x.ok) (P:=AA) (t:=48) (e:=117) kr (λx hx=>Stage.rd hx) h
 exact⟨l,h1,by rw[show AA.bytesOf 117=200 by kernel_rfl]at h2;exact h2,h3⟩
def JI(l:List Route):List AV:=l.map λx => .agg x.c
def Vd(l:List Route):(JI l).length=l.length:=by simp[JI]
def It{l:List Route}{i:Nat}{x:Route}(h:l[i]? =some x):(JI l)[i]? =some (.agg x.c):=by simp[JI,h]
def my{l:List Route}{x:Route}(h:x∈l): .agg x.c∈JI l:=by rw[JI];exact AO.2 ⟨x,h,rfl⟩
def Td(l:List Route):FW (JI l)=true:=by
 induction l with
 |nil=>rfl
 |cons x xs ih=>simpa [JI,FW,AV.pure]using⟨b_ x,ih⟩
def Ve(k:Nat)(l:List Route):Fo k (JI l)=true:=Hg λx=>Route.c_bnd k x
def tP{l:List Route}{B:Nat}(h:FU (JI l)<=B){x:Route}(hx:x∈l):(.agg x.c:AV).bulk<=B:=AL (Fw (my hx)) h
def Yw{l:List Route}{B:Nat}(h:FU (JI l)<=B):l.length<=B:=by
 refine AL ?_ h
 exact HK (f:=λ(x:Route) => .agg x.c) (λx=>by exact yZ x) l
def tO(l:List Route):Prop:=l.length*112<=reachBytes /\ ∀x∈l,x.ok
def f_{a:AV}(h:Rd AA 53 a): ∃l,a = .sl none (JI l)/\tO l:=by
 obtain⟨l,h1,h2,h3⟩:=IW (f:=λ(x:Route) => .agg x.c) (ok:=λ(x:Route)=>x.ok) (P:=AA) (t:=53) (e:=161) kr (λx hx=>Route.rd hx) h
 exact⟨l,h1,by rw[show AA.bytesOf 161=112 by kernel_rfl]at h2;exact h2,h3⟩
def JY(l:List Demand):List AV:=l.map λx => .agg x.c
def gQ(l:List Demand):(JY l).length=l.length:=by simp[JY]
def K8{l:List Demand}{i:Nat}{x:Demand}(h:l[i]? =some x):(JY l)[i]? =some (.agg x.c):=by simp[JY,h]
def Rm(l:List Demand):FW (JY l)=true:=by
 induction l with
 |nil=>rfl
 |cons x xs ih=>simpa [JY,FW,AV.pure]using⟨YR x,ih⟩
def Th(k:Nat)(l:List Demand):Fo k (JY l)=true:=Hg λx=>Demand.c_bnd k x
def Vp{l:List Demand}{B:Nat}(h:FU (JY l)<=B):l.length<=B:=by
 refine AL ?_ h
 exact HK (f:=λ(x:Demand) => .agg x.c) (λx=>by exact pu x) l
def nE(l:List Demand):Prop:=l.length*32<=reachBytes /\ ∀x∈l,x.ok
def aU{a:AV}(h:Rd AA 54 a): ∃l,a = .sl none (JY l)/\nE l:=by
 obtain⟨l,h1,h2,h3⟩:=IW (f:=λ(x:Demand) => .agg x.c) (ok:=λ(x:Demand)=>x.ok) (P:=AA) (t:=54) (e:=164) kr (λx hx=>Demand.rd hx) h
 exact⟨l,h1,by rw[show AA.bytesOf 164=32 by kernel_rfl]at h2;exact h2,h3⟩
@[ext] structure Tenant where
 name:ByteArray
 ports:List Port
 wires:List Wire
 program:List Stage
 routes:List Route
 demands:List Demand
 deriving Inhabited
def Tenant.cf(x:Tenant)(o0 o1 o2 o3 o4:Option Nat):List AV:=[.str x.name,.sl o0 (J8 x.ports),.sl o1 (Ma x.wires),.sl o2 (F4 x.program),.sl o3 (JI x.routes),.sl o4 (JY x.demands)]
abbrev Tenant.c(x:Tenant):List AV:=x.cf none none none none none
def pO(x:Tenant):1<=FU x.c:=by
 have h1:1<=(.str x.name:AV).bulk:=by simp[AV.bulk]
 exact AL h1 (Fw (AB (i:=0) rfl))
def X6(x:Tenant)(o0 o1 o2 o3 o4:Option Nat):(x.cf o0 o1 o2 o3 o4).length=6:=rfl
def X7(x:Tenant)(o0 o1 o2 o3 o4:Option Nat):(x.cf o0 o1 o2 o3 o4).map borrow1=x.cf none none none none none:=rfl
def X5(x:Tenant)(o0 o1 o2 o3 o4:Option Nat):(x.cf o0 o1 o2 o3 o4).any GB=(o0.isSome||o1.isSome||o2.isSome||o3.isSome||o4.isSome):=by
 cases o0<;>cases o1<;>cases o2<;>cases o3<;>cases o4<;>rfl
def Wo(x:Tenant)(o0 o1 o2 o3 o4:Option Nat):(x.cf o0 o1 o2 o3 o4).take 6=x.cf o0 o1 o2 o3 o4:=rfl
def Tenant.cf_pure(x:Tenant)(o0 o1 o2 o3 o4:Option Nat):FW (x.cf o0 o1 o2 o3 o4)=true:=by
 simp[Tenant.cf,FW,AV.pure,Rm,Vj,Td,Tc,Va]
def X9(x:Tenant):FW x.c=true:=x.cf_pure none none none none none
def QR(k:Nat)(x:Tenant)(o0 o1 o2 o3 o4:Option Nat):Fo k (x.cf o0 o1 o2 o3 o4)=true:=by
 simp[Tenant.cf,Fo,AV.bnd,Th,Yy,Ve,Vc,Yv]
def Tenant.c_bnd(k:Nat)(x:Tenant):Fo k x.c=true:=QR k x none none none none none
def NT{x:Tenant}(h:HU x.c):x.ports.length<=9223372036854775807:=by
 have h1:(AV.sl none (J8 x.ports)).fit:=Fx.1 h _ (AB (i:=1) rfl)
 have h2:=h1.1
 rwa [Yx]at h2
def RC{x:Tenant}(h:HU x.c):x.program.length<=9223372036854775807:=by
 have h1:(AV.sl none (F4 x.program)).fit:=Fx.1 h _ (AB (i:=3) rfl)
 have h2:=h1.1
 rwa [KZ]at h2
def R8{x:Tenant}(h:HU x.c):x.routes.length<=9223372036854775807:=by
 have h1:(AV.sl none (JI x.routes)).fit:=Fx.1 h _ (AB (i:=4) rfl)
 have h2:=h1.1
 rwa [Vd]at h2
def Wp{x:Tenant}{B:Nat}(h:FU x.c<=B):x.name.size<=B:=HD (AB (i:=0) rfl) h
def Jc{x:Tenant}{B:Nat}(h:FU x.c<=B):FU (J8 x.ports)<=B:=Gr (o:=none) (AB (i:=1) rfl) h
def Ht{x:Tenant}{B:Nat}(h:FU x.c<=B):FU (Ma x.wires)<=B:=Gr (o:=none) (AB (i:=2) rfl) h
def HE{x:Tenant}{B:Nat}(h:FU x.c<=B):FU (F4 x.program)<=B:=Gr (o:=none) (AB (i:=3) rfl) h
def NU{x:Tenant}{B:Nat}(h:FU x.c<=B):FU (JI x.routes)<=B:=Gr (o:=none) (AB (i:=4) rfl) h
def Mf{x:Tenant}{B:Nat}(h:FU x.c<=B):FU (JY x.demands)<=B:=Gr (o:=none) (AB (i:=5) rfl) h
def X8(x:Tenant)(o0 o1 o2 o3 o4:Option Nat):(x.cf o0 o1 o2 o3 o4)[0]? =some (.str x.name)/\(x.cf o0 o1 o2 o3 o4)[1]? =some (.sl o0 (J8 x.ports))/\(x.cf o0 o1 o2 o3 o4)[2]? =some (.sl o1 (Ma x.wires))/\(x.cf o0 o1 o2 o3 o4)[3]? =some (.sl o2 (F4 x.program))/\(x.cf o0 o1 o2 o3 o4)[4]? =some (.sl o3 (JI x.routes))/\(x.cf o0 o1 o2 o3 o4)[5]? =some (.sl o4 (JY x.demands)):=⟨rfl,rfl,rfl,rfl,rfl,rfl⟩
def Tenant.z:Tenant:=⟨.empty,[],[],[],[],[]⟩
def Tenant.zero:Fk AA 56=some (.agg (Tenant.z.cf (some 2) (some 2) (some 15) (some 8) (some 4))):=kr
def Tenant.ok(_:Tenant):Prop:=True
def Tenant.rd{a:AV}(h:Rd AA 56 a): ∃x:Tenant,a = .agg x.c/\x.ok:=by
 obtain⟨ps,rfl,hp⟩:=GJ (ts:=[9,51,52,48,53,54]) kr h
 obtain⟨a0,a1,a2,a3,a4,a5,rfl,g0,g1,g2,g3,g4,g5⟩:=SF hp
 obtain⟨v0,rfl,k0⟩:=lq g0
 obtain⟨v1,rfl,k1⟩:=mz g1
 obtain⟨v2,rfl,k2⟩:=mh g2
 obtain⟨v3,rfl,k3⟩:=f0 g3
 obtain⟨v4,rfl,k4⟩:=f_ g4
 obtain⟨v5,rfl,k5⟩:=aU g5
 exact⟨⟨v0,v1,v2,v3,v4,v5⟩,rfl,trivial⟩
@[ext] structure Node where
 name:ByteArray
 box:Bool
 rules:Int
 entries:Int
 deriving DecidableEq,Inhabited
def Node.c(x:Node):List AV:=[.str x.name,.bool x.box,.int .i64 x.rules,.int .i64 x.entries]
def ADn(x:Node):1<=FU x.c:=by
 have h1:1<=(.str x.name:AV).bulk:=by simp[AV.bulk]
 exact AL h1 (Fw (AB (i:=0) rfl))
def kQ(x:Node):x.c.length=4:=rfl
def kR(x:Node):x.c.map borrow1=x.c:=rfl
def kP(x:Node):x.c.any GB=false:=by
 rfl
def cL(x:Node):x.c.take 4=x.c:=rfl
def Node.cf_pure(x:Node):FW x.c=true:=by
 simp[Node.c,FW,AV.pure]
def kT(x:Node):FW x.c=true:=x.cf_pure
def Tu(k:Nat)(x:Node):Fo k x.c=true:=by
 simp[Node.c,Fo,AV.bnd]
def Node.c_bnd(k:Nat)(x:Node):Fo k x.c=true:=Tu k x
def cM{x:Node}{B:Nat}(h:FU x.c<=B):x.name.size<=B:=HD (AB (i:=0) rfl) h
def kS(x:Node):x.c[0]? =some (.str x.name)/\x.c[1]? =some (.bool x.box)/\x.c[2]? =some (.int .i64 x.rules)/\x.c[3]? =some (.int .i64 x.entries):=⟨rfl,rfl,rfl,rfl⟩
def Node.z:Node:=⟨.empty,false,0,0⟩
def Node.zero:Fk AA 140=some (.agg Node.z.c):=kr
def Node.ok(_:Node):Prop:=True
def Node.rd{a:AV}(h:Rd AA 140 a): ∃x:Node,a = .agg x.c/\x.ok:=by
 obtain⟨ps,rfl,hp⟩:=GJ (ts:=[9,4,3,3]) kr h
 obtain⟨a0,a1,a2,a3,rfl,g0,g1,g2,g3⟩:=Li hp
 obtain⟨v0,rfl,k0⟩:=lq g0
 obtain⟨v1,rfl,k1⟩:=Wr (t:=4) kr g1
 obtain⟨v2,rfl,k2⟩:=LK g2
 obtain⟨v3,rfl,k3⟩:=LK g3
 exact⟨⟨v0,v1,v2,v3⟩,rfl,trivial⟩
def Node.eq(x y:Node):KM AA 140 (.agg x.c) (.agg y.c)=some (decide (x=y)):=by
 have e:KM AA 140 (.agg x.c) (.agg y.c)=some ((x.name.toList==y.name.toList)&&((x.box==y.box)&&((x.rules==y.rules)&&((x.entries==y.entries)&&true)))):=kr
 rw[e,Option.some.injEq,A']
 simp[Node.ext_iff,ByteArray.toList_eq,Cs,ByteArray.ext_iff]
def ADm(x y:Node){d:Tmp}{K:Kt}{e:Fs}{H:cj}:IC AA .neq 140 (.agg x.c) (.agg y.c) d K e H=K ((d,.bool !(decide (x=y)))::e) H:=Jw (Node.eq x y)
@[ext] structure Link where
 src:Int
 dst:Int
 capacity:Int
 deriving DecidableEq,Inhabited
def Link.c(x:Link):List AV:=[.int .i64 x.src,.int .i64 x.dst,.int .i64 x.capacity]
def ADr(x:Link):1<=FU x.c:=by
 have h1:1<=(.int .i64 x.src:AV).bulk:=by simp[AV.bulk]
 exact AL h1 (Fw (AB (i:=0) rfl))
def kV(x:Link):x.c.length=3:=rfl
def kW(x:Link):x.c.map borrow1=x.c:=rfl
def kU(x:Link):x.c.any GB=false:=by
 rfl
def cN(x:Link):x.c.take 3=x.c:=rfl
def Link.cf_pure(x:Link):FW x.c=true:=by
 simp[Link.c,FW,AV.pure]
def kY(x:Link):FW x.c=true:=x.cf_pure
def Tv(k:Nat)(x:Link):Fo k x.c=true:=by
 simp[Link.c,Fo,AV.bnd]
def Link.c_bnd(k:Nat)(x:Link):Fo k x.c=true:=Tv k x
def kX(x:Link):x.c[0]? =some (.int .i64 x.src)/\x.c[1]? =some (.int .i64 x.dst)/\x.c[2]? =some (.int .i64 x.capacity):=⟨rfl,rfl,rfl⟩
def Link.z:Link:=⟨0,0,0⟩
def Link.zero:Fk AA 152=some (.agg Link.z.c):=kr
def Link.ok(_:Link):Prop:=True
def Link.rd{a:AV}(h:Rd AA 152 a): ∃x:Link,a = .agg x.c/\x.ok:=by
 obtain⟨ps,rfl,hp⟩:=GJ (ts:=[3,3,3]) kr h
 obtain⟨a0,a1,a2,rfl,g0,g1,g2⟩:=JA hp
 obtain⟨v0,rfl,k0⟩:=LK g0
 obtain⟨v1,rfl,k1⟩:=LK g1
 obtain⟨v2,rfl,k2⟩:=LK g2
 exact⟨⟨v0,v1,v2⟩,rfl,trivial⟩
def Link.eq(x y:Link):KM AA 152 (.agg x.c) (.agg y.c)=some (decide (x=y)):=by
 have e:KM AA 152 (.agg x.c) (.agg y.c)=some ((x.src==y.src)&&((x.dst==y.dst)&&((x.capacity==y.capacity)&&true))):=kr
 rw[e,Option.some.injEq,A']
 simp[Link.ext_iff]
def ADq(x y:Link){d:Tmp}{K:Kt}{e:Fs}{H:cj}:IC AA .neq 152 (.agg x.c) (.agg y.c) d K e H=K ((d,.bool !(decide (x=y)))::e) H:=Jw (Link.eq x y)
@[ext] structure Edge where
 name:ByteArray
 node:Int
 deriving DecidableEq,Inhabited
def Edge.c(x:Edge):List AV:=[.str x.name,.int .i64 x.node]
def ADw(x:Edge):1<=FU x.c:=by
 have h1:1<=(.str x.name:AV).bulk:=by simp[AV.bulk]
 exact AL h1 (Fw (AB (i:=0) rfl))
def ku(x:Edge):x.c.length=2:=rfl
def kv(x:Edge):x.c.map borrow1=x.c:=rfl
def kp(x:Edge):x.c.any GB=false:=by
 rfl
def cX(x:Edge):x.c.take 2=x.c:=rfl
def Edge.cf_pure(x:Edge):FW x.c=true:=by
 simp[Edge.c,FW,AV.pure]
def kx(x:Edge):FW x.c=true:=x.cf_pure
def Ty(k:Nat)(x:Edge):Fo k x.c=true:=by
 simp[Edge.c,Fo,AV.bnd]
def Edge.c_bnd(k:Nat)(x:Edge):Fo k x.c=true:=Ty k x
def cY{x:Edge}{B:Nat}(h:FU x.c<=B):x.name.size<=B:=HD (AB (i:=0) rfl) h
def kw(x:Edge):x.c[0]? =some (.str x.name)/\x.c[1]? =some (.int .i64 x.node):=⟨rfl,rfl⟩
def Edge.z:Edge:=⟨.empty,0⟩
def Edge.zero:Fk AA 96=some (.agg Edge.z.c):=kr
def Edge.ok(_:Edge):Prop:=True
def Edge.rd{a:AV}(h:Rd AA 96 a): ∃x:Edge,a = .agg x.c/\x.ok:=by
 obtain⟨ps,rfl,hp⟩:=GJ (ts:=[9,3]) kr h
 obtain⟨a0,a1,rfl,g0,g1⟩:=IA hp
 obtain⟨v0,rfl,k0⟩:=lq g0
 obtain⟨v1,rfl,k1⟩:=LK g1
 exact⟨⟨v0,v1⟩,rfl,trivial⟩
def Edge.eq(x y:Edge):KM AA 96 (.agg x.c) (.agg y.c)=some (decide (x=y)):=by
 have e:KM AA 96 (.agg x.c) (.agg y.c)=some ((x.name.toList==y.name.toList)&&((x.node==y.node)&&true)):=kr
 rw[e,Option.some.injEq,A']
 simp[Edge.ext_iff,ByteArray.toList_eq,Cs,ByteArray.ext_iff]
def ADv(x y:Edge){d:Tmp}{K:Kt}{e:Fs}{H:cj}:IC AA .neq 96 (.agg x.c) (.agg y.c) d K e H=K ((d,.bool !(decide (x=y)))::e) H:=Jw (Edge.eq x y)
def J9(l:List Node):List AV:=l.map λx => .agg x.c
def tZ(l:List Node):(J9 l).length=l.length:=by simp[J9]
def Ln{l:List Node}{i:Nat}{x:Node}(h:l[i]? =some x):(J9 l)[i]? =some (.agg x.c):=by simp[J9,h]
def tY{l:List Node}{x:Node}(h:x∈l): .agg x.c∈J9 l:=by rw[J9];exact AO.2 ⟨x,h,rfl⟩
def Qr(l:List Node):FW (J9 l)=true:=by
 induction l with
 |nil=>rfl
 |cons x xs ih=>simpa [J9,FW,AV.pure]using⟨kT x,ih⟩
def St(k:Nat)(l:List Node):Fo k (J9 l)=true:=Hg λx=>Node.c_bnd k x
def ABO{l:List Node}{B:Nat}(h:FU (J9 l)<=B){x:Node}(hx:x∈l):(.agg x.c:AV).bulk<=B:=AL (Fw (tY hx)) h
def gH{l:List Node}{B:Nat}(h:FU (J9 l)<=B):l.length<=B:=by
 refine AL ?_ h
 exact HK (f:=λ(x:Node) => .agg x.c) (λx=>by exact ADn x) l
def ABN(l:List Node):Prop:=l.length*40<=reachBytes /\ ∀x∈l,x.ok
def m5{a:AV}(h:Rd AA 22 a): ∃l,a = .sl none (J9 l)/\ABN l:=by
 obtain⟨l,h1,h2,h3⟩:=IW (f:=λ(x:Node) => .agg x.c) (ok:=λ(x:Node)=>x.ok) (P:=AA) (t:=22) (e:=140) kr (λx hx=>Node.rd hx) h
 exact⟨l,h1,by rw[show AA.bytesOf 140=40 by kernel_rfl]at h2;exact h2,h3⟩
def NE(l:List Link):List AV:=l.map λx => .agg x.c
def tc(l:List Link):(NE l).length=l.length:=by simp[NE]
def Su{l:List Link}{i:Nat}{x:Link}(h:l[i]? =some x):(NE l)[i]? =some (.agg x.c):=by simp[NE,h]
def Qs(l:List Link):FW (NE l)=true:=by
 induction l with
 |nil=>rfl
 |cons x xs ih=>simpa [NE,FW,AV.pure]using⟨kY x,ih⟩
def Sv(k:Nat)(l:List Link):Fo k (NE l)=true:=Hg λx=>Link.c_bnd k x
def ABQ{l:List Link}{B:Nat}(h:FU (NE l)<=B):l.length<=B:=by
 refine AL ?_ h
 exact HK (f:=λ(x:Link) => .agg x.c) (λx=>by exact ADr x) l
def ABP(l:List Link):Prop:=l.length*24<=reachBytes /\ ∀x∈l,x.ok
def m6{a:AV}(h:Rd AA 23 a): ∃l,a = .sl none (NE l)/\ABP l:=by
 obtain⟨l,h1,h2,h3⟩:=IW (f:=λ(x:Link) => .agg x.c) (ok:=λ(x:Link)=>x.ok) (P:=AA) (t:=23) (e:=152) kr (λx hx=>Link.rd hx) h
 exact⟨l,h1,by rw[show AA.bytesOf 152=24 by kernel_rfl]at h2;exact h2,h3⟩
def JS(l:List Edge):List AV:=l.map λx => .agg x.c
def ti(l:List Edge):(JS l).length=l.length:=by simp[JS]
def Lo{l:List Edge}{i:Nat}{x:Edge}(h:l[i]? =some x):(JS l)[i]? =some (.agg x.c):=by simp[JS,h]
def th{l:List Edge}{x:Edge}(h:x∈l): .agg x.c∈JS l:=by rw[JS];exact AO.2 ⟨x,h,rfl⟩
def Qu(l:List Edge):FW (JS l)=true:=by
 induction l with
 |nil=>rfl
 |cons x xs ih=>simpa [JS,FW,AV.pure]using⟨kx x,ih⟩
def Sx(k:Nat)(l:List Edge):Fo k (JS l)=true:=Hg λx=>Edge.c_bnd k x
def ABT{l:List Edge}{B:Nat}(h:FU (JS l)<=B){x:Edge}(hx:x∈l):(.agg x.c:AV).bulk<=B:=AL (Fw (th hx)) h
def Rl{l:List Edge}{B:Nat}(h:FU (JS l)<=B):l.length<=B:=by
 refine AL ?_ h
 exact HK (f:=λ(x:Edge) => .agg x.c) (λx=>by exact ADw x) l
def ABS(l:List Edge):Prop:=l.length*24<=reachBytes /\ ∀x∈l,x.ok
def nD{a:AV}(h:Rd AA 24 a): ∃l,a = .sl none (JS l)/\ABS l:=by
 obtain⟨l,h1,h2,h3⟩:=IW (f:=λ(x:Edge) => .agg x.c) (ok:=λ(x:Edge)=>x.ok) (P:=AA) (t:=24) (e:=96) kr (λx hx=>Edge.rd hx) h
 exact⟨l,h1,by rw[show AA.bytesOf 96=24 by kernel_rfl]at h2;exact h2,h3⟩
@[ext] structure Network where
 nodes:List Node
 links:List Link
 edges:List Edge
 deriving DecidableEq,Inhabited
def Network.cf(x:Network)(o0 o1 o2:Option Nat):List AV:=[.sl o0 (J9 x.nodes),.sl o1 (NE x.links),.sl o2 (JS x.edges)]
abbrev Network.c(x:Network):List AV:=x.cf none none none
def Ww(x:Network)(o0 o1 o2:Option Nat):(x.cf o0 o1 o2).length=3:=rfl
def Wx(x:Network)(o0 o1 o2:Option Nat):(x.cf o0 o1 o2).map borrow1=x.cf none none none:=rfl
def Wv(x:Network)(o0 o1 o2:Option Nat):(x.cf o0 o1 o2).any GB=(o0.isSome||o1.isSome||o2.isSome):=by
 cases o0<;>cases o1<;>cases o2<;>rfl
def UK(x:Network)(o0 o1 o2:Option Nat):(x.cf o0 o1 o2).take 3=x.cf o0 o1 o2:=rfl
def Network.cf_pure(x:Network)(o0 o1 o2:Option Nat):FW (x.cf o0 o1 o2)=true:=by
 simp[Network.cf,FW,AV.pure,Qu,Qs,Qr]
def PR(k:Nat)(x:Network)(o0 o1 o2:Option Nat):Fo k (x.cf o0 o1 o2)=true:=by
 simp[Network.cf,Fo,AV.bnd,Sx,Sv,St]
def Network.c_bnd(k:Nat)(x:Network):Fo k x.c=true:=PR k x none none none
def NW{x:Network}{B:Nat}(h:FU x.c<=B):FU (J9 x.nodes)<=B:=Gr (o:=none) (AB (i:=0) rfl) h
def TF{x:Network}{B:Nat}(h:FU x.c<=B):FU (NE x.links)<=B:=Gr (o:=none) (AB (i:=1) rfl) h
def NX{x:Network}{B:Nat}(h:FU x.c<=B):FU (JS x.edges)<=B:=Gr (o:=none) (AB (i:=2) rfl) h
def Wy(x:Network)(o0 o1 o2:Option Nat):(x.cf o0 o1 o2)[0]? =some (.sl o0 (J9 x.nodes))/\(x.cf o0 o1 o2)[1]? =some (.sl o1 (NE x.links))/\(x.cf o0 o1 o2)[2]? =some (.sl o2 (JS x.edges)):=⟨rfl,rfl,rfl⟩
def Network.z:Network:=⟨[],[],[]⟩
def Network.ok(_:Network):Prop:=True
def Network.rd{a:AV}(h:Rd AA 26 a): ∃x:Network,a = .agg x.c/\x.ok:=by
 obtain⟨ps,rfl,hp⟩:=GJ (ts:=[22,23,24]) kr h
 obtain⟨a0,a1,a2,rfl,g0,g1,g2⟩:=JA hp
 obtain⟨v0,rfl,k0⟩:=m5 g0
 obtain⟨v1,rfl,k1⟩:=m6 g1
 obtain⟨v2,rfl,k2⟩:=nD g2
 exact⟨⟨v0,v1,v2⟩,rfl,trivial⟩
@[ext] structure Contract where
 src:ByteArray
 dst:ByteArray
 fromPort:Int
 toPort:Int
 pred:Pred
 via:Int
 capacity:Int
 price:Int
 deriving Inhabited
def Contract.cf(x:Contract)(o0:Option Nat):List AV:=[.str x.src,.str x.dst,.int .i64 x.fromPort,.int .i64 x.toPort,.int .i64 x.pred.kind,.str x.pred.field,.int .i64 x.pred.n,.int .i64 x.pred.m,.sl o0 (GH x.pred.args),.int .i64 x.via,.int .i64 x.capacity,.int .i64 x.price]
abbrev Contract.c(x:Contract):List AV:=x.cf none
def cm(x:Contract):1<=FU x.c:=by
 have h1:1<=(.str x.src:AV).bulk:=by simp[AV.bulk]
 exact AL h1 (Fw (AB (i:=0) rfl))
def UU(x:Contract)(o0:Option Nat):(x.cf o0).length=12:=rfl
def UV(x:Contract)(o0:Option Nat):(x.cf o0).map borrow1=x.cf none:=rfl
def UT(x:Contract)(o0:Option Nat):(x.cf o0).any GB=(o0.isSome):=by
 cases o0<;>rfl
def TJ(x:Contract)(o0:Option Nat):(x.cf o0).take 12=x.cf o0:=rfl
def Contract.cf_pure(x:Contract)(o0:Option Nat):FW (x.cf o0)=true:=by
 simp[Contract.cf,FW,AV.pure,Jh]
def UX(x:Contract):FW x.c=true:=x.cf_pure none
def OK(k:Nat)(x:Contract)(o0:Option Nat):Fo k (x.cf o0)=true:=by
 simp[Contract.cf,Fo,AV.bnd,Kc]
def Contract.c_bnd(k:Nat)(x:Contract):Fo k x.c=true:=OK k x none
def TK{x:Contract}{B:Nat}(h:FU x.c<=B):FU x.pred.c<=B:=by
 have h1:=Hc x.c 4 5
 rw[show(x.c.drop 4).take 5=x.pred.c from rfl]at h1
 omega
def UW(x:Contract)(o0:Option Nat):(x.cf o0)[0]? =some (.str x.src)/\(x.cf o0)[1]? =some (.str x.dst)/\(x.cf o0)[2]? =some (.int .i64 x.fromPort)/\(x.cf o0)[3]? =some (.int .i64 x.toPort)/\(x.cf o0)[9]? =some (.int .i64 x.via)/\(x.cf o0)[10]? =some (.int .i64 x.capacity)/\(x.cf o0)[11]? =some (.int .i64 x.price):=⟨rfl,rfl,rfl,rfl,rfl,rfl,rfl⟩
def OW(x:Contract)(o0:Option Nat):((x.cf o0).drop 4).take 5=x.pred.cf o0:=rfl
def Contract.z:Contract:=⟨.empty,.empty,0,0,⟨0,.empty,0,0,[]⟩,0,0,0⟩
def Contract.zero:Fk AA 68=some (.agg (Contract.z.cf (some 5))):=kr
def Contract.ok(_:Contract):Prop:=True
def Contract.rd{a:AV}(h:Rd AA 68 a): ∃x:Contract,a = .agg x.c/\x.ok:=by
 obtain⟨ps,rfl,hp⟩:=GJ (ts:=[9,9,3,3,66,3,3,3]) kr h
 obtain⟨a0,a1,a2,a3,a4,a5,a6,a7,rfl,g0,g1,g2,g3,g4,g5,g6,g7⟩:=cF hp
 obtain⟨v0,rfl,k0⟩:=lq g0
 obtain⟨v1,rfl,k1⟩:=lq g1
 obtain⟨v2,rfl,k2⟩:=LK g2
 obtain⟨v3,rfl,k3⟩:=LK g3
 obtain⟨v4,rfl,k4⟩:=Pred.rd g4
 obtain⟨v5,rfl,k5⟩:=LK g5
 obtain⟨v6,rfl,k6⟩:=LK g6
 obtain⟨v7,rfl,k7⟩:=LK g7
 exact⟨⟨v0,v1,v2,v3,v4,v5,v6,v7⟩,rfl,trivial⟩
def GL(l:List Fld):List AV:=l.map λx => .agg x.c
def Ov(l:List Fld):(GL l).length=l.length:=by simp[GL]
def II{l:List Fld}{i:Nat}{x:Fld}(h:l[i]? =some x):(GL l)[i]? =some (.agg x.c):=by simp[GL,h]
def Vm{l:List Fld}{x:Fld}(h:x∈l): .agg x.c∈GL l:=by rw[GL];exact AO.2 ⟨x,h,rfl⟩
def m9(l:List Fld): ∀x∈GL l,x.cells.length=3:=by
 intro x hx;obtain⟨y,_,rfl⟩:=AO.1 hx;rfl
def gP(l:List Fld):(∀x∈GL l,x.cells.length=3)=True:=eq_true (m9 l)
def ABR:GL []=[]:=rfl
def Sw(l:List Fld):FW (GL l)=true:=by
 induction l with
 |nil=>rfl
 |cons x xs ih=>simpa [GL,FW,AV.pure]using⟨pq x,ih⟩
def Vn(k:Nat)(l:List Fld):Fo k (GL l)=true:=Hg λx=>Fld.c_bnd k x
def AFH{l:List Fld}{B:Nat}(h:FU (GL l)<=B){x:Fld}(hx:x∈l):(.agg x.c:AV).bulk<=B:=AL (Fw (Vm hx)) h
def Ph{l:List Fld}{B:Nat}(h:FU (GL l)<=B):l.length<=B:=by
 refine AL ?_ h
 exact HK (f:=λ(x:Fld) => .agg x.c) (λx=>by exact AGf x) l
def AFG(l:List Fld):Prop:=l.length*32<=reachBytes /\ ∀x∈l,x.ok
def Yz{a:AV}(h:Rd AA 27 a): ∃l,a = .sl none (GL l)/\AFG l:=by
 obtain⟨l,h1,h2,h3⟩:=IW (f:=λ(x:Fld) => .agg x.c) (ok:=λ(x:Fld)=>x.ok) (P:=AA) (t:=27) (e:=99) kr (λx hx=>Fld.rd hx) h
 exact⟨l,h1,by rw[show AA.bytesOf 99=32 by kernel_rfl]at h2;exact h2,h3⟩
def HX(l:List Tenant):List AV:=l.map λx => .agg x.c
def Ta(l:List Tenant):(HX l).length=l.length:=by simp[HX]
def F5{l:List Tenant}{i:Nat}{x:Tenant}(h:l[i]? =some x):(HX l)[i]? =some (.agg x.c):=by simp[HX,h]
def fw{l:List Tenant}{x:Tenant}(h:x∈l): .agg x.c∈HX l:=by rw[HX];exact AO.2 ⟨x,h,rfl⟩
def Ri(l:List Tenant):FW (HX l)=true:=by
 induction l with
 |nil=>rfl
 |cons x xs ih=>simpa [HX,FW,AV.pure]using⟨X9 x,ih⟩
def Tb(k:Nat)(l:List Tenant):Fo k (HX l)=true:=Hg λx=>Tenant.c_bnd k x
def L6{l:List Tenant}{B:Nat}(h:FU (HX l)<=B){x:Tenant}(hx:x∈l):(.agg x.c:AV).bulk<=B:=AL (Fw (fw hx)) h
def mj{l:List Tenant}{B:Nat}(h:FU (HX l)<=B):l.length<=B:=by
 refine AL ?_ h
 exact HK (f:=λ(x:Tenant) => .agg x.c) (λx=>by exact pO x) l
def mi(l:List Tenant):Prop:=l.length*136<=reachBytes /\ ∀x∈l,x.ok
def aM{a:AV}(h:Rd AA 28 a): ∃l,a = .sl none (HX l)/\mi l:=by
 obtain⟨l,h1,h2,h3⟩:=IW (f:=λ(x:Tenant) => .agg x.c) (ok:=λ(x:Tenant)=>x.ok) (P:=AA) (t:=28) (e:=56) kr (λx hx=>Tenant.rd hx) h
 exact⟨l,h1,by rw[show AA.bytesOf 56=136 by kernel_rfl]at h2;exact h2,h3⟩
def F8(l:List Contract):List AV:=l.map λx => .agg x.c
def Mp(l:List Contract):(F8 l).length=l.length:=by simp[F8]
def Gi{l:List Contract}{i:Nat}{x:Contract}(h:l[i]? =some x):(F8 l)[i]? =some (.agg x.c):=by simp[F8,h]
def Xd{l:List Contract}{x:Contract}(h:x∈l): .agg x.c∈F8 l:=by rw[F8];exact AO.2 ⟨x,h,rfl⟩
def T7(l:List Contract): ∀x∈F8 l,x.cells.length=12:=by
 intro x hx;obtain⟨y,_,rfl⟩:=AO.1 hx;rfl
def Sy(l:List Contract):(∀x∈F8 l,x.cells.length=12)=True:=eq_true (T7 l)
def T6(l:List Contract)(k:Nat):(F8 l).take k=F8 (l.take k):=by simp[F8]
def Vr(a:List Contract)(x:Contract):F8 a++[.agg x.c]=F8 (a++[x]):=by simp[F8]
def Ow(l:List Contract):FW (F8 l)=true:=by
 induction l with
 |nil=>rfl
 |cons x xs ih=>simpa [F8,FW,AV.pure]using⟨UX x,ih⟩
def QK(k:Nat)(l:List Contract):Fo k (F8 l)=true:=Hg λx=>Contract.c_bnd k x
def aW{l:List Contract}{B:Nat}(h:FU (F8 l)<=B){x:Contract}(hx:x∈l):(.agg x.c:AV).bulk<=B:=AL (Fw (Xd hx)) h
def I8{l:List Contract}{B:Nat}(h:FU (F8 l)<=B):l.length<=B:=by
 refine AL ?_ h
 exact HK (f:=λ(x:Contract) => .agg x.c) (λx=>by exact cm x) l
def aV(l:List Contract):Prop:=l.length*136<=reachBytes /\ ∀x∈l,x.ok
def Vs{a:AV}(h:Rd AA 29 a): ∃l,a = .sl none (F8 l)/\aV l:=by
 obtain⟨l,h1,h2,h3⟩:=IW (f:=λ(x:Contract) => .agg x.c) (ok:=λ(x:Contract)=>x.ok) (P:=AA) (t:=29) (e:=68) kr (λx hx=>Contract.rd hx) h
 exact⟨l,h1,by rw[show AA.bytesOf 68=136 by kernel_rfl]at h2;exact h2,h3⟩
@[ext] structure Setup where
 network:Network
 fields:List Fld
 tenants:List Tenant
 contracts:List Contract
 deriving Inhabited
def Setup.cf(x:Setup)(o0 o1 o2 o3 o4 o5:Option Nat):List AV:=[.sl o0 (J9 x.network.nodes),.sl o1 (NE x.network.links),.sl o2 (JS x.network.edges),.sl o3 (GL x.fields),.sl o4 (HX x.tenants),.sl o5 (F8 x.contracts)]
abbrev Setup.c(x:Setup):List AV:=x.cf none none none none none none
def bx(x:Setup)(o0 o1 o2 o3 o4 o5:Option Nat):(x.cf o0 o1 o2 o3 o4 o5).length=6:=rfl
def b5(x:Setup)(o0 o1 o2 o3 o4 o5:Option Nat):(x.cf o0 o1 o2 o3 o4 o5).map borrow1=x.cf none none none none none none:=rfl
def bw(x:Setup)(o0 o1 o2 o3 o4 o5:Option Nat):(x.cf o0 o1 o2 o3 o4 o5).any GB=(o0.isSome||o1.isSome||o2.isSome||o3.isSome||o4.isSome||o5.isSome):=by
 cases o0<;>cases o1<;>cases o2<;>cases o3<;>cases o4<;>cases o5<;>rfl
def YB(x:Setup)(o0 o1 o2 o3 o4 o5:Option Nat):(x.cf o0 o1 o2 o3 o4 o5).take 6=x.cf o0 o1 o2 o3 o4 o5:=rfl
def Setup.cf_pure(x:Setup)(o0 o1 o2 o3 o4 o5:Option Nat):FW (x.cf o0 o1 o2 o3 o4 o5)=true:=by
 simp[Setup.cf,FW,AV.pure,Ow,Qu,Sw,Qs,Qr,Ri]
def SC(k:Nat)(x:Setup)(o0 o1 o2 o3 o4 o5:Option Nat):Fo k (x.cf o0 o1 o2 o3 o4 o5)=true:=by
 simp[Setup.cf,Fo,AV.bnd,QK,Sx,Vn,Sv,St,Tb]
def Setup.c_bnd(k:Nat)(x:Setup):Fo k x.c=true:=SC k x none none none none none none
def SB{x:Setup}(h:HU x.c):x.tenants.length<=9223372036854775807:=by
 have h1:(AV.sl none (HX x.tenants)).fit:=Fx.1 h _ (AB (i:=4) rfl)
 have h2:=h1.1
 rwa [Ta]at h2
def P9{x:Setup}(h:HU x.c):x.contracts.length<=9223372036854775807:=by
 have h1:(AV.sl none (F8 x.contracts)).fit:=Fx.1 h _ (AB (i:=5) rfl)
 have h2:=h1.1
 rwa [Mp]at h2
def NV{x:Setup}{B:Nat}(h:FU x.c<=B):FU x.network.c<=B:=by
 have h1:=Hc x.c 0 3
 rw[show(x.c.drop 0).take 3=x.network.c from rfl]at h1
 omega
def KK{x:Setup}{B:Nat}(h:FU x.c<=B):FU (JS x.network.edges)<=B:=Gr (o:=none) (AB (i:=2) rfl) h
def Hv{x:Setup}{B:Nat}(h:FU x.c<=B):FU (GL x.fields)<=B:=Gr (o:=none) (AB (i:=3) rfl) h
def Hk{x:Setup}{B:Nat}(h:FU x.c<=B):FU (HX x.tenants)<=B:=Gr (o:=none) (AB (i:=4) rfl) h
def G5{x:Setup}{B:Nat}(h:FU x.c<=B):FU (F8 x.contracts)<=B:=Gr (o:=none) (AB (i:=5) rfl) h
def b6(x:Setup)(o0 o1 o2 o3 o4 o5:Option Nat):(x.cf o0 o1 o2 o3 o4 o5)[0]? =some (.sl o0 (J9 x.network.nodes))/\(x.cf o0 o1 o2 o3 o4 o5)[2]? =some (.sl o2 (JS x.network.edges))/\(x.cf o0 o1 o2 o3 o4 o5)[3]? =some (.sl o3 (GL x.fields))/\(x.cf o0 o1 o2 o3 o4 o5)[4]? =some (.sl o4 (HX x.tenants))/\(x.cf o0 o1 o2 o3 o4 o5)[5]? =some (.sl o5 (F8 x.contracts)):=⟨rfl,rfl,rfl,rfl,rfl⟩
def OT(x:Setup)(o0 o1 o2 o3 o4 o5:Option Nat):(x.cf o0 o1 o2 o3 o4 o5).take 3=x.network.cf o0 o1 o2:=rfl
def P_(x:Setup)(v:List Fld)(o0 o1 o2 o3 o4 o5:Option Nat)(p:Option Nat):splice (x.cf o0 o1 o2 o3 o4 o5) 3 [.sl p (GL v)]=({ x with fields:=v }:Setup).cf o0 o1 o2 p o4 o5:=rfl
def OA(x:Setup)(v:List Contract)(o0 o1 o2 o3 o4 o5:Option Nat)(p:Option Nat):splice (x.cf o0 o1 o2 o3 o4 o5) 5 [.sl p (F8 v)]=({ x with contracts:=v }:Setup).cf o0 o1 o2 o3 o4 p:=rfl
def Setup.z:Setup:=⟨⟨[],[],[]⟩,[],[],[]⟩
def Setup.zero:Fk AA 31=some (.agg (Setup.z.cf (some 4) (some 3) (some 2) (some 3) (some 6) (some 12))):=kr
def Setup.ok(_:Setup):Prop:=True
def Setup.rd{a:AV}(h:Rd AA 31 a): ∃x:Setup,a = .agg x.c/\x.ok:=by
 obtain⟨ps,rfl,hp⟩:=GJ (ts:=[26,27,28,29]) kr h
 obtain⟨a0,a1,a2,a3,rfl,g0,g1,g2,g3⟩:=Li hp
 obtain⟨v0,rfl,k0⟩:=Network.rd g0
 obtain⟨v1,rfl,k1⟩:=Yz g1
 obtain⟨v2,rfl,k2⟩:=aM g2
 obtain⟨v3,rfl,k3⟩:=Vs g3
 exact⟨⟨v0,v1,v2,v3⟩,rfl,trivial⟩
def GK(l:List Int):List AV:=l.map λx => .int .i64 x
def HR(l:List Int):(GK l).length=l.length:=by simp[GK]
def Gl{l:List Int}{i:Nat}{x:Int}(h:l[i]? =some x):(GK l)[i]? =some (.int .i64 x):=by simp[GK,h]
def Vl(l:List Int): ∀x∈GK l,x.cells.length=1:=by
 intro x hx;obtain⟨y,_,rfl⟩:=AO.1 hx;rfl
def gK(l:List Int):(∀x∈GK l,x.cells.length=1)=True:=eq_true (Vl l)
def m7(l:List Int)(k:Nat):(GK l).take k=GK (l.take k):=by simp[GK]
def te(a:List Int)(x:Int):GK a++[.int .i64 x]=GK (a++[x]):=by simp[GK]
def Jp(l:List Int):FW (GK l)=true:=by
 induction l with
 |nil=>rfl
 |cons x xs ih=>simpa [GK,FW,AV.pure]using ih
def L8(k:Nat)(l:List Int):Fo k (GK l)=true:=Hg λx=>rfl
def AFE{l:List Int}{B:Nat}(h:FU (GK l)<=B):l.length<=B:=by
 refine AL ?_ h
 exact HK (f:=λ(x:Int) => .int .i64 x) (λx=>by simp[AV.bulk]) l
def AFD(l:List Int):Prop:=l.length*8<=reachBytes /\ ∀x∈l,IntKind.i64.min<=x/\x<=IntKind.i64.max
def Pg{a:AV}(h:Rd AA 45 a): ∃l,a = .sl none (GK l)/\AFD l:=by
 obtain⟨l,h1,h2,h3⟩:=IW (f:=λ(x:Int) => .int .i64 x) (ok:=λ(x:Int)=>IntKind.i64.min<=x/\x<=IntKind.i64.max) (P:=AA) (t:=45) (e:=3) kr (λx hx=>LK hx) h
 exact⟨l,h1,by rw[show AA.bytesOf 3=8 by kernel_rfl]at h2;exact h2,h3⟩
@[ext] structure Variable where
 name:ByteArray
 family:Int
 widths:List Int
 n:Int
 m:Int
 deriving DecidableEq,Inhabited
def Variable.cf(x:Variable)(o0:Option Nat):List AV:=[.str x.name,.int .i64 x.family,.sl o0 (GK x.widths),.int .i64 x.n,.int .i64 x.m]
abbrev Variable.c(x:Variable):List AV:=x.cf none
def UG(x:Variable)(o0:Option Nat):(x.cf o0).length=5:=rfl
def UH(x:Variable)(o0:Option Nat):(x.cf o0).map borrow1=x.cf none:=rfl
def UF(x:Variable)(o0:Option Nat):(x.cf o0).any GB=(o0.isSome):=by
 cases o0<;>rfl
def TD(x:Variable)(o0:Option Nat):(x.cf o0).take 5=x.cf o0:=rfl
def Variable.cf_pure(x:Variable)(o0:Option Nat):FW (x.cf o0)=true:=by
 simp[Variable.cf,FW,AV.pure,Jp]
def UJ(x:Variable):FW x.c=true:=x.cf_pure none
def OH(k:Nat)(x:Variable)(o0:Option Nat):Fo k (x.cf o0)=true:=by
 simp[Variable.cf,Fo,AV.bnd,L8]
def Variable.c_bnd(k:Nat)(x:Variable):Fo k x.c=true:=OH k x none
def UI(x:Variable)(o0:Option Nat):(x.cf o0)[0]? =some (.str x.name)/\(x.cf o0)[1]? =some (.int .i64 x.family)/\(x.cf o0)[2]? =some (.sl o0 (GK x.widths))/\(x.cf o0)[3]? =some (.int .i64 x.n)/\(x.cf o0)[4]? =some (.int .i64 x.m):=⟨rfl,rfl,rfl,rfl,rfl⟩
def Variable.z:Variable:=⟨.empty,0,[],0,0⟩
def Variable.zero:Fk AA 278=some (.agg (Variable.z.cf (some 1))):=kr
def Variable.ok(_:Variable):Prop:=True
@[ext] structure Sizes where
 nodes:Int
 depth:Int
 deriving DecidableEq,Inhabited
def Sizes.c(x:Sizes):List AV:=[.int .i64 x.nodes,.int .i64 x.depth]
def bq(x:Sizes):x.c.length=2:=rfl
def bt(x:Sizes):x.c.map borrow1=x.c:=rfl
def bo(x:Sizes):x.c.any GB=false:=by
 rfl
def YA(x:Sizes):x.c.take 2=x.c:=rfl
def Sizes.cf_pure(x:Sizes):FW x.c=true:=by
 simp[Sizes.c,FW,AV.pure]
def SA(k:Nat)(x:Sizes):Fo k x.c=true:=by
 simp[Sizes.c,Fo,AV.bnd]
def Sizes.c_bnd(k:Nat)(x:Sizes):Fo k x.c=true:=SA k x
def bu(x:Sizes):x.c[0]? =some (.int .i64 x.nodes)/\x.c[1]? =some (.int .i64 x.depth):=⟨rfl,rfl⟩
def P8(x:Sizes)(v:Int):Hq x.c [.int .i64 v]=({ x with nodes:=v }:Sizes).c:=rfl
def RE(x:Sizes)(v:Int):splice x.c 1 [.int .i64 v]=({ x with depth:=v }:Sizes).c:=rfl
def Sizes.z:Sizes:=⟨0,0⟩
def Sizes.zero:Fk AA 264=some (.agg Sizes.z.c):=kr
def Sizes.ok(_:Sizes):Prop:=True
@[ext] structure Entry where
 var:ByteArray
 key:List Int
 n:Int
 at_:Int
 deriving DecidableEq,Inhabited
def Entry.cf(x:Entry)(o0:Option Nat):List AV:=[.str x.var,.sl o0 (GK x.key),.int .i64 x.n,.int .i64 x.at_]
abbrev Entry.c(x:Entry):List AV:=x.cf none
def yh(x:Entry):1<=FU x.c:=by
 have h1:1<=(.str x.var:AV).bulk:=by simp[AV.bulk]
 exact AL h1 (Fw (AB (i:=0) rfl))
def cT(x:Entry)(o0:Option Nat):(x.cf o0).length=4:=rfl
def cU(x:Entry)(o0:Option Nat):(x.cf o0).map borrow1=x.cf none:=rfl
def cR(x:Entry)(o0:Option Nat):(x.cf o0).any GB=(o0.isSome):=by
 cases o0<;>rfl
def YM(x:Entry)(o0:Option Nat):(x.cf o0).take 4=x.cf o0:=rfl
def Entry.cf_pure(x:Entry)(o0:Option Nat):FW (x.cf o0)=true:=by
 simp[Entry.cf,FW,AV.pure,Jp]
def SK(x:Entry):FW x.c=true:=x.cf_pure none
def SJ(k:Nat)(x:Entry)(o0:Option Nat):Fo k (x.cf o0)=true:=by
 simp[Entry.cf,Fo,AV.bnd,L8]
def Entry.c_bnd(k:Nat)(x:Entry):Fo k x.c=true:=SJ k x none
def cW{x:Entry}{B:Nat}(h:FU x.c<=B):FU (GK x.key)<=B:=Gr (o:=none) (AB (i:=1) rfl) h
def cV(x:Entry)(o0:Option Nat):(x.cf o0)[0]? =some (.str x.var)/\(x.cf o0)[1]? =some (.sl o0 (GK x.key))/\(x.cf o0)[2]? =some (.int .i64 x.n)/\(x.cf o0)[3]? =some (.int .i64 x.at_):=⟨rfl,rfl,rfl,rfl⟩
def SI(x:Entry)(v:ByteArray)(o0:Option Nat):Hq (x.cf o0) [.str v]=({ x with var:=v }:Entry).cf o0:=rfl
def TH(x:Entry)(v:List Int)(o0:Option Nat)(p:Option Nat):splice (x.cf o0) 1 [.sl p (GK v)]=({ x with key:=v }:Entry).cf p:=rfl
def Entry.z:Entry:=⟨.empty,[],0,0⟩
def Entry.zero:Fk AA 107=some (.agg (Entry.z.cf (some 1))):=kr
def Entry.ok(_:Entry):Prop:=True
def Entry.rd{a:AV}(h:Rd AA 107 a): ∃x:Entry,a = .agg x.c/\x.ok:=by
 obtain⟨ps,rfl,hp⟩:=GJ (ts:=[9,45,3,3]) kr h
 obtain⟨a0,a1,a2,a3,rfl,g0,g1,g2,g3⟩:=Li hp
 obtain⟨v0,rfl,k0⟩:=lq g0
 obtain⟨v1,rfl,k1⟩:=Pg g1
 obtain⟨v2,rfl,k2⟩:=LK g2
 obtain⟨v3,rfl,k3⟩:=LK g3
 exact⟨⟨v0,v1,v2,v3⟩,rfl,trivial⟩
@[ext] structure Delivery where
 tenant:Int
 head:Head
 chain:List Int
 deriving DecidableEq,Inhabited
def Delivery.cf(x:Delivery)(o0:Option Nat):List AV:=[.int .i64 x.tenant,.int .i64 x.head.h0,.int .i64 x.head.h1,.int .i64 x.head.h2,.int .i64 x.head.h3,.int .i64 x.head.h4,.int .i64 x.head.h5,.int .i64 x.head.h6,.int .i64 x.head.h7,.int .i64 x.head.h8,.int .i64 x.head.h9,.sl o0 (GK x.chain)]
abbrev Delivery.c(x:Delivery):List AV:=x.cf none
def UP(x:Delivery)(o0:Option Nat):(x.cf o0).length=12:=rfl
def UQ(x:Delivery)(o0:Option Nat):(x.cf o0).map borrow1=x.cf none:=rfl
def UO(x:Delivery)(o0:Option Nat):(x.cf o0).any GB=(o0.isSome):=by
 cases o0<;>rfl
def TI(x:Delivery)(o0:Option Nat):(x.cf o0).take 12=x.cf o0:=rfl
def Delivery.cf_pure(x:Delivery)(o0:Option Nat):FW (x.cf o0)=true:=by
 simp[Delivery.cf,FW,AV.pure,Jp]
def US(x:Delivery):FW x.c=true:=x.cf_pure none
def OJ(k:Nat)(x:Delivery)(o0:Option Nat):Fo k (x.cf o0)=true:=by
 simp[Delivery.cf,Fo,AV.bnd,L8]
def Delivery.c_bnd(k:Nat)(x:Delivery):Fo k x.c=true:=OJ k x none
def UR(x:Delivery)(o0:Option Nat):(x.cf o0)[0]? =some (.int .i64 x.tenant)/\(x.cf o0)[1]? =some (.int .i64 x.head.h0)/\(x.cf o0)[11]? =some (.sl o0 (GK x.chain)):=⟨rfl,rfl,rfl⟩
def NY(x:Delivery)(v:Int)(o0:Option Nat):Hq (x.cf o0) [.int .i64 v]=({ x with tenant:=v }:Delivery).cf o0:=rfl
def OV(x:Delivery)(o0:Option Nat):((x.cf o0).drop 1).take 10=x.head.c:=rfl
def PU(x:Delivery)(v:Head)(o0:Option Nat):splice (x.cf o0) 1 v.c=({ x with head:=v }:Delivery).cf o0:=rfl
def OU(x:Delivery)(v:List Int)(o0:Option Nat)(p:Option Nat):splice (x.cf o0) 11 [.sl p (GK v)]=({ x with chain:=v }:Delivery).cf p:=rfl
def Delivery.z:Delivery:=⟨0,⟨0,0,0,0,0,0,0,0,0,0⟩,[]⟩
def Delivery.zero:Fk AA 72=some (.agg (Delivery.z.cf (some 1))):=kr
def Delivery.ok(_:Delivery):Prop:=True
@[ext] structure Arrival where
 head:Head
 tick:Int
 deriving DecidableEq,Inhabited
def Arrival.c(x:Arrival):List AV:=[.int .i64 x.head.h0,.int .i64 x.head.h1,.int .i64 x.head.h2,.int .i64 x.head.h3,.int .i64 x.head.h4,.int .i64 x.head.h5,.int .i64 x.head.h6,.int .i64 x.head.h7,.int .i64 x.head.h8,.int .i64 x.head.h9,.int .i64 x.tick]
def W6(x:Arrival):x.c.length=11:=rfl
def W7(x:Arrival):x.c.map borrow1=x.c:=rfl
def W5(x:Arrival):x.c.any GB=false:=by
 rfl
def UY(x:Arrival):x.c.take 11=x.c:=rfl
def Arrival.cf_pure(x:Arrival):FW x.c=true:=by
 simp[Arrival.c,FW,AV.pure]
def W9(x:Arrival):FW x.c=true:=x.cf_pure
def PW(k:Nat)(x:Arrival):Fo k x.c=true:=by
 simp[Arrival.c,Fo,AV.bnd]
def Arrival.c_bnd(k:Nat)(x:Arrival):Fo k x.c=true:=PW k x
def W8(x:Arrival):x.c[9]? =some (.int .i64 x.head.h9)/\x.c[10]? =some (.int .i64 x.tick):=⟨rfl,rfl⟩
def PV(x:Arrival):x.c.take 10=x.head.c:=rfl
def Arrival.z:Arrival:=⟨⟨0,0,0,0,0,0,0,0,0,0⟩,0⟩
def Arrival.zero:Fk AA 36=some (.agg Arrival.z.c):=kr
def Arrival.ok(_:Arrival):Prop:=True
def Arrival.rd{a:AV}(h:Rd AA 36 a): ∃x:Arrival,a = .agg x.c/\x.ok:=by
 obtain⟨ps,rfl,hp⟩:=GJ (ts:=[34,3]) kr h
 obtain⟨a0,a1,rfl,g0,g1⟩:=IA hp
 obtain⟨v0,rfl,k0⟩:=Head.rd g0
 obtain⟨v1,rfl,k1⟩:=LK g1
 exact⟨⟨v0,v1⟩,rfl,trivial⟩
def Fd(l:List Entry):List AV:=l.map λx => .agg x.c
def Hl(l:List Entry):(Fd l).length=l.length:=by simp[Fd]
def GX{l:List Entry}{i:Nat}{x:Entry}(h:l[i]? =some x):(Fd l)[i]? =some (.agg x.c):=by simp[Fd,h]
def nC{l:List Entry}{x:Entry}(h:x∈l): .agg x.c∈Fd l:=by rw[Fd];exact AO.2 ⟨x,h,rfl⟩
def aT(l:List Entry): ∀x∈Fd l,x.cells.length=4:=by
 intro x hx;obtain⟨y,_,rfl⟩:=AO.1 hx;rfl
def Xa(l:List Entry):(∀x∈Fd l,x.cells.length=4)=True:=eq_true (aT l)
def m_:Fd []=[]:=rfl
def aR(l:List Entry)(k:Nat):(Fd l).take k=Fd (l.take k):=by simp[Fd]
def Jq(l:List Entry):FW (Fd l)=true:=by
 induction l with
 |nil=>rfl
 |cons x xs ih=>simpa [Fd,FW,AV.pure]using⟨SK x,ih⟩
def Qt(k:Nat)(l:List Entry):Fo k (Fd l)=true:=Hg λx=>Entry.c_bnd k x
def tg{l:List Entry}{B:Nat}(h:FU (Fd l)<=B){x:Entry}(hx:x∈l):(.agg x.c:AV).bulk<=B:=AL (Fw (nC hx)) h
def tf{l:List Entry}{B:Nat}(h:FU (Fd l)<=B):l.length<=B:=by
 refine AL ?_ h
 exact HK (f:=λ(x:Entry) => .agg x.c) (λx=>by exact yh x) l
def Y0(l:List Entry):Prop:=l.length*56<=reachBytes /\ ∀x∈l,x.ok
def Tg{a:AV}(h:Rd AA 43 a): ∃l,a = .sl none (Fd l)/\Y0 l:=by
 obtain⟨l,h1,h2,h3⟩:=IW (f:=λ(x:Entry) => .agg x.c) (ok:=λ(x:Entry)=>x.ok) (P:=AA) (t:=43) (e:=107) kr (λx hx=>Entry.rd hx) h
 exact⟨l,h1,by rw[show AA.bytesOf 107=56 by kernel_rfl]at h2;exact h2,h3⟩
@[ext] structure Doing where
 fields:List Fld
 step:Stp
 st:List Entry
 head:Head
 tick:Int
 entry:Entry
 is:Bool
 deriving DecidableEq,Inhabited
def Doing.cf(x:Doing)(o0 o1 o2 o3:Option Nat):List AV:=[.sl o0 (GL x.fields),.int .i64 x.step.kind,.str x.step.var,.sl o1 (HB x.step.key),.str x.step.field,.int .i64 x.step.n,.int .i64 x.step.m,.sl o2 (Fd x.st),.int .i64 x.head.h0,.int .i64 x.head.h1,.int .i64 x.head.h2,.int .i64 x.head.h3,.int .i64 x.head.h4,.int .i64 x.head.h5,.int .i64 x.head.h6,.int .i64 x.head.h7,.int .i64 x.head.h8,.int .i64 x.head.h9,.int .i64 x.tick,.str x.entry.var,.sl o3 (GK x.entry.key),.int .i64 x.entry.n,.int .i64 x.entry.at_,.bool x.is]
abbrev Doing.c(x:Doing):List AV:=x.cf none none none none
def cc(x:Doing)(o0 o1 o2 o3:Option Nat):(x.cf o0 o1 o2 o3).length=24:=rfl
def cd(x:Doing)(o0 o1 o2 o3:Option Nat):(x.cf o0 o1 o2 o3).map borrow1=x.cf none none none none:=rfl
def cZ(x:Doing)(o0 o1 o2 o3:Option Nat):(x.cf o0 o1 o2 o3).any GB=(o0.isSome||o1.isSome||o2.isSome||o3.isSome):=by
 cases o0<;>cases o1<;>cases o2<;>cases o3<;>rfl
def Doing.cf_pure(x:Doing)(o0 o1 o2 o3:Option Nat):FW (x.cf o0 o1 o2 o3)=true:=by
 simp[Doing.cf,FW,AV.pure,Jq,Sw,Jp,Pf]
def SO(k:Nat)(x:Doing)(o0 o1 o2 o3:Option Nat):Fo k (x.cf o0 o1 o2 o3)=true:=by
 simp[Doing.cf,Fo,AV.bnd,Qt,Vn,L8,Rj]
def Doing.c_bnd(k:Nat)(x:Doing):Fo k x.c=true:=SO k x none none none none
def ce(x:Doing)(o0 o1 o2 o3:Option Nat):(x.cf o0 o1 o2 o3)[0]? =some (.sl o0 (GL x.fields))/\(x.cf o0 o1 o2 o3)[2]? =some (.str x.step.var)/\(x.cf o0 o1 o2 o3)[3]? =some (.sl o1 (HB x.step.key))/\(x.cf o0 o1 o2 o3)[4]? =some (.str x.step.field)/\(x.cf o0 o1 o2 o3)[5]? =some (.int .i64 x.step.n)/\(x.cf o0 o1 o2 o3)[6]? =some (.int .i64 x.step.m)/\(x.cf o0 o1 o2 o3)[7]? =some (.sl o2 (Fd x.st))/\(x.cf o0 o1 o2 o3)[18]? =some (.int .i64 x.tick)/\(x.cf o0 o1 o2 o3)[21]? =some (.int .i64 x.entry.n)/\(x.cf o0 o1 o2 o3)[22]? =some (.int .i64 x.entry.at_)/\(x.cf o0 o1 o2 o3)[23]? =some (.bool x.is):=⟨rfl,rfl,rfl,rfl,rfl,rfl,rfl,rfl,rfl,rfl,rfl⟩
def PT(x:Doing)(v:List Fld)(o0 o1 o2 o3:Option Nat)(p:Option Nat):Hq (x.cf o0 o1 o2 o3) [.sl p (GL v)]=({ x with fields:=v }:Doing).cf p o1 o2 o3:=rfl
def RK(x:Doing)(o0 o1 o2 o3:Option Nat):((x.cf o0 o1 o2 o3).drop 1).take 6=x.step.cf o1:=rfl
def SM(x:Doing)(v:Stp)(o0 o1 o2 o3:Option Nat)(p0:Option Nat):splice (x.cf o0 o1 o2 o3) 1 (v.cf p0)=({ x with step:=v }:Doing).cf o0 p0 o2 o3:=rfl
def UM(x:Doing)(v:List Entry)(o0 o1 o2 o3:Option Nat)(p:Option Nat):splice (x.cf o0 o1 o2 o3) 7 [.sl p (Fd v)]=({ x with st:=v }:Doing).cf o0 o1 p o3:=rfl
def RL(x:Doing)(o0 o1 o2 o3:Option Nat):((x.cf o0 o1 o2 o3).drop 8).take 10=x.head.c:=rfl
def SN(x:Doing)(v:Head)(o0 o1 o2 o3:Option Nat):splice (x.cf o0 o1 o2 o3) 8 v.c=({ x with head:=v }:Doing).cf o0 o1 o2 o3:=rfl
def SL(x:Doing)(v:Int)(o0 o1 o2 o3:Option Nat):splice (x.cf o0 o1 o2 o3) 18 [.int .i64 v]=({ x with tick:=v }:Doing).cf o0 o1 o2 o3:=rfl
def QB(x:Doing)(o0 o1 o2 o3:Option Nat):((x.cf o0 o1 o2 o3).drop 19).take 4=x.entry.cf o3:=rfl
def RJ(x:Doing)(v:Entry)(o0 o1 o2 o3:Option Nat)(p0:Option Nat):splice (x.cf o0 o1 o2 o3) 19 (v.cf p0)=({ x with entry:=v }:Doing).cf o0 o1 o2 p0:=rfl
def PS(x:Doing)(v:Int)(o0 o1 o2 o3:Option Nat):splice (x.cf o0 o1 o2 o3) 21 [.int .i64 v]=({ x with entry:={ x.entry with n:=v } }:Doing).cf o0 o1 o2 o3:=rfl
def OF(x:Doing)(v:Int)(o0 o1 o2 o3:Option Nat):splice (x.cf o0 o1 o2 o3) 22 [.int .i64 v]=({ x with entry:={ x.entry with at_:=v } }:Doing).cf o0 o1 o2 o3:=rfl
def UN(x:Doing)(v:Bool)(o0 o1 o2 o3:Option Nat):splice (x.cf o0 o1 o2 o3) 23 [.bool v]=({ x with is:=v }:Doing).cf o0 o1 o2 o3:=rfl
def Doing.z:Doing:=⟨[],⟨0,.empty,[],.empty,0,0⟩,[],⟨0,0,0,0,0,0,0,0,0,0⟩,0,⟨.empty,[],0,0⟩,false⟩
def Doing.zero:Fk AA 194=some (.agg (Doing.z.cf (some 3) (some 1) (some 4) (some 1))):=kr
def Doing.ok(_:Doing):Prop:=True
@[ext] structure Item where
 tenant:Int
 head:Head
 chain:List Int
 deriving DecidableEq,Inhabited
def Item.cf(x:Item)(o0:Option Nat):List AV:=[.int .i64 x.tenant,.int .i64 x.head.h0,.int .i64 x.head.h1,.int .i64 x.head.h2,.int .i64 x.head.h3,.int .i64 x.head.h4,.int .i64 x.head.h5,.int .i64 x.head.h6,.int .i64 x.head.h7,.int .i64 x.head.h8,.int .i64 x.head.h9,.sl o0 (GK x.chain)]
abbrev Item.c(x:Item):List AV:=x.cf none
def kb(x:Item)(o0:Option Nat):(x.cf o0).length=12:=rfl
def kc(x:Item)(o0:Option Nat):(x.cf o0).map borrow1=x.cf none:=rfl
def ka(x:Item)(o0:Option Nat):(x.cf o0).any GB=(o0.isSome):=by
 cases o0<;>rfl
def cP(x:Item)(o0:Option Nat):(x.cf o0).take 12=x.cf o0:=rfl
def Item.cf_pure(x:Item)(o0:Option Nat):FW (x.cf o0)=true:=by
 simp[Item.cf,FW,AV.pure,Jp]
def Tw(k:Nat)(x:Item)(o0:Option Nat):Fo k (x.cf o0)=true:=by
 simp[Item.cf,Fo,AV.bnd,L8]
def Item.c_bnd(k:Nat)(x:Item):Fo k x.c=true:=Tw k x none
def kd(x:Item)(o0:Option Nat):(x.cf o0)[0]? =some (.int .i64 x.tenant):=rfl
def QA(x:Item)(v:Int)(o0:Option Nat):Hq (x.cf o0) [.int .i64 v]=({ x with tenant:=v }:Item).cf o0:=rfl
def SH(x:Item)(o0:Option Nat):((x.cf o0).drop 1).take 10=x.head.c:=rfl
def TG(x:Item)(v:Head)(o0:Option Nat):splice (x.cf o0) 1 v.c=({ x with head:=v }:Item).cf o0:=rfl
def SG(x:Item)(v:List Int)(o0:Option Nat)(p:Option Nat):splice (x.cf o0) 11 [.sl p (GK v)]=({ x with chain:=v }:Item).cf p:=rfl
def Item.z:Item:=⟨0,⟨0,0,0,0,0,0,0,0,0,0⟩,[]⟩
def Item.zero:Fk AA 130=some (.agg (Item.z.cf (some 1))):=kr
def Item.ok(_:Item):Prop:=True
attribute [go_sem] kf kg ke cQ Head.cf_pure Tx ki UL W1 W0 Head.zero ADt pm po pl kl Fld.cf_pure W3 pp Fld.zero AGe kH kI kG cI Port.cf_pure Tr kJ Port.zero ADi jt ju js ba Wire.cf_pure Tp jv Wire.zero ADb Jh Kc ND aQ tU gC gD tW kD kE kC cH Pred.cf_pure Tq kF Pred.zero Ns Ot Tf Vk gF XX XY gG YJ YK YI Wt Policy.cf_pure QV YL P' Policy.zero Oq Qo Vg cC cD cB YE Regex.cf_pure SE cE Regex.zero L7 fy ABJ mo tM Pf Rj pQ pR pP jz Stp.cf_pure Wq pS Stp.zero bg bi bf X_ Stage.cf_pure R_ bj PN PM RD R9 Stage.zero b8 b9 b7 Route.cf_pure SD RF RG YO YP YN W4 Demand.cf_pure QW YQ Demand.zero pt Yx Vj Yy tJ Va Yv KZ XW mw Tc Vc Vd Td Ve gQ Rm Th X6 X7 X5 Wo Tenant.cf_pure QR X8 Tenant.zero kQ kR kP cL Node.cf_pure Tu kS Node.zero ADm kV kW kU cN Link.cf_pure Tv kX Link.zero ADq ku kv kp cX Edge.cf_pure Ty kw Edge.zero ADv tZ Qr St tc Qs Sv ti Qu Sx Ww Wx Wv UK Network.cf_pure PR Wy UU UV UT TJ Contract.cf_pure OK UW OW Contract.zero Ov gP ABR Sw Vn Ta Ri Tb Mp Sy T6 Vr Ow QK bx b5 bw YB Setup.cf_pure SC b6 OT P_ OA Setup.zero HR gK m7 te Jp L8 UG UH UF TD Variable.cf_pure OH UI Variable.zero bq bt bo YA Sizes.cf_pure SA bu P8 RE Sizes.zero cT cU cR YM Entry.cf_pure SJ cV SI TH Entry.zero UP UQ UO TI Delivery.cf_pure OJ UR NY OV PU OU Delivery.zero W6 W7 W5 UY Arrival.cf_pure PW W8 PV Arrival.zero Hl Xa m_ aR Jq Qt cc cd cZ Doing.cf_pure SO ce PT RK SM UM RL SN SL QB RJ PS OF UN Doing.zero kb kc ka cP Item.cf_pure Tw kd QA SH TG SG Item.zero
end Go.AI
