/- Data of the laws as the model holds them: cells in order;and how data are read as them. Printed by gendata.py. -/
import Derived.Test.YtofajkggflobkaaGreatDoorLi
import Derived.Test.YtofajkggflobkaaGreatDoorProg
set_option linter.unusedSimpArgs false
set_option linter.unusedVariables false
set_option linter.defProp false
open Array renaming toList_inj->Cq
open Bool renaming eq_iff_iff->BA
open List renaming length_map->Aq,mem_cons->AX,mem_map->AP,mem_of_getElem?->AB,sizeOf_lt_of_mem->DE
open Nat renaming le_refl->AU,le_trans->AK,lt_of_lt_of_le->BR
open Go.Proofs.Tryz renaming prog->AA
namespace Go.AI
open Go.Proofs
def LI{a:AV}(h:Rd AA 3 a): ∃ n,a = .int .i64 n/\(IntKind.i64.min<=n/\n<=IntKind.i64.max):=yQ kr h
def cT{a:AV}(h:Rd AA 9 a): ∃ s,a = .str s/\s.size<=reachBytes:=yP kr h
def H6{P:Program}{t0 t1:TypeId}{ps:List AV}(h:Gg P [t0,t1] ps): ∃ a0 a1,ps=[a0,a1]/\Rd P t0 a0/\Rd P t1 a1:=by
 match ps,h with
 | [a0,a1],h=>exact ⟨a0,a1,rfl,h.1,h.2.1⟩
def I8{P:Program}{t0 t1 t2:TypeId}{ps:List AV}(h:Gg P [t0,t1,t2] ps): ∃ a0 a1 a2,ps=[a0,a1,a2]/\Rd P t0 a0/\Rd P t1 a1/\Rd P t2 a2:=by
 match ps,h with
 | [a0,a1,a2],h=>exact ⟨a0,a1,a2,rfl,h.1,h.2.1,h.2.2.1⟩
def Lh{P:Program}{t0 t1 t2 t3:TypeId}{ps:List AV}(h:Gg P [t0,t1,t2,t3] ps): ∃ a0 a1 a2 a3,ps=[a0,a1,a2,a3]/\Rd P t0 a0/\Rd P t1 a1/\Rd P t2 a2/\Rd P t3 a3:=by
 match ps,h with
 | [a0,a1,a2,a3],h=>exact ⟨a0,a1,a2,a3,rfl,h.1,h.2.1,h.2.2.1,h.2.2.2.1⟩
def Nz{P:Program}{t0 t1 t2 t3 t4:TypeId}{ps:List AV}(h:Gg P [t0,t1,t2,t3,t4] ps): ∃ a0 a1 a2 a3 a4,ps=[a0,a1,a2,a3,a4]/\Rd P t0 a0/\Rd P t1 a1/\Rd P t2 a2/\Rd P t3 a3/\Rd P t4 a4:=by
 match ps,h with
 | [a0,a1,a2,a3,a4],h=>exact ⟨a0,a1,a2,a3,a4,rfl,h.1,h.2.1,h.2.2.1,h.2.2.2.1,h.2.2.2.2.1⟩
def R6{P:Program}{t0 t1 t2 t3 t4 t5:TypeId}{ps:List AV}(h:Gg P [t0,t1,t2,t3,t4,t5] ps): ∃ a0 a1 a2 a3 a4 a5,ps=[a0,a1,a2,a3,a4,a5]/\Rd P t0 a0/\Rd P t1 a1/\Rd P t2 a2/\Rd P t3 a3/\Rd P t4 a4/\Rd P t5 a5:=by
 match ps,h with
 | [a0,a1,a2,a3,a4,a5],h=>exact ⟨a0,a1,a2,a3,a4,a5,rfl,h.1,h.2.1,h.2.2.1,h.2.2.2.1,h.2.2.2.2.1,h.2.2.2.2.2.1⟩
def bu{P:Program}{t0 t1 t2 t3 t4 t5 t6 t7:TypeId}{ps:List AV}(h:Gg P [t0,t1,t2,t3,t4,t5,t6,t7] ps): ∃ a0 a1 a2 a3 a4 a5 a6 a7,ps=[a0,a1,a2,a3,a4,a5,a6,a7]/\Rd P t0 a0/\Rd P t1 a1/\Rd P t2 a2/\Rd P t3 a3/\Rd P t4 a4/\Rd P t5 a5/\Rd P t6 a6/\Rd P t7 a7:=by
 match ps,h with
 | [a0,a1,a2,a3,a4,a5,a6,a7],h=>exact ⟨a0,a1,a2,a3,a4,a5,a6,a7,rfl,h.1,h.2.1,h.2.2.1,h.2.2.2.1,h.2.2.2.2.1,h.2.2.2.2.2.1,h.2.2.2.2.2.2.1,h.2.2.2.2.2.2.2.1⟩
def YF{P:Program}{t0 t1 t2 t3 t4 t5 t6 t7 t8 t9:TypeId}{ps:List AV}(h:Gg P [t0,t1,t2,t3,t4,t5,t6,t7,t8,t9] ps): ∃ a0 a1 a2 a3 a4 a5 a6 a7 a8 a9,ps=[a0,a1,a2,a3,a4,a5,a6,a7,a8,a9]/\Rd P t0 a0/\Rd P t1 a1/\Rd P t2 a2/\Rd P t3 a3/\Rd P t4 a4/\Rd P t5 a5/\Rd P t6 a6/\Rd P t7 a7/\Rd P t8 a8/\Rd P t9 a9:=by
 match ps,h with
 | [a0,a1,a2,a3,a4,a5,a6,a7,a8,a9],h=>exact ⟨a0,a1,a2,a3,a4,a5,a6,a7,a8,a9,rfl,h.1,h.2.1,h.2.2.1,h.2.2.2.1,h.2.2.2.2.1,h.2.2.2.2.2.1,h.2.2.2.2.2.2.1,h.2.2.2.2.2.2.2.1,h.2.2.2.2.2.2.2.2.1,h.2.2.2.2.2.2.2.2.2.1⟩
@[ext] structure Head where
 h0:Int
 h1:Int
 h2:Int
 h3:Int
 h4:Int
 h5:Int
 h6:Int
 h7:Int
 h8:Int
 h9:Int
 deriving DecidableEq,Inhabited
def Head.c(x:Head):List AV:=[.int .i64 x.h0,.int .i64 x.h1,.int .i64 x.h2,.int .i64 x.h3,.int .i64 x.h4,.int .i64 x.h5,.int .i64 x.h6,.int .i64 x.h7,.int .i64 x.h8,.int .i64 x.h9]
def kK(x:Head):x.c.length=10:=rfl
def kL(x:Head):x.c.map borrow1=x.c:=rfl
def kJ(x:Head):x.c.any GE=false:=by
 rfl
def cC(x:Head):x.c.take 10=x.c:=rfl
def Head.cf_pure(x:Head):A' x.c=true:=by
 simp [Head.c,A',AV.pure]
def kN(x:Head):A' x.c=true:=x.cf_pure
def Tw(k:Nat)(x:Head):Fo k x.c=true:=by
 simp [Head.c,Fo,AV.bnd]
def Head.c_bnd(k:Nat)(x:Head):Fo k x.c=true:=Tw k x
def kM(x:Head):x.c[0]? =some (.int .i64 x.h0):=rfl
def UK(x:Head)(v:Int):Hs x.c [.int .i64 v]=({ x with h0:=v }:Head).c:=rfl
def W4(x:Head)(v:Int):splice x.c 1 [.int .i64 v]=({ x with h1:=v }:Head).c:=rfl
def W3(x:Head)(v:Int):splice x.c 9 [.int .i64 v]=({ x with h9:=v }:Head).c:=rfl
def Head.z:Head:=⟨0,0,0,0,0,0,0,0,0,0⟩
def Head.zero:Fi AA 34=some (.agg Head.z.c):=kr
def Head.ok(_:Head):Prop:=True
def Head.rd{a:AV}(h:Rd AA 34 a): ∃ x:Head,a = .agg x.c/\x.ok:=by
 obtain ⟨ps,rfl,hp⟩:=GJ (ts:=[3,3,3,3,3,3,3,3,3,3]) kr h
 obtain ⟨a0,a1,a2,a3,a4,a5,a6,a7,a8,a9,rfl,g0,g1,g2,g3,g4,g5,g6,g7,g8,g9⟩:=YF hp
 obtain ⟨v0,rfl,k0⟩:=LI g0
 obtain ⟨v1,rfl,k1⟩:=LI g1
 obtain ⟨v2,rfl,k2⟩:=LI g2
 obtain ⟨v3,rfl,k3⟩:=LI g3
 obtain ⟨v4,rfl,k4⟩:=LI g4
 obtain ⟨v5,rfl,k5⟩:=LI g5
 obtain ⟨v6,rfl,k6⟩:=LI g6
 obtain ⟨v7,rfl,k7⟩:=LI g7
 obtain ⟨v8,rfl,k8⟩:=LI g8
 obtain ⟨v9,rfl,k9⟩:=LI g9
 exact ⟨⟨v0,v1,v2,v3,v4,v5,v6,v7,v8,v9⟩,rfl,trivial⟩
@[ext] structure Fld where
 name:ByteArray
 at_:Int
 width:Int
 deriving DecidableEq,Inhabited
def Fld.c(x:Fld):List AV:=[.str x.name,.int .i64 x.at_,.int .i64 x.width]
def AGd(x:Fld):1<=FR x.c:=by
 have h1:1<=(.str x.name:AV).bulk:=by simp [AV.bulk]
 exact AK h1 (Ft (AB (i:=0) rfl))
def pM(x:Fld):x.c.length=3:=rfl
def pN(x:Fld):x.c.map borrow1=x.c:=rfl
def pL(x:Fld):x.c.any GE=false:=by
 rfl
def kO(x:Fld):x.c.take 3=x.c:=rfl
def Fld.cf_pure(x:Fld):A' x.c=true:=by
 simp [Fld.c,A',AV.pure]
def pP(x:Fld):A' x.c=true:=x.cf_pure
def W6(k:Nat)(x:Fld):Fo k x.c=true:=by
 simp [Fld.c,Fo,AV.bnd]
def Fld.c_bnd(k:Nat)(x:Fld):Fo k x.c=true:=W6 k x
def kP{x:Fld}{B:Nat}(h:FR x.c<=B):x.name.size<=B:=HF (AB (i:=0) rfl) h
def pO(x:Fld):x.c[0]? =some (.str x.name)/\x.c[1]? =some (.int .i64 x.at_)/\x.c[2]? =some (.int .i64 x.width):=⟨rfl,rfl,rfl⟩
def Fld.z:Fld:=⟨.empty,0,0⟩
def Fld.zero:Fi AA 115=some (.agg Fld.z.c):=kr
def Fld.ok(_:Fld):Prop:=True
def Fld.rd{a:AV}(h:Rd AA 115 a): ∃ x:Fld,a = .agg x.c/\x.ok:=by
 obtain ⟨ps,rfl,hp⟩:=GJ (ts:=[9,3,3]) kr h
 obtain ⟨a0,a1,a2,rfl,g0,g1,g2⟩:=I8 hp
 obtain ⟨v0,rfl,k0⟩:=cT g0
 obtain ⟨v1,rfl,k1⟩:=LI g1
 obtain ⟨v2,rfl,k2⟩:=LI g2
 exact ⟨⟨v0,v1,v2⟩,rfl,trivial⟩
@[ext] structure Port where
 name:ByteArray
 edge:Int
 deriving DecidableEq,Inhabited
def Port.c(x:Port):List AV:=[.str x.name,.int .i64 x.edge]
def ADg(x:Port):1<=FR x.c:=by
 have h1:1<=(.str x.name:AV).bulk:=by simp [AV.bulk]
 exact AK h1 (Ft (AB (i:=0) rfl))
def jl(x:Port):x.c.length=2:=rfl
def jm(x:Port):x.c.map borrow1=x.c:=rfl
def jk(x:Port):x.c.any GE=false:=by
 rfl
def bx(x:Port):x.c.take 2=x.c:=rfl
def Port.cf_pure(x:Port):A' x.c=true:=by
 simp [Port.c,A',AV.pure]
def jo(x:Port):A' x.c=true:=x.cf_pure
def Tq(k:Nat)(x:Port):Fo k x.c=true:=by
 simp [Port.c,Fo,AV.bnd]
def Port.c_bnd(k:Nat)(x:Port):Fo k x.c=true:=Tq k x
def b5{x:Port}{B:Nat}(h:FR x.c<=B):x.name.size<=B:=HF (AB (i:=0) rfl) h
def jn(x:Port):x.c[0]? =some (.str x.name)/\x.c[1]? =some (.int .i64 x.edge):=⟨rfl,rfl⟩
def Port.z:Port:=⟨.empty,0⟩
def Port.zero:Fi AA 120=some (.agg Port.z.c):=kr
def Port.ok(_:Port):Prop:=True
def Port.rd{a:AV}(h:Rd AA 120 a): ∃ x:Port,a = .agg x.c/\x.ok:=by
 obtain ⟨ps,rfl,hp⟩:=GJ (ts:=[9,3]) kr h
 obtain ⟨a0,a1,rfl,g0,g1⟩:=H6 hp
 obtain ⟨v0,rfl,k0⟩:=cT g0
 obtain ⟨v1,rfl,k1⟩:=LI g1
 exact ⟨⟨v0,v1⟩,rfl,trivial⟩
@[ext] structure Wire where
 src:Int
 dst:Int
 deriving DecidableEq,Inhabited
def Wire.c(x:Wire):List AV:=[.int .i64 x.src,.int .i64 x.dst]
def ADa(x:Wire):1<=FR x.c:=by
 have h1:1<=(.int .i64 x.src:AV).bulk:=by simp [AV.bulk]
 exact AK h1 (Ft (AB (i:=0) rfl))
def jV(x:Wire):x.c.length=2:=rfl
def jW(x:Wire):x.c.map borrow1=x.c:=rfl
def jU(x:Wire):x.c.any GE=false:=by
 rfl
def bP(x:Wire):x.c.take 2=x.c:=rfl
def Wire.cf_pure(x:Wire):A' x.c=true:=by
 simp [Wire.c,A',AV.pure]
def jY(x:Wire):A' x.c=true:=x.cf_pure
def To(k:Nat)(x:Wire):Fo k x.c=true:=by
 simp [Wire.c,Fo,AV.bnd]
def Wire.c_bnd(k:Nat)(x:Wire):Fo k x.c=true:=To k x
def jX(x:Wire):x.c[0]? =some (.int .i64 x.src)/\x.c[1]? =some (.int .i64 x.dst):=⟨rfl,rfl⟩
def Wire.z:Wire:=⟨0,0⟩
def Wire.zero:Fi AA 252=some (.agg Wire.z.c):=kr
def Wire.ok(_:Wire):Prop:=True
def Wire.rd{a:AV}(h:Rd AA 252 a): ∃ x:Wire,a = .agg x.c/\x.ok:=by
 obtain ⟨ps,rfl,hp⟩:=GJ (ts:=[3,3]) kr h
 obtain ⟨a0,a1,rfl,g0,g1⟩:=H6 hp
 obtain ⟨v0,rfl,k0⟩:=LI g0
 obtain ⟨v1,rfl,k1⟩:=LI g1
 exact ⟨⟨v0,v1⟩,rfl,trivial⟩
structure Pred where
 kind:Int
 field:ByteArray
 n:Int
 m:Int
 args:List Pred
instance:Inhabited Pred:=⟨⟨default,default,default,default,default⟩⟩
mutual
def Pred.e:Pred->AV
 | ⟨v0,v1,v2,v3,v4⟩ => .agg [.int .i64 v0,.str v1,.int .i64 v2,.int .i64 v3,.sl none (Pred.es v4)]
def Pred.es:List Pred->List AV
 | []=>[]
 | x::l=>Pred.e x::Pred.es l
end
abbrev GH:List Pred->List AV:=Pred.es
mutual
def jf : ∀ x:Pred,(x.e).pure=true
 | ⟨v0,v1,v2,v3,v4⟩=>by simp [Pred.e,AV.pure,A',N0 v4]
def N0 : ∀ l:List Pred,A' (Pred.es l)=true
 | []=>rfl
 | x::l=>by simp [Pred.es,A',jf x,N0 l]
end
mutual
def pD(k:Nat): ∀ x:Pred,(x.e).bnd k=true
 | ⟨v0,v1,v2,v3,v4⟩=>by simp [Pred.e,AV.bnd,Fo,PH k v4]
def PH(k:Nat): ∀ l:List Pred,Fo k (Pred.es l)=true
 | []=>rfl
 | x::l=>by simp [Pred.es,Fo,pD k x,PH k l]
end
def Je(l:List Pred):A' (GH l)=true:=N0 l
def KY(k:Nat)(l:List Pred):Fo k (GH l)=true:=PH k l
def JS(p:Pred->Prop)(h : ∀ x:Pred,(∀ y∈x.args,p y)->p x): ∀ x,p x :=
 λx=>Pred.rec (motive_1:=p) (motive_2:=λl => ∀ y∈l,p y) (λv0 v1 v2 v3 v4 ih=>h ⟨v0,v1,v2,v3,v4⟩ ih) (λy hy=>by cases hy) (λx l h1 h2 y hy=>by
  rcases AX.1 hy with rfl|hy
  ·exact h1
  ·exact h2 y hy) x
def Pred.cf(x:Pred)(o0:Option Nat):List AV:=[.int .i64 x.kind,.str x.field,.int .i64 x.n,.int .i64 x.m,.sl o0 (GH x.args)]
abbrev Pred.c(x:Pred):List AV:=x.cf none
def ADf(x:Pred):1<=FR x.c:=by
 have h1:1<=(.int .i64 x.kind:AV).bulk:=by simp [AV.bulk]
 exact AK h1 (Ft (AB (i:=0) rfl))
def yR(x:Pred):x.e = .agg x.c:=by cases x;rfl
def Hg(l:List Pred):GH l=l.map λx => .agg x.c:=by
 induction l with
 | nil=>rfl
 | cons x l ih=>show x.e::Pred.es l=_;rw [show Pred.es l=_ from ih,yR];rfl
def My(l:List Pred):(GH l).length=l.length:=by simp [Hg]
def Fp{l:List Pred}{i:Nat}{x:Pred}(h:l[i]? =some x):(GH l)[i]? =some (.agg x.c):=by simp [Hg,h]
def Mx{l:List Pred}{x:Pred}(h:x∈l): .agg x.c∈GH l:=by rw [Hg];exact AP.2 ⟨x,h,rfl⟩
def fV(l:List Pred): ∀ x∈GH l,x.cells.length=5:=by
 intro x hx;rw [Hg] at hx;obtain ⟨y,_,rfl⟩:=AP.1 hx;rfl
def aG(l:List Pred):(∀ x∈GH l,x.cells.length=5)=True:=eq_true (fV l)
def s4:GH []=[]:=rfl
def fT(l:List Pred)(k:Nat):(GH l).take k=GH (l.take k):=by simp [Hg]
def fU(l:List Pred)(k:Nat):(GH l).drop k=GH (l.drop k):=by simp [Hg]
def s5(a b:List Pred):GH a++GH b=GH (a++b):=by simp [Hg]
def Vl{l:List Pred}{B:Nat}(h:FR (GH l)<=B){x:Pred}(hx:x∈l):(.agg x.c:AV).bulk<=B:=AK (Ft (Mx hx)) h
def Vk{l:List Pred}{B:Nat}(h:FR (GH l)<=B):l.length<=B:=by
 refine AK ?_ h
 rw [Hg];exact HO (f:=λ(x:Pred) => .agg x.c) (λx=>by exact ADf x) l
def jh(x:Pred)(o0:Option Nat):(x.cf o0).length=5:=rfl
def ji(x:Pred)(o0:Option Nat):(x.cf o0).map borrow1=x.cf none:=rfl
def jg(x:Pred)(o0:Option Nat):(x.cf o0).any GE=(o0.isSome):=by
 cases o0<;>rfl
def bw(x:Pred)(o0:Option Nat):(x.cf o0).take 5=x.cf o0:=rfl
def Pred.cf_pure(x:Pred)(o0:Option Nat):A' (x.cf o0)=true:=by
 simp [Pred.cf,A',AV.pure,Je]
def Tp(k:Nat)(x:Pred)(o0:Option Nat):Fo k (x.cf o0)=true:=by
 simp [Pred.cf,Fo,AV.bnd,KY]
def Pred.c_bnd(k:Nat)(x:Pred):Fo k x.c=true:=Tp k x none
def Kz{x:Pred}(h:HY x.c):x.args.length<=9223372036854775807:=by
 have h1:(AV.sl none (GH x.args)).fit:=Fw.1 h _ (AB (i:=4) rfl)
 have h2:=h1.1
 rwa [My] at h2
def QG{x:Pred}{B:Nat}(h:FR x.c<=B):x.field.size<=B:=HF (AB (i:=1) rfl) h
def I9{x:Pred}{B:Nat}(h:FR x.c<=B):FR (GH x.args)<=B:=Gq (o:=none) (AB (i:=4) rfl) h
def jj(x:Pred)(o0:Option Nat):(x.cf o0)[0]? =some (.int .i64 x.kind)/\(x.cf o0)[1]? =some (.str x.field)/\(x.cf o0)[2]? =some (.int .i64 x.n)/\(x.cf o0)[3]? =some (.int .i64 x.m)/\(x.cf o0)[4]? =some (.sl o0 (GH x.args)):=⟨rfl,rfl,rfl,rfl,rfl⟩
def Pred.z:Pred:=⟨0,.empty,0,0,[]⟩
def Pred.zero:Fi AA 64=some (.agg (Pred.z.cf (some 5))):=kr
def Pred.ok(_:Pred):Prop:=True
def je : ∀ (n:Nat) {a:AV},SizeOf.sizeOf a<=n->Rd AA 64 a -> ∃ x:Pred,a = .agg x.c/\x.ok
 | 0,a,hn,h=>by cases a<;>simp at hn
 | n+1,a,hn,h=>by
  obtain ⟨ps,rfl,hp⟩:=GJ (ts:=[3,9,3,3,62]) kr h
  obtain ⟨a0,a1,a2,a3,a4,rfl,g0,g1,g2,g3,g4⟩:=Nz hp
  obtain ⟨v0,rfl,k0⟩:=LI g0
  obtain ⟨v1,rfl,k1⟩:=cT g1
  obtain ⟨v2,rfl,k2⟩:=LI g2
  obtain ⟨v3,rfl,k3⟩:=LI g3
  obtain ⟨es,rfl,hb,he⟩:=PF (e:=64) kr g4
  obtain ⟨v4,rfl,hok⟩:=Z8 (f:=λx:Pred => .agg x.c) (ok:=Pred.ok) λx hx=>je n (by
   have h1:=DE hx
   have h2:=BR (Zk (o:=none) (es:=es) (by simp [HU,AV.cells])) hn
   omega) (he x hx)
  rw [Aq,show AA.bytesOf 64=64 by kernel_rfl] at hb
  refine ⟨⟨v0,v1,v2,v3,v4⟩, ?_,trivial⟩
  rw [<- Hg];rfl
def Pred.rd{a:AV}(h:Rd AA 64 a): ∃ x:Pred,a = .agg x.c/\x.ok:=je _ (AU _) h
structure Policy where
 kind:Int
 pred:Pred
 field:ByteArray
 n:Int
 args:List Policy
instance:Inhabited Policy:=⟨⟨default,default,default,default,default⟩⟩
mutual
def Policy.e:Policy->AV
 | ⟨v0,v1,v2,v3,v4⟩ => .agg [.int .i64 v0,.int .i64 v1.kind,.str v1.field,.int .i64 v1.n,.int .i64 v1.m,.sl none (GH v1.args),.str v2,.int .i64 v3,.sl none (Policy.es v4)]
def Policy.es:List Policy->List AV
 | []=>[]
 | x::l=>Policy.e x::Policy.es l
end
abbrev F3:List Policy->List AV:=Policy.es
mutual
def YG : ∀ x:Policy,(x.e).pure=true
 | ⟨v0,v1,v2,v3,v4⟩=>by simp [Policy.e,AV.pure,A',MB v4,Je]
def MB : ∀ l:List Policy,A' (Policy.es l)=true
 | []=>rfl
 | x::l=>by simp [Policy.es,A',YG x,MB l]
end
mutual
def b6(k:Nat): ∀ x:Policy,(x.e).bnd k=true
 | ⟨v0,v1,v2,v3,v4⟩=>by simp [Policy.e,AV.bnd,Fo,Mg k v4,KY]
def Mg(k:Nat): ∀ l:List Policy,Fo k (Policy.es l)=true
 | []=>rfl
 | x::l=>by simp [Policy.es,Fo,b6 k x,Mg k l]
end
def Nf(l:List Policy):A' (F3 l)=true:=MB l
def Oe(k:Nat)(l:List Policy):Fo k (F3 l)=true:=Mg k l
def Hq(p:Policy->Prop)(h : ∀ x:Policy,(∀ y∈x.args,p y)->p x): ∀ x,p x :=
 λx=>Policy.rec (motive_1:=p) (motive_2:=λl => ∀ y∈l,p y) (λv0 v1 v2 v3 v4 ih=>h ⟨v0,v1,v2,v3,v4⟩ ih) (λy hy=>by cases hy) (λx l h1 h2 y hy=>by
  rcases AX.1 hy with rfl|hy
  ·exact h1
  ·exact h2 y hy) x
def Policy.cf(x:Policy)(o0 o1:Option Nat):List AV:=[.int .i64 x.kind,.int .i64 x.pred.kind,.str x.pred.field,.int .i64 x.pred.n,.int .i64 x.pred.m,.sl o0 (GH x.pred.args),.str x.field,.int .i64 x.n,.sl o1 (F3 x.args)]
abbrev Policy.c(x:Policy):List AV:=x.cf none none
def pG(x:Policy):1<=FR x.c:=by
 have h1:1<=(.int .i64 x.kind:AV).bulk:=by simp [AV.bulk]
 exact AK h1 (Ft (AB (i:=0) rfl))
def js(x:Policy):x.e = .agg x.c:=by cases x;rfl
def Ge(l:List Policy):F3 l=l.map λx => .agg x.c:=by
 induction l with
 | nil=>rfl
 | cons x l ih=>show x.e::Policy.es l=_;rw [show Policy.es l=_ from ih,js];rfl
def Tc(l:List Policy):(F3 l).length=l.length:=by simp [Ge]
def Fc{l:List Policy}{i:Nat}{x:Policy}(h:l[i]? =some x):(F3 l)[i]? =some (.agg x.c):=by simp [Ge,h]
def Tb{l:List Policy}{x:Policy}(h:x∈l): .agg x.c∈F3 l:=by rw [Ge];exact AP.2 ⟨x,h,rfl⟩
def Xc(l:List Policy): ∀ x∈F3 l,x.cells.length=9:=by
 intro x hx;rw [Ge] at hx;obtain ⟨y,_,rfl⟩:=AP.1 hx;rfl
def Vo(l:List Policy):(∀ x∈F3 l,x.cells.length=9)=True:=eq_true (Xc l)
def fX:F3 []=[]:=rfl
def Xa(l:List Policy)(k:Nat):(F3 l).take k=F3 (l.take k):=by simp [Ge]
def Xb(l:List Policy)(k:Nat):(F3 l).drop k=F3 (l.drop k):=by simp [Ge]
def fY(a b:List Policy):F3 a++F3 b=F3 (a++b):=by simp [Ge]
def Qc{l:List Policy}{B:Nat}(h:FR (F3 l)<=B){x:Policy}(hx:x∈l):(.agg x.c:AV).bulk<=B:=AK (Ft (Tb hx)) h
def Qb{l:List Policy}{B:Nat}(h:FR (F3 l)<=B):l.length<=B:=by
 refine AK ?_ h
 rw [Ge];exact HO (f:=λ(x:Policy) => .agg x.c) (λx=>by exact pG x) l
def YI(x:Policy)(o0 o1:Option Nat):(x.cf o0 o1).length=9:=rfl
def YJ(x:Policy)(o0 o1:Option Nat):(x.cf o0 o1).map borrow1=x.cf none none:=rfl
def YH(x:Policy)(o0 o1:Option Nat):(x.cf o0 o1).any GE=(o0.isSome||o1.isSome):=by
 cases o0<;>cases o1<;>rfl
def Ww(x:Policy)(o0 o1:Option Nat):(x.cf o0 o1).take 9=x.cf o0 o1:=rfl
def Policy.cf_pure(x:Policy)(o0 o1:Option Nat):A' (x.cf o0 o1)=true:=by
 simp [Policy.cf,A',AV.pure,Nf,Je]
def QH(k:Nat)(x:Policy)(o0 o1:Option Nat):Fo k (x.cf o0 o1)=true:=by
 simp [Policy.cf,Fo,AV.bnd,Oe,KY]
def Policy.c_bnd(k:Nat)(x:Policy):Fo k x.c=true:=QH k x none none
def JY{x:Policy}(h:HY x.c):x.args.length<=9223372036854775807:=by
 have h1:(AV.sl none (F3 x.args)).fit:=Fw.1 h _ (AB (i:=8) rfl)
 have h2:=h1.1
 rwa [Tc] at h2
def MC{x:Policy}{B:Nat}(h:FR x.c<=B):FR x.pred.c<=B:=by
 have h1:=Hf x.c 1 5
 rw [show (x.c.drop 1).take 5=x.pred.c from rfl] at h1
 omega
def N7{x:Policy}{B:Nat}(h:FR x.c<=B):x.field.size<=B:=HF (AB (i:=6) rfl) h
def II{x:Policy}{B:Nat}(h:FR x.c<=B):FR (F3 x.args)<=B:=Gq (o:=none) (AB (i:=8) rfl) h
def YK(x:Policy)(o0 o1:Option Nat):(x.cf o0 o1)[0]? =some (.int .i64 x.kind)/\(x.cf o0 o1)[6]? =some (.str x.field)/\(x.cf o0 o1)[7]? =some (.int .i64 x.n)/\(x.cf o0 o1)[8]? =some (.sl o1 (F3 x.args)):=⟨rfl,rfl,rfl,rfl⟩
def Px(x:Policy)(o0 o1:Option Nat):((x.cf o0 o1).drop 1).take 5=x.pred.cf o0:=rfl
def Policy.z:Policy:=⟨0,⟨0,.empty,0,0,[]⟩,.empty,0,[]⟩
def Policy.zero:Fi AA 123=some (.agg (Policy.z.cf (some 5) (some 9))):=kr
def Policy.ok(_:Policy):Prop:=True
def Wv : ∀ (n:Nat) {a:AV},SizeOf.sizeOf a<=n->Rd AA 123 a -> ∃ x:Policy,a = .agg x.c/\x.ok
 | 0,a,hn,h=>by cases a<;>simp at hn
 | n+1,a,hn,h=>by
  obtain ⟨ps,rfl,hp⟩:=GJ (ts:=[3,64,9,3,121]) kr h
  obtain ⟨a0,a1,a2,a3,a4,rfl,g0,g1,g2,g3,g4⟩:=Nz hp
  obtain ⟨v0,rfl,k0⟩:=LI g0
  obtain ⟨v1,rfl,k1⟩:=Pred.rd g1
  obtain ⟨v2,rfl,k2⟩:=cT g2
  obtain ⟨v3,rfl,k3⟩:=LI g3
  obtain ⟨es,rfl,hb,he⟩:=PF (e:=123) kr g4
  obtain ⟨v4,rfl,hok⟩:=Z8 (f:=λx:Policy => .agg x.c) (ok:=Policy.ok) λx hx=>Wv n (by
   have h1:=DE hx
   have h2:=BR (Zk (o:=none) (es:=es) (by simp [HU,AV.cells])) hn
   omega) (he x hx)
  rw [Aq,show AA.bytesOf 123=120 by kernel_rfl] at hb
  refine ⟨⟨v0,v1,v2,v3,v4⟩, ?_,trivial⟩
  rw [<- Ge];rfl
def Policy.rd{a:AV}(h:Rd AA 123 a): ∃ x:Policy,a = .agg x.c/\x.ok:=Wv _ (AU _) h
structure Regex where
 kind:Int
 node:ByteArray
 args:List Regex
instance:Inhabited Regex:=⟨⟨default,default,default⟩⟩
mutual
def Regex.e:Regex->AV
 | ⟨v0,v1,v2⟩ => .agg [.int .i64 v0,.str v1,.sl none (Regex.es v2)]
def Regex.es:List Regex->List AV
 | []=>[]
 | x::l=>Regex.e x::Regex.es l
end
abbrev J2:List Regex->List AV:=Regex.es
mutual
def bo : ∀ x:Regex,(x.e).pure=true
 | ⟨v0,v1,v2⟩=>by simp [Regex.e,AV.pure,A',Mf v2]
def Mf : ∀ l:List Regex,A' (Regex.es l)=true
 | []=>rfl
 | x::l=>by simp [Regex.es,A',bo x,Mf l]
end
mutual
def jc(k:Nat): ∀ x:Regex,(x.e).bnd k=true
 | ⟨v0,v1,v2⟩=>by simp [Regex.e,AV.bnd,Fo,Ny k v2]
def Ny(k:Nat): ∀ l:List Regex,Fo k (Regex.es l)=true
 | []=>rfl
 | x::l=>by simp [Regex.es,Fo,jc k x,Ny k l]
end
def Od(l:List Regex):A' (J2 l)=true:=Mf l
def Qa(k:Nat)(l:List Regex):Fo k (J2 l)=true:=Ny k l
def TB(p:Regex->Prop)(h : ∀ x:Regex,(∀ y∈x.args,p y)->p x): ∀ x,p x :=
 λx=>Regex.rec (motive_1:=p) (motive_2:=λl => ∀ y∈l,p y) (λv0 v1 v2 ih=>h ⟨v0,v1,v2⟩ ih) (λy hy=>by cases hy) (λx l h1 h2 y hy=>by
  rcases AX.1 hy with rfl|hy
  ·exact h1
  ·exact h2 y hy) x
def Regex.cf(x:Regex)(o0:Option Nat):List AV:=[.int .i64 x.kind,.str x.node,.sl o0 (J2 x.args)]
abbrev Regex.c(x:Regex):List AV:=x.cf none
def yO(x:Regex):1<=FR x.c:=by
 have h1:1<=(.int .i64 x.kind:AV).bulk:=by simp [AV.bulk]
 exact AK h1 (Ft (AB (i:=0) rfl))
def o9(x:Regex):x.e = .agg x.c:=by cases x;rfl
def Mw(l:List Regex):J2 l=l.map λx => .agg x.c:=by
 induction l with
 | nil=>rfl
 | cons x l ih=>show x.e::Regex.es l=_;rw [show Regex.es l=_ from ih,o9];rfl
def Vj(l:List Regex):(J2 l).length=l.length:=by simp [Mw]
def IOq{l:List Regex}{i:Nat}{x:Regex}(h:l[i]? =some x):(J2 l)[i]? =some (.agg x.c):=by simp [Mw,h]
def Vi{l:List Regex}{x:Regex}(h:x∈l): .agg x.c∈J2 l:=by rw [Mw];exact AP.2 ⟨x,h,rfl⟩
def sy{l:List Regex}{B:Nat}(h:FR (J2 l)<=B){x:Regex}(hx:x∈l):(.agg x.c:AV).bulk<=B:=AK (Ft (Vi hx)) h
def sw{l:List Regex}{B:Nat}(h:FR (J2 l)<=B):l.length<=B:=by
 refine AK ?_ h
 rw [Mw];exact HO (f:=λ(x:Regex) => .agg x.c) (λx=>by exact yO x) l
def bq(x:Regex)(o0:Option Nat):(x.cf o0).length=3:=rfl
def br(x:Regex)(o0:Option Nat):(x.cf o0).map borrow1=x.cf none:=rfl
def bp(x:Regex)(o0:Option Nat):(x.cf o0).any GE=(o0.isSome):=by
 cases o0<;>rfl
def YD(x:Regex)(o0:Option Nat):(x.cf o0).take 3=x.cf o0:=rfl
def Regex.cf_pure(x:Regex)(o0:Option Nat):A' (x.cf o0)=true:=by
 simp [Regex.cf,A',AV.pure,Od]
def R5(k:Nat)(x:Regex)(o0:Option Nat):Fo k (x.cf o0)=true:=by
 simp [Regex.cf,Fo,AV.bnd,Qa]
def Regex.c_bnd(k:Nat)(x:Regex):Fo k x.c=true:=R5 k x none
def PE{x:Regex}(h:HY x.c):x.args.length<=9223372036854775807:=by
 have h1:(AV.sl none (J2 x.args)).fit:=Fw.1 h _ (AB (i:=2) rfl)
 have h2:=h1.1
 rwa [Vj] at h2
def YE{x:Regex}{B:Nat}(h:FR x.c<=B):x.node.size<=B:=HF (AB (i:=1) rfl) h
def QF{x:Regex}{B:Nat}(h:FR x.c<=B):FR (J2 x.args)<=B:=Gq (o:=none) (AB (i:=2) rfl) h
def bt(x:Regex)(o0:Option Nat):(x.cf o0)[0]? =some (.int .i64 x.kind)/\(x.cf o0)[1]? =some (.str x.node)/\(x.cf o0)[2]? =some (.sl o0 (J2 x.args)):=⟨rfl,rfl,rfl⟩
def Regex.z:Regex:=⟨0,.empty,[]⟩
def Regex.zero:Fi AA 214=some (.agg (Regex.z.cf (some 3))):=kr
def Regex.ok(_:Regex):Prop:=True
def ZW : ∀ (n:Nat) {a:AV},SizeOf.sizeOf a<=n->Rd AA 214 a -> ∃ x:Regex,a = .agg x.c/\x.ok
 | 0,a,hn,h=>by cases a<;>simp at hn
 | n+1,a,hn,h=>by
  obtain ⟨ps,rfl,hp⟩:=GJ (ts:=[3,9,212]) kr h
  obtain ⟨a0,a1,a2,rfl,g0,g1,g2⟩:=I8 hp
  obtain ⟨v0,rfl,k0⟩:=LI g0
  obtain ⟨v1,rfl,k1⟩:=cT g1
  obtain ⟨es,rfl,hb,he⟩:=PF (e:=214) kr g2
  obtain ⟨v2,rfl,hok⟩:=Z8 (f:=λx:Regex => .agg x.c) (ok:=Regex.ok) λx hx=>ZW n (by
   have h1:=DE hx
   have h2:=BR (Zk (o:=none) (es:=es) (by simp [HU,AV.cells])) hn
   omega) (he x hx)
  rw [Aq,show AA.bytesOf 214=48 by kernel_rfl] at hb
  refine ⟨⟨v0,v1,v2⟩, ?_,trivial⟩
  rw [<- Mw];rfl
def Regex.rd{a:AV}(h:Rd AA 214 a): ∃ x:Regex,a = .agg x.c/\x.ok:=ZW _ (AU _) h
def HD(l:List ByteArray):List AV:=l.map λx => .str x
def Lw(l:List ByteArray):(HD l).length=l.length:=by simp [HD]
def Fv{l:List ByteArray}{i:Nat}{x:ByteArray}(h:l[i]? =some x):(HD l)[i]? =some (.str x):=by simp [HD,h]
def ABA{l:List ByteArray}{x:ByteArray}(h:x∈l): .str x∈HD l:=by rw [HD];exact AP.2 ⟨x,h,rfl⟩
def mN(l:List ByteArray): ∀ x∈HD l,x.cells.length=1:=by
 intro x hx;obtain ⟨y,_,rfl⟩:=AP.1 hx;rfl
def fP(l:List ByteArray):(∀ x∈HD l,x.cells.length=1)=True:=eq_true (mN l)
def AA9:HD []=[]:=rfl
def mL(l:List ByteArray)(k:Nat):(HD l).take k=HD (l.take k):=by simp [HD]
def sj(a:List ByteArray)(x:ByteArray):HD a++[.str x]=HD (a++[x]):=by simp [HD]
def PW(l:List ByteArray):A' (HD l)=true:=by
 induction l with
 | nil=>rfl
 | cons x xs ih=>simpa [HD,A',AV.pure] using ih
def RZ(k:Nat)(l:List ByteArray):Fo k (HD l)=true:=Ho λx=>rfl
def AFD{l:List ByteArray}{B:Nat}(h:FR (HD l)<=B){x:ByteArray}(hx:x∈l):(.str x:AV).bulk<=B:=AK (Ft (ABA hx)) h
def Uf{l:List ByteArray}{B:Nat}(h:FR (HD l)<=B):l.length<=B:=by
 refine AK ?_ h
 exact HO (f:=λ(x:ByteArray) => .str x) (λx=>by simp [AV.bulk]) l
def AFC(l:List ByteArray):Prop:=l.length*16<=reachBytes /\ ∀ x∈l,x.size<=reachBytes
def mM{a:AV}(h:Rd AA 118 a): ∃ l,a = .sl none (HD l)/\AFC l:=by
 obtain ⟨l,h1,h2,h3⟩:=IR (f:=λ(x:ByteArray) => .str x) (ok:=λ(x:ByteArray)=>x.size<=reachBytes) (P:=AA) (t:=118) (e:=9) kr (λx hx=>cT hx) h
 exact ⟨l,h1,by rw [show AA.bytesOf 9=16 by kernel_rfl] at h2;exact h2,h3⟩
@[ext] structure Stp where
 kind:Int
 var:ByteArray
 key:List ByteArray
 field:ByteArray
 n:Int
 m:Int
 deriving DecidableEq,Inhabited
def Stp.cf(x:Stp)(o0:Option Nat):List AV:=[.int .i64 x.kind,.str x.var,.sl o0 (HD x.key),.str x.field,.int .i64 x.n,.int .i64 x.m]
abbrev Stp.c(x:Stp):List AV:=x.cf none
def oo(x:Stp)(o0:Option Nat):(x.cf o0).length=6:=rfl
def oq(x:Stp)(o0:Option Nat):(x.cf o0).map borrow1=x.cf none:=rfl
def og(x:Stp)(o0:Option Nat):(x.cf o0).any GE=(o0.isSome):=by
 cases o0<;>rfl
def jb(x:Stp)(o0:Option Nat):(x.cf o0).take 6=x.cf o0:=rfl
def Stp.cf_pure(x:Stp)(o0:Option Nat):A' (x.cf o0)=true:=by
 simp [Stp.cf,A',AV.pure,PW]
def Wt(k:Nat)(x:Stp)(o0:Option Nat):Fo k (x.cf o0)=true:=by
 simp [Stp.cf,Fo,AV.bnd,RZ]
def Stp.c_bnd(k:Nat)(x:Stp):Fo k x.c=true:=Wt k x none
def ja{x:Stp}(h:HY x.c):x.key.length<=9223372036854775807:=by
 have h1:(AV.sl none (HD x.key)).fit:=Fw.1 h _ (AB (i:=2) rfl)
 have h2:=h1.1
 rwa [Lw] at h2
def oz{x:Stp}{B:Nat}(h:FR x.c<=B):x.var.size<=B:=HF (AB (i:=1) rfl) h
def MA{x:Stp}{B:Nat}(h:FR x.c<=B):FR (HD x.key)<=B:=Gq (o:=none) (AB (i:=2) rfl) h
def bS{x:Stp}{B:Nat}(h:FR x.c<=B):x.field.size<=B:=HF (AB (i:=3) rfl) h
def ou(x:Stp)(o0:Option Nat):(x.cf o0)[0]? =some (.int .i64 x.kind)/\(x.cf o0)[1]? =some (.str x.var)/\(x.cf o0)[2]? =some (.sl o0 (HD x.key))/\(x.cf o0)[3]? =some (.str x.field)/\(x.cf o0)[4]? =some (.int .i64 x.n)/\(x.cf o0)[5]? =some (.int .i64 x.m):=⟨rfl,rfl,rfl,rfl,rfl,rfl⟩
def Stp.z:Stp:=⟨0,.empty,[],.empty,0,0⟩
def Stp.zero:Fi AA 126=some (.agg (Stp.z.cf (some 1))):=kr
def Stp.ok(_:Stp):Prop:=True
def Stp.rd{a:AV}(h:Rd AA 126 a): ∃ x:Stp,a = .agg x.c/\x.ok:=by
 obtain ⟨ps,rfl,hp⟩:=GJ (ts:=[3,9,118,9,3,3]) kr h
 obtain ⟨a0,a1,a2,a3,a4,a5,rfl,g0,g1,g2,g3,g4,g5⟩:=R6 hp
 obtain ⟨v0,rfl,k0⟩:=LI g0
 obtain ⟨v1,rfl,k1⟩:=cT g1
 obtain ⟨v2,rfl,k2⟩:=mM g2
 obtain ⟨v3,rfl,k3⟩:=cT g3
 obtain ⟨v4,rfl,k4⟩:=LI g4
 obtain ⟨v5,rfl,k5⟩:=LI g5
 exact ⟨⟨v0,v1,v2,v3,v4,v5⟩,rfl,trivial⟩
@[ext] structure Stage where
 policy:Policy
 step:Stp
 deriving Inhabited
def Stage.cf(x:Stage)(o0 o1 o2:Option Nat):List AV:=[.int .i64 x.policy.kind,.int .i64 x.policy.pred.kind,.str x.policy.pred.field,.int .i64 x.policy.pred.n,.int .i64 x.policy.pred.m,.sl o0 (GH x.policy.pred.args),.str x.policy.field,.int .i64 x.policy.n,.sl o1 (F3 x.policy.args),.int .i64 x.step.kind,.str x.step.var,.sl o2 (HD x.step.key),.str x.step.field,.int .i64 x.step.n,.int .i64 x.step.m]
abbrev Stage.c(x:Stage):List AV:=x.cf none none none
def yM(x:Stage):1<=FR x.c:=by
 have h1:1<=(.int .i64 x.policy.kind:AV).bulk:=by simp [AV.bulk]
 exact AK h1 (Ft (AB (i:=0) rfl))
def bU(x:Stage)(o0 o1 o2:Option Nat):(x.cf o0 o1 o2).length=15:=rfl
def bV(x:Stage)(o0 o1 o2:Option Nat):(x.cf o0 o1 o2).map borrow1=x.cf none none none:=rfl
def bT(x:Stage)(o0 o1 o2:Option Nat):(x.cf o0 o1 o2).any GE=(o0.isSome||o1.isSome||o2.isSome):=by
 cases o0<;>cases o1<;>cases o2<;>rfl
def X8(x:Stage)(o0 o1 o2:Option Nat):(x.cf o0 o1 o2).take 15=x.cf o0 o1 o2:=rfl
def Stage.cf_pure(x:Stage)(o0 o1 o2:Option Nat):A' (x.cf o0 o1 o2)=true:=by
 simp [Stage.cf,A',AV.pure,Nf,Je,PW]
def bX(x:Stage):A' x.c=true:=x.cf_pure none none none
def R0(k:Nat)(x:Stage)(o0 o1 o2:Option Nat):Fo k (x.cf o0 o1 o2)=true:=by
 simp [Stage.cf,Fo,AV.bnd,Oe,KY,RZ]
def Stage.c_bnd(k:Nat)(x:Stage):Fo k x.c=true:=R0 k x none none none
def Hu{x:Stage}{B:Nat}(h:FR x.c<=B):FR x.policy.c<=B:=by
 have h1:=Hf x.c 0 9
 rw [show (x.c.drop 0).take 9=x.policy.c from rfl] at h1
 omega
def Ky{x:Stage}{B:Nat}(h:FR x.c<=B):FR x.step.c<=B:=by
 have h1:=Hf x.c 9 6
 rw [show (x.c.drop 9).take 6=x.step.c from rfl] at h1
 omega
def bW(x:Stage)(o0 o1 o2:Option Nat):(x.cf o0 o1 o2)[9]? =some (.int .i64 x.step.kind)/\(x.cf o0 o1 o2)[10]? =some (.str x.step.var)/\(x.cf o0 o1 o2)[11]? =some (.sl o2 (HD x.step.key)):=⟨rfl,rfl,rfl⟩
def PD(x:Stage)(o0 o1 o2:Option Nat):(x.cf o0 o1 o2).take 9=x.policy.cf o0 o1:=rfl
def PC(x:Stage)(v:Policy)(o0 o1 o2:Option Nat)(p0 p1:Option Nat):Hs (x.cf o0 o1 o2) (v.cf p0 p1)=({ x with policy:=v }:Stage).cf p0 p1 o2:=rfl
def Q0(x:Stage)(o0 o1 o2:Option Nat):((x.cf o0 o1 o2).drop 9).take 6=x.step.cf o2:=rfl
def Rz(x:Stage)(v:Stp)(o0 o1 o2:Option Nat)(p0:Option Nat):splice (x.cf o0 o1 o2) 9 (v.cf p0)=({ x with step:=v }:Stage).cf o0 o1 p0:=rfl
def Stage.z:Stage:=⟨⟨0,⟨0,.empty,0,0,[]⟩,.empty,0,[]⟩,⟨0,.empty,[],.empty,0,0⟩⟩
def Stage.zero:Fi AA 128=some (.agg (Stage.z.cf (some 5) (some 9) (some 1))):=kr
def Stage.ok(_:Stage):Prop:=True
def Stage.rd{a:AV}(h:Rd AA 128 a): ∃ x:Stage,a = .agg x.c/\x.ok:=by
 obtain ⟨ps,rfl,hp⟩:=GJ (ts:=[123,126]) kr h
 obtain ⟨a0,a1,rfl,g0,g1⟩:=H6 hp
 obtain ⟨v0,rfl,k0⟩:=Policy.rd g0
 obtain ⟨v1,rfl,k1⟩:=Stp.rd g1
 exact ⟨⟨v0,v1⟩,rfl,trivial⟩
@[ext] structure Route where
 pred:Pred
 path:Regex
 deriving Inhabited
def Route.cf(x:Route)(o0 o1:Option Nat):List AV:=[.int .i64 x.pred.kind,.str x.pred.field,.int .i64 x.pred.n,.int .i64 x.pred.m,.sl o0 (GH x.pred.args),.int .i64 x.path.kind,.str x.path.node,.sl o1 (J2 x.path.args)]
abbrev Route.c(x:Route):List AV:=x.cf none none
def yN(x:Route):1<=FR x.c:=by
 have h1:1<=(.int .i64 x.pred.kind:AV).bulk:=by simp [AV.bulk]
 exact AK h1 (Ft (AB (i:=0) rfl))
def bj(x:Route)(o0 o1:Option Nat):(x.cf o0 o1).length=8:=rfl
def bk(x:Route)(o0 o1:Option Nat):(x.cf o0 o1).map borrow1=x.cf none none:=rfl
def bi(x:Route)(o0 o1:Option Nat):(x.cf o0 o1).any GE=(o0.isSome||o1.isSome):=by
 cases o0<;>cases o1<;>rfl
def Route.cf_pure(x:Route)(o0 o1:Option Nat):A' (x.cf o0 o1)=true:=by
 simp [Route.cf,A',AV.pure,Je,Od]
def bn(x:Route):A' x.c=true:=x.cf_pure none none
def R4(k:Nat)(x:Route)(o0 o1:Option Nat):Fo k (x.cf o0 o1)=true:=by
 simp [Route.cf,Fo,AV.bnd,KY,Qa]
def Route.c_bnd(k:Nat)(x:Route):Fo k x.c=true:=R4 k x none none
def YB{x:Route}{B:Nat}(h:FR x.c<=B):FR x.pred.c<=B:=by
 have h1:=Hf x.c 0 5
 rw [show (x.c.drop 0).take 5=x.pred.c from rfl] at h1
 omega
def YC{x:Route}{B:Nat}(h:FR x.c<=B):FR x.path.c<=B:=by
 have h1:=Hf x.c 5 3
 rw [show (x.c.drop 5).take 3=x.path.c from rfl] at h1
 omega
def Q2(x:Route)(o0 o1:Option Nat):(x.cf o0 o1).take 5=x.pred.cf o0:=rfl
def Q3(x:Route)(o0 o1:Option Nat):((x.cf o0 o1).drop 5).take 3=x.path.cf o1:=rfl
def Route.z:Route:=⟨⟨0,.empty,0,0,[]⟩,⟨0,.empty,[]⟩⟩
def Route.ok(_:Route):Prop:=True
def Route.rd{a:AV}(h:Rd AA 216 a): ∃ x:Route,a = .agg x.c/\x.ok:=by
 obtain ⟨ps,rfl,hp⟩:=GJ (ts:=[64,214]) kr h
 obtain ⟨a0,a1,rfl,g0,g1⟩:=H6 hp
 obtain ⟨v0,rfl,k0⟩:=Pred.rd g0
 obtain ⟨v1,rfl,k1⟩:=Regex.rd g1
 exact ⟨⟨v0,v1⟩,rfl,trivial⟩
@[ext] structure Demand where
 src:Int
 dst:Int
 floor:Int
 ceiling:Int
 deriving DecidableEq,Inhabited
def Demand.c(x:Demand):List AV:=[.int .i64 x.src,.int .i64 x.dst,.int .i64 x.floor,.int .i64 x.ceiling]
def pR(x:Demand):1<=FR x.c:=by
 have h1:1<=(.int .i64 x.src:AV).bulk:=by simp [AV.bulk]
 exact AK h1 (Ft (AB (i:=0) rfl))
def YN(x:Demand):x.c.length=4:=rfl
def YO(x:Demand):x.c.map borrow1=x.c:=rfl
def YM(x:Demand):x.c.any GE=false:=by
 rfl
def W7(x:Demand):x.c.take 4=x.c:=rfl
def Demand.cf_pure(x:Demand):A' x.c=true:=by
 simp [Demand.c,A',AV.pure]
def YQ(x:Demand):A' x.c=true:=x.cf_pure
def QI(k:Nat)(x:Demand):Fo k x.c=true:=by
 simp [Demand.c,Fo,AV.bnd]
def Demand.c_bnd(k:Nat)(x:Demand):Fo k x.c=true:=QI k x
def YP(x:Demand):x.c[0]? =some (.int .i64 x.src)/\x.c[1]? =some (.int .i64 x.dst)/\x.c[2]? =some (.int .i64 x.floor)/\x.c[3]? =some (.int .i64 x.ceiling):=⟨rfl,rfl,rfl,rfl⟩
def Demand.z:Demand:=⟨0,0,0,0⟩
def Demand.zero:Fi AA 246=some (.agg Demand.z.c):=kr
def Demand.ok(_:Demand):Prop:=True
def Demand.rd{a:AV}(h:Rd AA 246 a): ∃ x:Demand,a = .agg x.c/\x.ok:=by
 obtain ⟨ps,rfl,hp⟩:=GJ (ts:=[3,3,3,3]) kr h
 obtain ⟨a0,a1,a2,a3,rfl,g0,g1,g2,g3⟩:=Lh hp
 obtain ⟨v0,rfl,k0⟩:=LI g0
 obtain ⟨v1,rfl,k1⟩:=LI g1
 obtain ⟨v2,rfl,k2⟩:=LI g2
 obtain ⟨v3,rfl,k3⟩:=LI g3
 exact ⟨⟨v0,v1,v2,v3⟩,rfl,trivial⟩
def KI(l:List Port):List AV:=l.map λx => .agg x.c
def Yx(l:List Port):(KI l).length=l.length:=by simp [KI]
def GV{l:List Port}{i:Nat}{x:Port}(h:l[i]? =some x):(KI l)[i]? =some (.agg x.c):=by simp [KI,h]
def s6{l:List Port}{x:Port}(h:x∈l): .agg x.c∈KI l:=by rw [KI];exact AP.2 ⟨x,h,rfl⟩
def Vm(l:List Port):A' (KI l)=true:=by
 induction l with
 | nil=>rfl
 | cons x xs ih=>simpa [KI,A',AV.pure] using ⟨jo x,ih⟩
def Yy(k:Nat)(l:List Port):Fo k (KI l)=true:=Ho λx=>Port.c_bnd k x
def ABC{l:List Port}{B:Nat}(h:FR (KI l)<=B){x:Port}(hx:x∈l):(.agg x.c:AV).bulk<=B:=AK (Ft (s6 hx)) h
def Vn{l:List Port}{B:Nat}(h:FR (KI l)<=B):l.length<=B:=by
 refine AK ?_ h
 exact HO (f:=λ(x:Port) => .agg x.c) (λx=>by exact ADg x) l
def ABB(l:List Port):Prop:=l.length*24<=reachBytes /\ ∀ x∈l,x.ok
def mR{a:AV}(h:Rd AA 82 a): ∃ l,a = .sl none (KI l)/\ABB l:=by
 obtain ⟨l,h1,h2,h3⟩:=IR (f:=λ(x:Port) => .agg x.c) (ok:=λ(x:Port)=>x.ok) (P:=AA) (t:=82) (e:=120) kr (λx hx=>Port.rd hx) h
 exact ⟨l,h1,by rw [show AA.bytesOf 120=24 by kernel_rfl] at h2;exact h2,h3⟩
def MJ(l:List Wire):List AV:=l.map λx => .agg x.c
def sf(l:List Wire):(MJ l).length=l.length:=by simp [MJ]
def Gr{l:List Wire}{i:Nat}{x:Wire}(h:l[i]? =some x):(MJ l)[i]? =some (.agg x.c):=by simp [MJ,h]
def Vd(l:List Wire):A' (MJ l)=true:=by
 induction l with
 | nil=>rfl
 | cons x xs ih=>simpa [MJ,A',AV.pure] using ⟨jY x,ih⟩
def Yw(k:Nat)(l:List Wire):Fo k (MJ l)=true:=Ho λx=>Wire.c_bnd k x
def Oc{l:List Wire}{B:Nat}(h:FR (MJ l)<=B):l.length<=B:=by
 refine AK ?_ h
 exact HO (f:=λ(x:Wire) => .agg x.c) (λx=>by exact ADa x) l
def AA6(l:List Wire):Prop:=l.length*16<=reachBytes /\ ∀ x∈l,x.ok
def mI{a:AV}(h:Rd AA 83 a): ∃ l,a = .sl none (MJ l)/\AA6 l:=by
 obtain ⟨l,h1,h2,h3⟩:=IR (f:=λ(x:Wire) => .agg x.c) (ok:=λ(x:Wire)=>x.ok) (P:=AA) (t:=83) (e:=252) kr (λx hx=>Wire.rd hx) h
 exact ⟨l,h1,by rw [show AA.bytesOf 252=16 by kernel_rfl] at h2;exact h2,h3⟩
def F9(l:List Stage):List AV:=l.map λx => .agg x.c
def Nd(l:List Stage):(F9 l).length=l.length:=by simp [F9]
def Fg{l:List Stage}{i:Nat}{x:Stage}(h:l[i]? =some x):(F9 l)[i]? =some (.agg x.c):=by simp [F9,h]
def mO{l:List Stage}{x:Stage}(h:x∈l): .agg x.c∈F9 l:=by rw [F9];exact AP.2 ⟨x,h,rfl⟩
def aF(l:List Stage): ∀ x∈F9 l,x.cells.length=15:=by
 intro x hx;obtain ⟨y,_,rfl⟩:=AP.1 hx;rfl
def XZ(l:List Stage):(∀ x∈F9 l,x.cells.length=15)=True:=eq_true (aF l)
def mP(a b:List Stage):F9 a++F9 b=F9 (a++b):=by simp [F9]
def TZ(l:List Stage):A' (F9 l)=true:=by
 induction l with
 | nil=>rfl
 | cons x xs ih=>simpa [F9,A',AV.pure] using ⟨bX x,ih⟩
def Vf(k:Nat)(l:List Stage):Fo k (F9 l)=true:=Ho λx=>Stage.c_bnd k x
def KW{l:List Stage}{B:Nat}(h:FR (F9 l)<=B){x:Stage}(hx:x∈l):(.agg x.c:AV).bulk<=B:=AK (Ft (mO hx)) h
def Mv{l:List Stage}{B:Nat}(h:FR (F9 l)<=B):l.length<=B:=by
 refine AK ?_ h
 exact HO (f:=λ(x:Stage) => .agg x.c) (λx=>by exact yM x) l
def sk(l:List Stage):Prop:=l.length*200<=reachBytes /\ ∀ x∈l,x.ok
def fQ{a:AV}(h:Rd AA 85 a): ∃ l,a = .sl none (F9 l)/\sk l:=by
 obtain ⟨l,h1,h2,h3⟩:=IR (f:=λ(x:Stage) => .agg x.c) (ok:=λ(x:Stage)=>x.ok) (P:=AA) (t:=85) (e:=128) kr (λx hx=>Stage.rd hx) h
 exact ⟨l,h1,by rw [show AA.bytesOf 128=200 by kernel_rfl] at h2;exact h2,h3⟩
def JE(l:List Route):List AV:=l.map λx => .agg x.c
def Vg(l:List Route):(JE l).length=l.length:=by simp [JE]
def KX{l:List Route}{i:Nat}{x:Route}(h:l[i]? =some x):(JE l)[i]? =some (.agg x.c):=by simp [JE,h]
def mQ{l:List Route}{x:Route}(h:x∈l): .agg x.c∈JE l:=by rw [JE];exact AP.2 ⟨x,h,rfl⟩
def Ta(l:List Route):A' (JE l)=true:=by
 induction l with
 | nil=>rfl
 | cons x xs ih=>simpa [JE,A',AV.pure] using ⟨bn x,ih⟩
def Vh(k:Nat)(l:List Route):Fo k (JE l)=true:=Ho λx=>Route.c_bnd k x
def sr{l:List Route}{B:Nat}(h:FR (JE l)<=B){x:Route}(hx:x∈l):(.agg x.c:AV).bulk<=B:=AK (Ft (mQ hx)) h
def sq{l:List Route}{B:Nat}(h:FR (JE l)<=B):l.length<=B:=by
 refine AK ?_ h
 exact HO (f:=λ(x:Route) => .agg x.c) (λx=>by exact yN x) l
def so(l:List Route):Prop:=l.length*112<=reachBytes /\ ∀ x∈l,x.ok
def fR{a:AV}(h:Rd AA 86 a): ∃ l,a = .sl none (JE l)/\so l:=by
 obtain ⟨l,h1,h2,h3⟩:=IR (f:=λ(x:Route) => .agg x.c) (ok:=λ(x:Route)=>x.ok) (P:=AA) (t:=86) (e:=216) kr (λx hx=>Route.rd hx) h
 exact ⟨l,h1,by rw [show AA.bytesOf 216=112 by kernel_rfl] at h2;exact h2,h3⟩
def JU(l:List Demand):List AV:=l.map λx => .agg x.c
def ff(l:List Demand):(JU l).length=l.length:=by simp [JU]
def In{l:List Demand}{i:Nat}{x:Demand}(h:l[i]? =some x):(JU l)[i]? =some (.agg x.c):=by simp [JU,h]
def Rb(l:List Demand):A' (JU l)=true:=by
 induction l with
 | nil=>rfl
 | cons x xs ih=>simpa [JU,A',AV.pure] using ⟨YQ x,ih⟩
def Te(k:Nat)(l:List Demand):Fo k (JU l)=true:=Ho λx=>Demand.c_bnd k x
def ma{l:List Demand}{B:Nat}(h:FR (JU l)<=B):l.length<=B:=by
 refine AK ?_ h
 exact HO (f:=λ(x:Demand) => .agg x.c) (λx=>by exact pR x) l
def mZ(l:List Demand):Prop:=l.length*32<=reachBytes /\ ∀ x∈l,x.ok
def aJ{a:AV}(h:Rd AA 87 a): ∃ l,a = .sl none (JU l)/\mZ l:=by
 obtain ⟨l,h1,h2,h3⟩:=IR (f:=λ(x:Demand) => .agg x.c) (ok:=λ(x:Demand)=>x.ok) (P:=AA) (t:=87) (e:=246) kr (λx hx=>Demand.rd hx) h
 exact ⟨l,h1,by rw [show AA.bytesOf 246=32 by kernel_rfl] at h2;exact h2,h3⟩
@[ext] structure Tenant where
 name:ByteArray
 ports:List Port
 wires:List Wire
 program:List Stage
 routes:List Route
 demands:List Demand
 deriving Inhabited
def Tenant.cf(x:Tenant)(o0 o1 o2 o3 o4:Option Nat):List AV:=[.str x.name,.sl o0 (KI x.ports),.sl o1 (MJ x.wires),.sl o2 (F9 x.program),.sl o3 (JE x.routes),.sl o4 (JU x.demands)]
abbrev Tenant.c(x:Tenant):List AV:=x.cf none none none none none
def oe(x:Tenant):1<=FR x.c:=by
 have h1:1<=(.str x.name:AV).bulk:=by simp [AV.bulk]
 exact AK h1 (Ft (AB (i:=0) rfl))
def Xz(x:Tenant)(o0 o1 o2 o3 o4:Option Nat):(x.cf o0 o1 o2 o3 o4).length=6:=rfl
def X5(x:Tenant)(o0 o1 o2 o3 o4:Option Nat):(x.cf o0 o1 o2 o3 o4).map borrow1=x.cf none none none none none:=rfl
def Xy(x:Tenant)(o0 o1 o2 o3 o4:Option Nat):(x.cf o0 o1 o2 o3 o4).any GE=(o0.isSome||o1.isSome||o2.isSome||o3.isSome||o4.isSome):=by
 cases o0<;>cases o1<;>cases o2<;>cases o3<;>cases o4<;>rfl
def Wr(x:Tenant)(o0 o1 o2 o3 o4:Option Nat):(x.cf o0 o1 o2 o3 o4).take 6=x.cf o0 o1 o2 o3 o4:=rfl
def Tenant.cf_pure(x:Tenant)(o0 o1 o2 o3 o4:Option Nat):A' (x.cf o0 o1 o2 o3 o4)=true:=by
 simp [Tenant.cf,A',AV.pure,Rb,Vm,Ta,TZ,Vd]
def X7(x:Tenant):A' x.c=true:=x.cf_pure none none none none none
def QE(k:Nat)(x:Tenant)(o0 o1 o2 o3 o4:Option Nat):Fo k (x.cf o0 o1 o2 o3 o4)=true:=by
 simp [Tenant.cf,Fo,AV.bnd,Te,Yy,Vh,Vf,Yw]
def Tenant.c_bnd(k:Nat)(x:Tenant):Fo k x.c=true:=QE k x none none none none none
def NE{x:Tenant}(h:HY x.c):x.ports.length<=9223372036854775807:=by
 have h1:(AV.sl none (KI x.ports)).fit:=Fw.1 h _ (AB (i:=1) rfl)
 have h2:=h1.1
 rwa [Yx] at h2
def Qz{x:Tenant}(h:HY x.c):x.program.length<=9223372036854775807:=by
 have h1:(AV.sl none (F9 x.program)).fit:=Fw.1 h _ (AB (i:=3) rfl)
 have h2:=h1.1
 rwa [Nd] at h2
def Rx{x:Tenant}(h:HY x.c):x.routes.length<=9223372036854775807:=by
 have h1:(AV.sl none (JE x.routes)).fit:=Fw.1 h _ (AB (i:=4) rfl)
 have h2:=h1.1
 rwa [Vg] at h2
def Ws{x:Tenant}{B:Nat}(h:FR x.c<=B):x.name.size<=B:=HF (AB (i:=0) rfl) h
def LM{x:Tenant}{B:Nat}(h:FR x.c<=B):FR (KI x.ports)<=B:=Gq (o:=none) (AB (i:=1) rfl) h
def Ib{x:Tenant}{B:Nat}(h:FR x.c<=B):FR (MJ x.wires)<=B:=Gq (o:=none) (AB (i:=2) rfl) h
def Hb{x:Tenant}{B:Nat}(h:FR x.c<=B):FR (F9 x.program)<=B:=Gq (o:=none) (AB (i:=3) rfl) h
def TA{x:Tenant}{B:Nat}(h:FR x.c<=B):FR (JE x.routes)<=B:=Gq (o:=none) (AB (i:=4) rfl) h
def Ry{x:Tenant}{B:Nat}(h:FR x.c<=B):FR (JU x.demands)<=B:=Gq (o:=none) (AB (i:=5) rfl) h
def X6(x:Tenant)(o0 o1 o2 o3 o4:Option Nat):(x.cf o0 o1 o2 o3 o4)[0]? =some (.str x.name)/\(x.cf o0 o1 o2 o3 o4)[1]? =some (.sl o0 (KI x.ports))/\(x.cf o0 o1 o2 o3 o4)[2]? =some (.sl o1 (MJ x.wires))/\(x.cf o0 o1 o2 o3 o4)[3]? =some (.sl o2 (F9 x.program))/\(x.cf o0 o1 o2 o3 o4)[4]? =some (.sl o3 (JE x.routes))/\(x.cf o0 o1 o2 o3 o4)[5]? =some (.sl o4 (JU x.demands)):=⟨rfl,rfl,rfl,rfl,rfl,rfl⟩
def Tenant.z:Tenant:=⟨.empty,[],[],[],[],[]⟩
def Tenant.zero:Fi AA 89=some (.agg (Tenant.z.cf (some 2) (some 2) (some 15) (some 8) (some 4))):=kr
def Tenant.ok(_:Tenant):Prop:=True
def Tenant.rd{a:AV}(h:Rd AA 89 a): ∃ x:Tenant,a = .agg x.c/\x.ok:=by
 obtain ⟨ps,rfl,hp⟩:=GJ (ts:=[9,82,83,85,86,87]) kr h
 obtain ⟨a0,a1,a2,a3,a4,a5,rfl,g0,g1,g2,g3,g4,g5⟩:=R6 hp
 obtain ⟨v0,rfl,k0⟩:=cT g0
 obtain ⟨v1,rfl,k1⟩:=mR g1
 obtain ⟨v2,rfl,k2⟩:=mI g2
 obtain ⟨v3,rfl,k3⟩:=fQ g3
 obtain ⟨v4,rfl,k4⟩:=fR g4
 obtain ⟨v5,rfl,k5⟩:=aJ g5
 exact ⟨⟨v0,v1,v2,v3,v4,v5⟩,rfl,trivial⟩
@[ext] structure Node where
 name:ByteArray
 box:Bool
 rules:Int
 entries:Int
 deriving DecidableEq,Inhabited
def Node.c(x:Node):List AV:=[.str x.name,.bool x.box,.int .i64 x.rules,.int .i64 x.entries]
def ADj(x:Node):1<=FR x.c:=by
 have h1:1<=(.str x.name:AV).bulk:=by simp [AV.bulk]
 exact AK h1 (Ft (AB (i:=0) rfl))
def jw(x:Node):x.c.length=4:=rfl
def jx(x:Node):x.c.map borrow1=x.c:=rfl
def jv(x:Node):x.c.any GE=false:=by
 rfl
def b7(x:Node):x.c.take 4=x.c:=rfl
def Node.cf_pure(x:Node):A' x.c=true:=by
 simp [Node.c,A',AV.pure]
def jz(x:Node):A' x.c=true:=x.cf_pure
def Tt(k:Nat)(x:Node):Fo k x.c=true:=by
 simp [Node.c,Fo,AV.bnd]
def Node.c_bnd(k:Nat)(x:Node):Fo k x.c=true:=Tt k x
def b8{x:Node}{B:Nat}(h:FR x.c<=B):x.name.size<=B:=HF (AB (i:=0) rfl) h
def jy(x:Node):x.c[0]? =some (.str x.name)/\x.c[1]? =some (.bool x.box)/\x.c[2]? =some (.int .i64 x.rules)/\x.c[3]? =some (.int .i64 x.entries):=⟨rfl,rfl,rfl,rfl⟩
def Node.z:Node:=⟨.empty,false,0,0⟩
def Node.zero:Fi AA 117=some (.agg Node.z.c):=kr
def Node.ok(_:Node):Prop:=True
def Node.rd{a:AV}(h:Rd AA 117 a): ∃ x:Node,a = .agg x.c/\x.ok:=by
 obtain ⟨ps,rfl,hp⟩:=GJ (ts:=[9,4,3,3]) kr h
 obtain ⟨a0,a1,a2,a3,rfl,g0,g1,g2,g3⟩:=Lh hp
 obtain ⟨v0,rfl,k0⟩:=cT g0
 obtain ⟨v1,rfl,k1⟩:=Wu (t:=4) kr g1
 obtain ⟨v2,rfl,k2⟩:=LI g2
 obtain ⟨v3,rfl,k3⟩:=LI g3
 exact ⟨⟨v0,v1,v2,v3⟩,rfl,trivial⟩
@[ext] structure Link where
 src:Int
 dst:Int
 capacity:Int
 deriving DecidableEq,Inhabited
def Link.c(x:Link):List AV:=[.int .i64 x.src,.int .i64 x.dst,.int .i64 x.capacity]
def ADm(x:Link):1<=FR x.c:=by
 have h1:1<=(.int .i64 x.src:AV).bulk:=by simp [AV.bulk]
 exact AK h1 (Ft (AB (i:=0) rfl))
def kA(x:Link):x.c.length=3:=rfl
def kB(x:Link):x.c.map borrow1=x.c:=rfl
def j3(x:Link):x.c.any GE=false:=by
 rfl
def b9(x:Link):x.c.take 3=x.c:=rfl
def Link.cf_pure(x:Link):A' x.c=true:=by
 simp [Link.c,A',AV.pure]
def kD(x:Link):A' x.c=true:=x.cf_pure
def Tu(k:Nat)(x:Link):Fo k x.c=true:=by
 simp [Link.c,Fo,AV.bnd]
def Link.c_bnd(k:Nat)(x:Link):Fo k x.c=true:=Tu k x
def kC(x:Link):x.c[0]? =some (.int .i64 x.src)/\x.c[1]? =some (.int .i64 x.dst)/\x.c[2]? =some (.int .i64 x.capacity):=⟨rfl,rfl,rfl⟩
def Link.z:Link:=⟨0,0,0⟩
def Link.zero:Fi AA 166=some (.agg Link.z.c):=kr
def Link.ok(_:Link):Prop:=True
def Link.rd{a:AV}(h:Rd AA 166 a): ∃ x:Link,a = .agg x.c/\x.ok:=by
 obtain ⟨ps,rfl,hp⟩:=GJ (ts:=[3,3,3]) kr h
 obtain ⟨a0,a1,a2,rfl,g0,g1,g2⟩:=I8 hp
 obtain ⟨v0,rfl,k0⟩:=LI g0
 obtain ⟨v1,rfl,k1⟩:=LI g1
 obtain ⟨v2,rfl,k2⟩:=LI g2
 exact ⟨⟨v0,v1,v2⟩,rfl,trivial⟩
@[ext] structure Edge where
 name:ByteArray
 node:Int
 deriving DecidableEq,Inhabited
def Edge.c(x:Edge):List AV:=[.str x.name,.int .i64 x.node]
def ADp(x:Edge):1<=FR x.c:=by
 have h1:1<=(.str x.name:AV).bulk:=by simp [AV.bulk]
 exact AK h1 (Ft (AB (i:=0) rfl))
def kR(x:Edge):x.c.length=2:=rfl
def kS(x:Edge):x.c.map borrow1=x.c:=rfl
def kQ(x:Edge):x.c.any GE=false:=by
 rfl
def Edge.cf_pure(x:Edge):A' x.c=true:=by
 simp [Edge.c,A',AV.pure]
def kU(x:Edge):A' x.c=true:=x.cf_pure
def Tx(k:Nat)(x:Edge):Fo k x.c=true:=by
 simp [Edge.c,Fo,AV.bnd]
def Edge.c_bnd(k:Nat)(x:Edge):Fo k x.c=true:=Tx k x
def cI{x:Edge}{B:Nat}(h:FR x.c<=B):x.name.size<=B:=HF (AB (i:=0) rfl) h
def kT(x:Edge):x.c[0]? =some (.str x.name)/\x.c[1]? =some (.int .i64 x.node):=⟨rfl,rfl⟩
def Edge.z:Edge:=⟨.empty,0⟩
def Edge.ok(_:Edge):Prop:=True
def Edge.rd{a:AV}(h:Rd AA 77 a): ∃ x:Edge,a = .agg x.c/\x.ok:=by
 obtain ⟨ps,rfl,hp⟩:=GJ (ts:=[9,3]) kr h
 obtain ⟨a0,a1,rfl,g0,g1⟩:=H6 hp
 obtain ⟨v0,rfl,k0⟩:=cT g0
 obtain ⟨v1,rfl,k1⟩:=LI g1
 exact ⟨⟨v0,v1⟩,rfl,trivial⟩
def J3(l:List Node):List AV:=l.map λx => .agg x.c
def s8(l:List Node):(J3 l).length=l.length:=by simp [J3]
def Mz{l:List Node}{i:Nat}{x:Node}(h:l[i]? =some x):(J3 l)[i]? =some (.agg x.c):=by simp [J3,h]
def s7{l:List Node}{x:Node}(h:x∈l): .agg x.c∈J3 l:=by rw [J3];exact AP.2 ⟨x,h,rfl⟩
def Qd(l:List Node):A' (J3 l)=true:=by
 induction l with
 | nil=>rfl
 | cons x xs ih=>simpa [J3,A',AV.pure] using ⟨jz x,ih⟩
def Sl(k:Nat)(l:List Node):Fo k (J3 l)=true:=Ho λx=>Node.c_bnd k x
def ABE{l:List Node}{B:Nat}(h:FR (J3 l)<=B){x:Node}(hx:x∈l):(.agg x.c:AV).bulk<=B:=AK (Ft (s7 hx)) h
def fZ{l:List Node}{B:Nat}(h:FR (J3 l)<=B):l.length<=B:=by
 refine AK ?_ h
 exact HO (f:=λ(x:Node) => .agg x.c) (λx=>by exact ADj x) l
def ABD(l:List Node):Prop:=l.length*40<=reachBytes /\ ∀ x∈l,x.ok
def mS{a:AV}(h:Rd AA 22 a): ∃ l,a = .sl none (J3 l)/\ABD l:=by
 obtain ⟨l,h1,h2,h3⟩:=IR (f:=λ(x:Node) => .agg x.c) (ok:=λ(x:Node)=>x.ok) (P:=AA) (t:=22) (e:=117) kr (λx hx=>Node.rd hx) h
 exact ⟨l,h1,by rw [show AA.bytesOf 117=40 by kernel_rfl] at h2;exact h2,h3⟩
def M0(l:List Link):List AV:=l.map λx => .agg x.c
def s9(l:List Link):(M0 l).length=l.length:=by simp [M0]
def Sm{l:List Link}{i:Nat}{x:Link}(h:l[i]? =some x):(M0 l)[i]? =some (.agg x.c):=by simp [M0,h]
def Qe(l:List Link):A' (M0 l)=true:=by
 induction l with
 | nil=>rfl
 | cons x xs ih=>simpa [M0,A',AV.pure] using ⟨kD x,ih⟩
def Sn(k:Nat)(l:List Link):Fo k (M0 l)=true:=Ho λx=>Link.c_bnd k x
def ABG{l:List Link}{B:Nat}(h:FR (M0 l)<=B):l.length<=B:=by
 refine AK ?_ h
 exact HO (f:=λ(x:Link) => .agg x.c) (λx=>by exact ADm x) l
def ABF(l:List Link):Prop:=l.length*24<=reachBytes /\ ∀ x∈l,x.ok
def mT{a:AV}(h:Rd AA 23 a): ∃ l,a = .sl none (M0 l)/\ABF l:=by
 obtain ⟨l,h1,h2,h3⟩:=IR (f:=λ(x:Link) => .agg x.c) (ok:=λ(x:Link)=>x.ok) (P:=AA) (t:=23) (e:=166) kr (λx hx=>Link.rd hx) h
 exact ⟨l,h1,by rw [show AA.bytesOf 166=24 by kernel_rfl] at h2;exact h2,h3⟩
def Jp(l:List Edge):List AV:=l.map λx => .agg x.c
def tH(l:List Edge):(Jp l).length=l.length:=by simp [Jp]
def M2{l:List Edge}{i:Nat}{x:Edge}(h:l[i]? =some x):(Jp l)[i]? =some (.agg x.c):=by simp [Jp,h]
def tG{l:List Edge}{x:Edge}(h:x∈l): .agg x.c∈Jp l:=by rw [Jp];exact AP.2 ⟨x,h,rfl⟩
def Qf(l:List Edge):A' (Jp l)=true:=by
 induction l with
 | nil=>rfl
 | cons x xs ih=>simpa [Jp,A',AV.pure] using ⟨kU x,ih⟩
def Sp(k:Nat)(l:List Edge):Fo k (Jp l)=true:=Ho λx=>Edge.c_bnd k x
def ABI{l:List Edge}{B:Nat}(h:FR (Jp l)<=B){x:Edge}(hx:x∈l):(.agg x.c:AV).bulk<=B:=AK (Ft (tG hx)) h
def Vu{l:List Edge}{B:Nat}(h:FR (Jp l)<=B):l.length<=B:=by
 refine AK ?_ h
 exact HO (f:=λ(x:Edge) => .agg x.c) (λx=>by exact ADp x) l
def ABH(l:List Edge):Prop:=l.length*24<=reachBytes /\ ∀ x∈l,x.ok
def mY{a:AV}(h:Rd AA 24 a): ∃ l,a = .sl none (Jp l)/\ABH l:=by
 obtain ⟨l,h1,h2,h3⟩:=IR (f:=λ(x:Edge) => .agg x.c) (ok:=λ(x:Edge)=>x.ok) (P:=AA) (t:=24) (e:=77) kr (λx hx=>Edge.rd hx) h
 exact ⟨l,h1,by rw [show AA.bytesOf 77=24 by kernel_rfl] at h2;exact h2,h3⟩
@[ext] structure Network where
 nodes:List Node
 links:List Link
 edges:List Edge
 deriving DecidableEq,Inhabited
def Network.cf(x:Network)(o0 o1 o2:Option Nat):List AV:=[.sl o0 (J3 x.nodes),.sl o1 (M0 x.links),.sl o2 (Jp x.edges)]
abbrev Network.c(x:Network):List AV:=x.cf none none none
def Wz(x:Network)(o0 o1 o2:Option Nat):(x.cf o0 o1 o2).length=3:=rfl
def W0(x:Network)(o0 o1 o2:Option Nat):(x.cf o0 o1 o2).map borrow1=x.cf none none none:=rfl
def Wy(x:Network)(o0 o1 o2:Option Nat):(x.cf o0 o1 o2).any GE=(o0.isSome||o1.isSome||o2.isSome):=by
 cases o0<;>cases o1<;>cases o2<;>rfl
def UJ(x:Network)(o0 o1 o2:Option Nat):(x.cf o0 o1 o2).take 3=x.cf o0 o1 o2:=rfl
def Network.cf_pure(x:Network)(o0 o1 o2:Option Nat):A' (x.cf o0 o1 o2)=true:=by
 simp [Network.cf,A',AV.pure,Qf,Qe,Qd]
def PI(k:Nat)(x:Network)(o0 o1 o2:Option Nat):Fo k (x.cf o0 o1 o2)=true:=by
 simp [Network.cf,Fo,AV.bnd,Sp,Sn,Sl]
def Network.c_bnd(k:Nat)(x:Network):Fo k x.c=true:=PI k x none none none
def NG{x:Network}{B:Nat}(h:FR x.c<=B):FR (J3 x.nodes)<=B:=Gq (o:=none) (AB (i:=0) rfl) h
def TD{x:Network}{B:Nat}(h:FR x.c<=B):FR (M0 x.links)<=B:=Gq (o:=none) (AB (i:=1) rfl) h
def NH{x:Network}{B:Nat}(h:FR x.c<=B):FR (Jp x.edges)<=B:=Gq (o:=none) (AB (i:=2) rfl) h
def W1(x:Network)(o0 o1 o2:Option Nat):(x.cf o0 o1 o2)[0]? =some (.sl o0 (J3 x.nodes))/\(x.cf o0 o1 o2)[1]? =some (.sl o1 (M0 x.links))/\(x.cf o0 o1 o2)[2]? =some (.sl o2 (Jp x.edges)):=⟨rfl,rfl,rfl⟩
def Network.z:Network:=⟨[],[],[]⟩
def Network.ok(_:Network):Prop:=True
def Network.rd{a:AV}(h:Rd AA 26 a): ∃ x:Network,a = .agg x.c/\x.ok:=by
 obtain ⟨ps,rfl,hp⟩:=GJ (ts:=[22,23,24]) kr h
 obtain ⟨a0,a1,a2,rfl,g0,g1,g2⟩:=I8 hp
 obtain ⟨v0,rfl,k0⟩:=mS g0
 obtain ⟨v1,rfl,k1⟩:=mT g1
 obtain ⟨v2,rfl,k2⟩:=mY g2
 exact ⟨⟨v0,v1,v2⟩,rfl,trivial⟩
@[ext] structure Contract where
 src:ByteArray
 dst:ByteArray
 fromPort:Int
 toPort:Int
 pred:Pred
 via:Int
 capacity:Int
 price:Int
 deriving Inhabited
def Contract.cf(x:Contract)(o0:Option Nat):List AV:=[.str x.src,.str x.dst,.int .i64 x.fromPort,.int .i64 x.toPort,.int .i64 x.pred.kind,.str x.pred.field,.int .i64 x.pred.n,.int .i64 x.pred.m,.sl o0 (GH x.pred.args),.int .i64 x.via,.int .i64 x.capacity,.int .i64 x.price]
abbrev Contract.c(x:Contract):List AV:=x.cf none
def cP(x:Contract):1<=FR x.c:=by
 have h1:1<=(.str x.src:AV).bulk:=by simp [AV.bulk]
 exact AK h1 (Ft (AB (i:=0) rfl))
def UT(x:Contract)(o0:Option Nat):(x.cf o0).length=12:=rfl
def UU(x:Contract)(o0:Option Nat):(x.cf o0).map borrow1=x.cf none:=rfl
def US(x:Contract)(o0:Option Nat):(x.cf o0).any GE=(o0.isSome):=by
 cases o0<;>rfl
def TH(x:Contract)(o0:Option Nat):(x.cf o0).take 12=x.cf o0:=rfl
def Contract.cf_pure(x:Contract)(o0:Option Nat):A' (x.cf o0)=true:=by
 simp [Contract.cf,A',AV.pure,Je]
def UW(x:Contract):A' x.c=true:=x.cf_pure none
def N9(k:Nat)(x:Contract)(o0:Option Nat):Fo k (x.cf o0)=true:=by
 simp [Contract.cf,Fo,AV.bnd,KY]
def Contract.c_bnd(k:Nat)(x:Contract):Fo k x.c=true:=N9 k x none
def TI{x:Contract}{B:Nat}(h:FR x.c<=B):FR x.pred.c<=B:=by
 have h1:=Hf x.c 4 5
 rw [show (x.c.drop 4).take 5=x.pred.c from rfl] at h1
 omega
def UV(x:Contract)(o0:Option Nat):(x.cf o0)[0]? =some (.str x.src)/\(x.cf o0)[1]? =some (.str x.dst)/\(x.cf o0)[2]? =some (.int .i64 x.fromPort)/\(x.cf o0)[3]? =some (.int .i64 x.toPort)/\(x.cf o0)[9]? =some (.int .i64 x.via)/\(x.cf o0)[10]? =some (.int .i64 x.capacity)/\(x.cf o0)[11]? =some (.int .i64 x.price):=⟨rfl,rfl,rfl,rfl,rfl,rfl,rfl⟩
def OM(x:Contract)(o0:Option Nat):((x.cf o0).drop 4).take 5=x.pred.cf o0:=rfl
def Contract.z:Contract:=⟨.empty,.empty,0,0,⟨0,.empty,0,0,[]⟩,0,0,0⟩
def Contract.zero:Fi AA 66=some (.agg (Contract.z.cf (some 5))):=kr
def Contract.ok(_:Contract):Prop:=True
def Contract.rd{a:AV}(h:Rd AA 66 a): ∃ x:Contract,a = .agg x.c/\x.ok:=by
 obtain ⟨ps,rfl,hp⟩:=GJ (ts:=[9,9,3,3,64,3,3,3]) kr h
 obtain ⟨a0,a1,a2,a3,a4,a5,a6,a7,rfl,g0,g1,g2,g3,g4,g5,g6,g7⟩:=bu hp
 obtain ⟨v0,rfl,k0⟩:=cT g0
 obtain ⟨v1,rfl,k1⟩:=cT g1
 obtain ⟨v2,rfl,k2⟩:=LI g2
 obtain ⟨v3,rfl,k3⟩:=LI g3
 obtain ⟨v4,rfl,k4⟩:=Pred.rd g4
 obtain ⟨v5,rfl,k5⟩:=LI g5
 obtain ⟨v6,rfl,k6⟩:=LI g6
 obtain ⟨v7,rfl,k7⟩:=LI g7
 exact ⟨⟨v0,v1,v2,v3,v4,v5,v6,v7⟩,rfl,trivial⟩
def GN(l:List Fld):List AV:=l.map λx => .agg x.c
def Ra(l:List Fld):(GN l).length=l.length:=by simp [GN]
def Gv{l:List Fld}{i:Nat}{x:Fld}(h:l[i]? =some x):(GN l)[i]? =some (.agg x.c):=by simp [GN,h]
def Vq{l:List Fld}{x:Fld}(h:x∈l): .agg x.c∈GN l:=by rw [GN];exact AP.2 ⟨x,h,rfl⟩
def So(l:List Fld):A' (GN l)=true:=by
 induction l with
 | nil=>rfl
 | cons x xs ih=>simpa [GN,A',AV.pure] using ⟨pP x,ih⟩
def Vr(k:Nat)(l:List Fld):Fo k (GN l)=true:=Ho λx=>Fld.c_bnd k x
def AFI{l:List Fld}{B:Nat}(h:FR (GN l)<=B){x:Fld}(hx:x∈l):(.agg x.c:AV).bulk<=B:=AK (Ft (Vq hx)) h
def qH{l:List Fld}{B:Nat}(h:FR (GN l)<=B):l.length<=B:=by
 refine AK ?_ h
 exact HO (f:=λ(x:Fld) => .agg x.c) (λx=>by exact AGd x) l
def AFH(l:List Fld):Prop:=l.length*32<=reachBytes /\ ∀ x∈l,x.ok
def Yz{a:AV}(h:Rd AA 27 a): ∃ l,a = .sl none (GN l)/\AFH l:=by
 obtain ⟨l,h1,h2,h3⟩:=IR (f:=λ(x:Fld) => .agg x.c) (ok:=λ(x:Fld)=>x.ok) (P:=AA) (t:=27) (e:=115) kr (λx hx=>Fld.rd hx) h
 exact ⟨l,h1,by rw [show AA.bytesOf 115=32 by kernel_rfl] at h2;exact h2,h3⟩
def HQ(l:List Tenant):List AV:=l.map λx => .agg x.c
def TX(l:List Tenant):(HQ l).length=l.length:=by simp [HQ]
def F2{l:List Tenant}{i:Nat}{x:Tenant}(h:l[i]? =some x):(HQ l)[i]? =some (.agg x.c):=by simp [HQ,h]
def fN{l:List Tenant}{x:Tenant}(h:x∈l): .agg x.c∈HQ l:=by rw [HQ];exact AP.2 ⟨x,h,rfl⟩
def RX(l:List Tenant):A' (HQ l)=true:=by
 induction l with
 | nil=>rfl
 | cons x xs ih=>simpa [HQ,A',AV.pure] using ⟨X7 x,ih⟩
def TY(k:Nat)(l:List Tenant):Fo k (HQ l)=true:=Ho λx=>Tenant.c_bnd k x
def Nc{l:List Tenant}{B:Nat}(h:FR (HQ l)<=B){x:Tenant}(hx:x∈l):(.agg x.c:AV).bulk<=B:=AK (Ft (fN hx)) h
def Nb{l:List Tenant}{B:Nat}(h:FR (HQ l)<=B):l.length<=B:=by
 refine AK ?_ h
 exact HO (f:=λ(x:Tenant) => .agg x.c) (λx=>by exact oe x) l
def mJ(l:List Tenant):Prop:=l.length*136<=reachBytes /\ ∀ x∈l,x.ok
def aE{a:AV}(h:Rd AA 28 a): ∃ l,a = .sl none (HQ l)/\mJ l:=by
 obtain ⟨l,h1,h2,h3⟩:=IR (f:=λ(x:Tenant) => .agg x.c) (ok:=λ(x:Tenant)=>x.ok) (P:=AA) (t:=28) (e:=89) kr (λx hx=>Tenant.rd hx) h
 exact ⟨l,h1,by rw [show AA.bytesOf 89=136 by kernel_rfl] at h2;exact h2,h3⟩
def GY(l:List Contract):List AV:=l.map λx => .agg x.c
def P7(l:List Contract):(GY l).length=l.length:=by simp [GY]
def GL{l:List Contract}{i:Nat}{x:Contract}(h:l[i]? =some x):(GY l)[i]? =some (.agg x.c):=by simp [GY,h]
def Xe{l:List Contract}{x:Contract}(h:x∈l): .agg x.c∈GY l:=by rw [GY];exact AP.2 ⟨x,h,rfl⟩
def Og(l:List Contract):A' (GY l)=true:=by
 induction l with
 | nil=>rfl
 | cons x xs ih=>simpa [GY,A',AV.pure] using ⟨UW x,ih⟩
def P8(k:Nat)(l:List Contract):Fo k (GY l)=true:=Ho λx=>Contract.c_bnd k x
def aL{l:List Contract}{B:Nat}(h:FR (GY l)<=B){x:Contract}(hx:x∈l):(.agg x.c:AV).bulk<=B:=AK (Ft (Xe hx)) h
def LZ{l:List Contract}{B:Nat}(h:FR (GY l)<=B):l.length<=B:=by
 refine AK ?_ h
 exact HO (f:=λ(x:Contract) => .agg x.c) (λx=>by exact cP x) l
def aK(l:List Contract):Prop:=l.length*136<=reachBytes /\ ∀ x∈l,x.ok
def Vw{a:AV}(h:Rd AA 29 a): ∃ l,a = .sl none (GY l)/\aK l:=by
 obtain ⟨l,h1,h2,h3⟩:=IR (f:=λ(x:Contract) => .agg x.c) (ok:=λ(x:Contract)=>x.ok) (P:=AA) (t:=29) (e:=66) kr (λx hx=>Contract.rd hx) h
 exact ⟨l,h1,by rw [show AA.bytesOf 66=136 by kernel_rfl] at h2;exact h2,h3⟩
@[ext] structure Setup where
 network:Network
 fields:List Fld
 tenants:List Tenant
 contracts:List Contract
 deriving Inhabited
def Setup.cf(x:Setup)(o0 o1 o2 o3 o4 o5:Option Nat):List AV:=[.sl o0 (J3 x.network.nodes),.sl o1 (M0 x.network.links),.sl o2 (Jp x.network.edges),.sl o3 (GN x.fields),.sl o4 (HQ x.tenants),.sl o5 (GY x.contracts)]
abbrev Setup.c(x:Setup):List AV:=x.cf none none none none none none
def be(x:Setup)(o0 o1 o2 o3 o4 o5:Option Nat):(x.cf o0 o1 o2 o3 o4 o5).length=6:=rfl
def bf(x:Setup)(o0 o1 o2 o3 o4 o5:Option Nat):(x.cf o0 o1 o2 o3 o4 o5).map borrow1=x.cf none none none none none none:=rfl
def bd(x:Setup)(o0 o1 o2 o3 o4 o5:Option Nat):(x.cf o0 o1 o2 o3 o4 o5).any GE=(o0.isSome||o1.isSome||o2.isSome||o3.isSome||o4.isSome||o5.isSome):=by
 cases o0<;>cases o1<;>cases o2<;>cases o3<;>cases o4<;>cases o5<;>rfl
def YA(x:Setup)(o0 o1 o2 o3 o4 o5:Option Nat):(x.cf o0 o1 o2 o3 o4 o5).take 6=x.cf o0 o1 o2 o3 o4 o5:=rfl
def Setup.cf_pure(x:Setup)(o0 o1 o2 o3 o4 o5:Option Nat):A' (x.cf o0 o1 o2 o3 o4 o5)=true:=by
 simp [Setup.cf,A',AV.pure,Og,Qf,So,Qe,Qd,RX]
def R3(k:Nat)(x:Setup)(o0 o1 o2 o3 o4 o5:Option Nat):Fo k (x.cf o0 o1 o2 o3 o4 o5)=true:=by
 simp [Setup.cf,Fo,AV.bnd,P8,Sp,Vr,Sn,Sl,TY]
def Setup.c_bnd(k:Nat)(x:Setup):Fo k x.c=true:=R3 k x none none none none none none
def R2{x:Setup}(h:HY x.c):x.tenants.length<=9223372036854775807:=by
 have h1:(AV.sl none (HQ x.tenants)).fit:=Fw.1 h _ (AB (i:=4) rfl)
 have h2:=h1.1
 rwa [TX] at h2
def Pw{x:Setup}(h:HY x.c):x.contracts.length<=9223372036854775807:=by
 have h1:(AV.sl none (GY x.contracts)).fit:=Fw.1 h _ (AB (i:=5) rfl)
 have h2:=h1.1
 rwa [P7] at h2
def NF{x:Setup}{B:Nat}(h:FR x.c<=B):FR x.network.c<=B:=by
 have h1:=Hf x.c 0 3
 rw [show (x.c.drop 0).take 3=x.network.c from rfl] at h1
 omega
def Nx{x:Setup}{B:Nat}(h:FR x.c<=B):FR (Jp x.network.edges)<=B:=Gq (o:=none) (AB (i:=2) rfl) h
def N6{x:Setup}{B:Nat}(h:FR x.c<=B):FR (GN x.fields)<=B:=Gq (o:=none) (AB (i:=3) rfl) h
def HA{x:Setup}{B:Nat}(h:FR x.c<=B):FR (HQ x.tenants)<=B:=Gq (o:=none) (AB (i:=4) rfl) h
def Hp{x:Setup}{B:Nat}(h:FR x.c<=B):FR (GY x.contracts)<=B:=Gq (o:=none) (AB (i:=5) rfl) h
def bg(x:Setup)(o0 o1 o2 o3 o4 o5:Option Nat):(x.cf o0 o1 o2 o3 o4 o5)[0]? =some (.sl o0 (J3 x.network.nodes))/\(x.cf o0 o1 o2 o3 o4 o5)[2]? =some (.sl o2 (Jp x.network.edges))/\(x.cf o0 o1 o2 o3 o4 o5)[3]? =some (.sl o3 (GN x.fields))/\(x.cf o0 o1 o2 o3 o4 o5)[4]? =some (.sl o4 (HQ x.tenants))/\(x.cf o0 o1 o2 o3 o4 o5)[5]? =some (.sl o5 (GY x.contracts)):=⟨rfl,rfl,rfl,rfl,rfl⟩
def OK(x:Setup)(o0 o1 o2 o3 o4 o5:Option Nat):(x.cf o0 o1 o2 o3 o4 o5).take 3=x.network.cf o0 o1 o2:=rfl
def Setup.z:Setup:=⟨⟨[],[],[]⟩,[],[],[]⟩
def Setup.zero:Fi AA 31=some (.agg (Setup.z.cf (some 4) (some 3) (some 2) (some 3) (some 6) (some 12))):=kr
def Setup.ok(_:Setup):Prop:=True
def Setup.rd{a:AV}(h:Rd AA 31 a): ∃ x:Setup,a = .agg x.c/\x.ok:=by
 obtain ⟨ps,rfl,hp⟩:=GJ (ts:=[26,27,28,29]) kr h
 obtain ⟨a0,a1,a2,a3,rfl,g0,g1,g2,g3⟩:=Lh hp
 obtain ⟨v0,rfl,k0⟩:=Network.rd g0
 obtain ⟨v1,rfl,k1⟩:=Yz g1
 obtain ⟨v2,rfl,k2⟩:=aE g2
 obtain ⟨v3,rfl,k3⟩:=Vw g3
 exact ⟨⟨v0,v1,v2,v3⟩,rfl,trivial⟩
def GB(l:List Int):List AV:=l.map λx => .int .i64 x
def HM(l:List Int):(GB l).length=l.length:=by simp [GB]
def GI{l:List Int}{i:Nat}{x:Int}(h:l[i]? =some x):(GB l)[i]? =some (.int .i64 x):=by simp [GB,h]
def Vp(l:List Int): ∀ x∈GB l,x.cells.length=1:=by
 intro x hx;obtain ⟨y,_,rfl⟩:=AP.1 hx;rfl
def fc(l:List Int):(∀ x∈GB l,x.cells.length=1)=True:=eq_true (Vp l)
def mU(l:List Int)(k:Nat):(GB l).take k=GB (l.take k):=by simp [GB]
def tD(a:List Int)(x:Int):GB a++[.int .i64 x]=GB (a++[x]):=by simp [GB]
def Jn(l:List Int):A' (GB l)=true:=by
 induction l with
 | nil=>rfl
 | cons x xs ih=>simpa [GB,A',AV.pure] using ih
def M1(k:Nat)(l:List Int):Fo k (GB l)=true:=Ho λx=>rfl
def AFF{l:List Int}{B:Nat}(h:FR (GB l)<=B):l.length<=B:=by
 refine AK ?_ h
 exact HO (f:=λ(x:Int) => .int .i64 x) (λx=>by simp [AV.bulk]) l
def AFE(l:List Int):Prop:=l.length*8<=reachBytes /\ ∀ x∈l,IntKind.i64.min<=x/\x<=IntKind.i64.max
def PX{a:AV}(h:Rd AA 50 a): ∃ l,a = .sl none (GB l)/\AFE l:=by
 obtain ⟨l,h1,h2,h3⟩:=IR (f:=λ(x:Int) => .int .i64 x) (ok:=λ(x:Int)=>IntKind.i64.min<=x/\x<=IntKind.i64.max) (P:=AA) (t:=50) (e:=3) kr (λx hx=>LI hx) h
 exact ⟨l,h1,by rw [show AA.bytesOf 3=8 by kernel_rfl] at h2;exact h2,h3⟩
@[ext] structure Variable where
 name:ByteArray
 family:Int
 widths:List Int
 n:Int
 m:Int
 deriving DecidableEq,Inhabited
def Variable.cf(x:Variable)(o0:Option Nat):List AV:=[.str x.name,.int .i64 x.family,.sl o0 (GB x.widths),.int .i64 x.n,.int .i64 x.m]
abbrev Variable.c(x:Variable):List AV:=x.cf none
def UF(x:Variable)(o0:Option Nat):(x.cf o0).length=5:=rfl
def UG(x:Variable)(o0:Option Nat):(x.cf o0).map borrow1=x.cf none:=rfl
def UE(x:Variable)(o0:Option Nat):(x.cf o0).any GE=(o0.isSome):=by
 cases o0<;>rfl
def S9(x:Variable)(o0:Option Nat):(x.cf o0).take 5=x.cf o0:=rfl
def Variable.cf_pure(x:Variable)(o0:Option Nat):A' (x.cf o0)=true:=by
 simp [Variable.cf,A',AV.pure,Jn]
def UI(x:Variable):A' x.c=true:=x.cf_pure none
def N5(k:Nat)(x:Variable)(o0:Option Nat):Fo k (x.cf o0)=true:=by
 simp [Variable.cf,Fo,AV.bnd,M1]
def Variable.c_bnd(k:Nat)(x:Variable):Fo k x.c=true:=N5 k x none
def UH(x:Variable)(o0:Option Nat):(x.cf o0)[0]? =some (.str x.name)/\(x.cf o0)[1]? =some (.int .i64 x.family)/\(x.cf o0)[2]? =some (.sl o0 (GB x.widths))/\(x.cf o0)[3]? =some (.int .i64 x.n)/\(x.cf o0)[4]? =some (.int .i64 x.m):=⟨rfl,rfl,rfl,rfl,rfl⟩
def Variable.z:Variable:=⟨.empty,0,[],0,0⟩
def Variable.zero:Fi AA 233=some (.agg (Variable.z.cf (some 1))):=kr
def Variable.ok(_:Variable):Prop:=True
@[ext] structure Sizes where
 nodes:Int
 depth:Int
 deriving DecidableEq,Inhabited
def Sizes.c(x:Sizes):List AV:=[.int .i64 x.nodes,.int .i64 x.depth]
def bZ(x:Sizes):x.c.length=2:=rfl
def ba(x:Sizes):x.c.map borrow1=x.c:=rfl
def bY(x:Sizes):x.c.any GE=false:=by
 rfl
def X9(x:Sizes):x.c.take 2=x.c:=rfl
def Sizes.cf_pure(x:Sizes):A' x.c=true:=by
 simp [Sizes.c,A',AV.pure]
def R1(k:Nat)(x:Sizes):Fo k x.c=true:=by
 simp [Sizes.c,Fo,AV.bnd]
def Sizes.c_bnd(k:Nat)(x:Sizes):Fo k x.c=true:=R1 k x
def bc(x:Sizes):x.c[0]? =some (.int .i64 x.nodes)/\x.c[1]? =some (.int .i64 x.depth):=⟨rfl,rfl⟩
def Pv(x:Sizes)(v:Int):Hs x.c [.int .i64 v]=({ x with nodes:=v }:Sizes).c:=rfl
def Q1(x:Sizes)(v:Int):splice x.c 1 [.int .i64 v]=({ x with depth:=v }:Sizes).c:=rfl
def Sizes.z:Sizes:=⟨0,0⟩
def Sizes.zero:Fi AA 219=some (.agg Sizes.z.c):=kr
def Sizes.ok(_:Sizes):Prop:=True
@[ext] structure Entry where
 var:ByteArray
 key:List Int
 n:Int
 at_:Int
 deriving DecidableEq,Inhabited
def Entry.cf(x:Entry)(o0:Option Nat):List AV:=[.str x.var,.sl o0 (GB x.key),.int .i64 x.n,.int .i64 x.at_]
abbrev Entry.c(x:Entry):List AV:=x.cf none
def yV(x:Entry):1<=FR x.c:=by
 have h1:1<=(.str x.var:AV).bulk:=by simp [AV.bulk]
 exact AK h1 (Ft (AB (i:=0) rfl))
def cE(x:Entry)(o0:Option Nat):(x.cf o0).length=4:=rfl
def cF(x:Entry)(o0:Option Nat):(x.cf o0).map borrow1=x.cf none:=rfl
def cD(x:Entry)(o0:Option Nat):(x.cf o0).any GE=(o0.isSome):=by
 cases o0<;>rfl
def YL(x:Entry)(o0:Option Nat):(x.cf o0).take 4=x.cf o0:=rfl
def Entry.cf_pure(x:Entry)(o0:Option Nat):A' (x.cf o0)=true:=by
 simp [Entry.cf,A',AV.pure,Jn]
def SB(x:Entry):A' x.c=true:=x.cf_pure none
def SA(k:Nat)(x:Entry)(o0:Option Nat):Fo k (x.cf o0)=true:=by
 simp [Entry.cf,Fo,AV.bnd,M1]
def Entry.c_bnd(k:Nat)(x:Entry):Fo k x.c=true:=SA k x none
def cH{x:Entry}{B:Nat}(h:FR x.c<=B):FR (GB x.key)<=B:=Gq (o:=none) (AB (i:=1) rfl) h
def cG(x:Entry)(o0:Option Nat):(x.cf o0)[0]? =some (.str x.var)/\(x.cf o0)[1]? =some (.sl o0 (GB x.key))/\(x.cf o0)[2]? =some (.int .i64 x.n)/\(x.cf o0)[3]? =some (.int .i64 x.at_):=⟨rfl,rfl,rfl,rfl⟩
def R9(x:Entry)(v:ByteArray)(o0:Option Nat):Hs (x.cf o0) [.str v]=({ x with var:=v }:Entry).cf o0:=rfl
def TF(x:Entry)(v:List Int)(o0:Option Nat)(p:Option Nat):splice (x.cf o0) 1 [.sl p (GB v)]=({ x with key:=v }:Entry).cf p:=rfl
def Entry.z:Entry:=⟨.empty,[],0,0⟩
def Entry.zero:Fi AA 107=some (.agg (Entry.z.cf (some 1))):=kr
def Entry.ok(_:Entry):Prop:=True
def Entry.rd{a:AV}(h:Rd AA 107 a): ∃ x:Entry,a = .agg x.c/\x.ok:=by
 obtain ⟨ps,rfl,hp⟩:=GJ (ts:=[9,50,3,3]) kr h
 obtain ⟨a0,a1,a2,a3,rfl,g0,g1,g2,g3⟩:=Lh hp
 obtain ⟨v0,rfl,k0⟩:=cT g0
 obtain ⟨v1,rfl,k1⟩:=PX g1
 obtain ⟨v2,rfl,k2⟩:=LI g2
 obtain ⟨v3,rfl,k3⟩:=LI g3
 exact ⟨⟨v0,v1,v2,v3⟩,rfl,trivial⟩
@[ext] structure Delivery where
 tenant:Int
 head:Head
 chain:List Int
 deriving DecidableEq,Inhabited
def Delivery.cf(x:Delivery)(o0:Option Nat):List AV:=[.int .i64 x.tenant,.int .i64 x.head.h0,.int .i64 x.head.h1,.int .i64 x.head.h2,.int .i64 x.head.h3,.int .i64 x.head.h4,.int .i64 x.head.h5,.int .i64 x.head.h6,.int .i64 x.head.h7,.int .i64 x.head.h8,.int .i64 x.head.h9,.sl o0 (GB x.chain)]
abbrev Delivery.c(x:Delivery):List AV:=x.cf none
def UO(x:Delivery)(o0:Option Nat):(x.cf o0).length=12:=rfl
def UP(x:Delivery)(o0:Option Nat):(x.cf o0).map borrow1=x.cf none:=rfl
def UN(x:Delivery)(o0:Option Nat):(x.cf o0).any GE=(o0.isSome):=by
 cases o0<;>rfl
def TG(x:Delivery)(o0:Option Nat):(x.cf o0).take 12=x.cf o0:=rfl
def Delivery.cf_pure(x:Delivery)(o0:Option Nat):A' (x.cf o0)=true:=by
 simp [Delivery.cf,A',AV.pure,Jn]
def UR(x:Delivery):A' x.c=true:=x.cf_pure none
def N8(k:Nat)(x:Delivery)(o0:Option Nat):Fo k (x.cf o0)=true:=by
 simp [Delivery.cf,Fo,AV.bnd,M1]
def Delivery.c_bnd(k:Nat)(x:Delivery):Fo k x.c=true:=N8 k x none
def UQ(x:Delivery)(o0:Option Nat):(x.cf o0)[0]? =some (.int .i64 x.tenant)/\(x.cf o0)[1]? =some (.int .i64 x.head.h0)/\(x.cf o0)[11]? =some (.sl o0 (GB x.chain)):=⟨rfl,rfl,rfl⟩
def NI(x:Delivery)(v:Int)(o0:Option Nat):Hs (x.cf o0) [.int .i64 v]=({ x with tenant:=v }:Delivery).cf o0:=rfl
def PL(x:Delivery)(v:Head)(o0:Option Nat):splice (x.cf o0) 1 v.c=({ x with head:=v }:Delivery).cf o0:=rfl
def OL(x:Delivery)(v:List Int)(o0:Option Nat)(p:Option Nat):splice (x.cf o0) 11 [.sl p (GB v)]=({ x with chain:=v }:Delivery).cf p:=rfl
def Delivery.z:Delivery:=⟨0,⟨0,0,0,0,0,0,0,0,0,0⟩,[]⟩
def Delivery.zero:Fi AA 52=some (.agg (Delivery.z.cf (some 1))):=kr
def Delivery.ok(_:Delivery):Prop:=True
@[ext] structure Arrival where
 head:Head
 tick:Int
 deriving DecidableEq,Inhabited
def Arrival.c(x:Arrival):List AV:=[.int .i64 x.head.h0,.int .i64 x.head.h1,.int .i64 x.head.h2,.int .i64 x.head.h3,.int .i64 x.head.h4,.int .i64 x.head.h5,.int .i64 x.head.h6,.int .i64 x.head.h7,.int .i64 x.head.h8,.int .i64 x.head.h9,.int .i64 x.tick]
def W9(x:Arrival):x.c.length=11:=rfl
def XA(x:Arrival):x.c.map borrow1=x.c:=rfl
def W8(x:Arrival):x.c.any GE=false:=by
 rfl
def UX(x:Arrival):x.c.take 11=x.c:=rfl
def Arrival.cf_pure(x:Arrival):A' x.c=true:=by
 simp [Arrival.c,A',AV.pure]
def XC(x:Arrival):A' x.c=true:=x.cf_pure
def PN(k:Nat)(x:Arrival):Fo k x.c=true:=by
 simp [Arrival.c,Fo,AV.bnd]
def Arrival.c_bnd(k:Nat)(x:Arrival):Fo k x.c=true:=PN k x
def XB(x:Arrival):x.c[9]? =some (.int .i64 x.head.h9)/\x.c[10]? =some (.int .i64 x.tick):=⟨rfl,rfl⟩
def PM(x:Arrival):x.c.take 10=x.head.c:=rfl
def Arrival.z:Arrival:=⟨⟨0,0,0,0,0,0,0,0,0,0⟩,0⟩
def Arrival.zero:Fi AA 36=some (.agg Arrival.z.c):=kr
def Arrival.ok(_:Arrival):Prop:=True
def Arrival.rd{a:AV}(h:Rd AA 36 a): ∃ x:Arrival,a = .agg x.c/\x.ok:=by
 obtain ⟨ps,rfl,hp⟩:=GJ (ts:=[34,3]) kr h
 obtain ⟨a0,a1,rfl,g0,g1⟩:=H6 hp
 obtain ⟨v0,rfl,k0⟩:=Head.rd g0
 obtain ⟨v1,rfl,k1⟩:=LI g1
 exact ⟨⟨v0,v1⟩,rfl,trivial⟩
def FZ(l:List Entry):List AV:=l.map λx => .agg x.c
def H7(l:List Entry):(FZ l).length=l.length:=by simp [FZ]
def F8{l:List Entry}{i:Nat}{x:Entry}(h:l[i]? =some x):(FZ l)[i]? =some (.agg x.c):=by simp [FZ,h]
def mX{l:List Entry}{x:Entry}(h:x∈l): .agg x.c∈FZ l:=by rw [FZ];exact AP.2 ⟨x,h,rfl⟩
def aI(l:List Entry): ∀ x∈FZ l,x.cells.length=4:=by
 intro x hx;obtain ⟨y,_,rfl⟩:=AP.1 hx;rfl
def Xd(l:List Entry):(∀ x∈FZ l,x.cells.length=4)=True:=eq_true (aI l)
def mW:FZ []=[]:=rfl
def aH(l:List Entry)(k:Nat):(FZ l).take k=FZ (l.take k):=by simp [FZ]
def Jo(l:List Entry):A' (FZ l)=true:=by
 induction l with
 | nil=>rfl
 | cons x xs ih=>simpa [FZ,A',AV.pure] using ⟨SB x,ih⟩
def Vt(k:Nat)(l:List Entry):Fo k (FZ l)=true:=Ho λx=>Entry.c_bnd k x
def tF{l:List Entry}{B:Nat}(h:FR (FZ l)<=B){x:Entry}(hx:x∈l):(.agg x.c:AV).bulk<=B:=AK (Ft (mX hx)) h
def tE{l:List Entry}{B:Nat}(h:FR (FZ l)<=B):l.length<=B:=by
 refine AK ?_ h
 exact HO (f:=λ(x:Entry) => .agg x.c) (λx=>by exact yV x) l
def Y0(l:List Entry):Prop:=l.length*56<=reachBytes /\ ∀ x∈l,x.ok
def Td{a:AV}(h:Rd AA 49 a): ∃ l,a = .sl none (FZ l)/\Y0 l:=by
 obtain ⟨l,h1,h2,h3⟩:=IR (f:=λ(x:Entry) => .agg x.c) (ok:=λ(x:Entry)=>x.ok) (P:=AA) (t:=49) (e:=107) kr (λx hx=>Entry.rd hx) h
 exact ⟨l,h1,by rw [show AA.bytesOf 107=56 by kernel_rfl] at h2;exact h2,h3⟩
@[ext] structure Doing where
 fields:List Fld
 step:Stp
 st:List Entry
 head:Head
 tick:Int
 entry:Entry
 is:Bool
 deriving DecidableEq,Inhabited
def Doing.cf(x:Doing)(o0 o1 o2 o3:Option Nat):List AV:=[.sl o0 (GN x.fields),.int .i64 x.step.kind,.str x.step.var,.sl o1 (HD x.step.key),.str x.step.field,.int .i64 x.step.n,.int .i64 x.step.m,.sl o2 (FZ x.st),.int .i64 x.head.h0,.int .i64 x.head.h1,.int .i64 x.head.h2,.int .i64 x.head.h3,.int .i64 x.head.h4,.int .i64 x.head.h5,.int .i64 x.head.h6,.int .i64 x.head.h7,.int .i64 x.head.h8,.int .i64 x.head.h9,.int .i64 x.tick,.str x.entry.var,.sl o3 (GB x.entry.key),.int .i64 x.entry.n,.int .i64 x.entry.at_,.bool x.is]
abbrev Doing.c(x:Doing):List AV:=x.cf none none none none
def cK(x:Doing)(o0 o1 o2 o3:Option Nat):(x.cf o0 o1 o2 o3).length=24:=rfl
def cL(x:Doing)(o0 o1 o2 o3:Option Nat):(x.cf o0 o1 o2 o3).map borrow1=x.cf none none none none:=rfl
def cJ(x:Doing)(o0 o1 o2 o3:Option Nat):(x.cf o0 o1 o2 o3).any GE=(o0.isSome||o1.isSome||o2.isSome||o3.isSome):=by
 cases o0<;>cases o1<;>cases o2<;>cases o3<;>rfl
def Doing.cf_pure(x:Doing)(o0 o1 o2 o3:Option Nat):A' (x.cf o0 o1 o2 o3)=true:=by
 simp [Doing.cf,A',AV.pure,Jo,So,Jn,PW]
def SF(k:Nat)(x:Doing)(o0 o1 o2 o3:Option Nat):Fo k (x.cf o0 o1 o2 o3)=true:=by
 simp [Doing.cf,Fo,AV.bnd,Vt,Vr,M1,RZ]
def Doing.c_bnd(k:Nat)(x:Doing):Fo k x.c=true:=SF k x none none none none
def cM(x:Doing)(o0 o1 o2 o3:Option Nat):(x.cf o0 o1 o2 o3)[0]? =some (.sl o0 (GN x.fields))/\(x.cf o0 o1 o2 o3)[2]? =some (.str x.step.var)/\(x.cf o0 o1 o2 o3)[3]? =some (.sl o1 (HD x.step.key))/\(x.cf o0 o1 o2 o3)[4]? =some (.str x.step.field)/\(x.cf o0 o1 o2 o3)[5]? =some (.int .i64 x.step.n)/\(x.cf o0 o1 o2 o3)[6]? =some (.int .i64 x.step.m)/\(x.cf o0 o1 o2 o3)[7]? =some (.sl o2 (FZ x.st))/\(x.cf o0 o1 o2 o3)[18]? =some (.int .i64 x.tick)/\(x.cf o0 o1 o2 o3)[21]? =some (.int .i64 x.entry.n)/\(x.cf o0 o1 o2 o3)[22]? =some (.int .i64 x.entry.at_)/\(x.cf o0 o1 o2 o3)[23]? =some (.bool x.is):=⟨rfl,rfl,rfl,rfl,rfl,rfl,rfl,rfl,rfl,rfl,rfl⟩
def PK(x:Doing)(v:List Fld)(o0 o1 o2 o3:Option Nat)(p:Option Nat):Hs (x.cf o0 o1 o2 o3) [.sl p (GN v)]=({ x with fields:=v }:Doing).cf p o1 o2 o3:=rfl
def Q7(x:Doing)(o0 o1 o2 o3:Option Nat):((x.cf o0 o1 o2 o3).drop 1).take 6=x.step.cf o1:=rfl
def SD(x:Doing)(v:Stp)(o0 o1 o2 o3:Option Nat)(p0:Option Nat):splice (x.cf o0 o1 o2 o3) 1 (v.cf p0)=({ x with step:=v }:Doing).cf o0 p0 o2 o3:=rfl
def UL(x:Doing)(v:List Entry)(o0 o1 o2 o3:Option Nat)(p:Option Nat):splice (x.cf o0 o1 o2 o3) 7 [.sl p (FZ v)]=({ x with st:=v }:Doing).cf o0 o1 p o3:=rfl
def Q8(x:Doing)(o0 o1 o2 o3:Option Nat):((x.cf o0 o1 o2 o3).drop 8).take 10=x.head.c:=rfl
def SE(x:Doing)(v:Head)(o0 o1 o2 o3:Option Nat):splice (x.cf o0 o1 o2 o3) 8 v.c=({ x with head:=v }:Doing).cf o0 o1 o2 o3:=rfl
def SC(x:Doing)(v:Int)(o0 o1 o2 o3:Option Nat):splice (x.cf o0 o1 o2 o3) 18 [.int .i64 v]=({ x with tick:=v }:Doing).cf o0 o1 o2 o3:=rfl
def Pz(x:Doing)(o0 o1 o2 o3:Option Nat):((x.cf o0 o1 o2 o3).drop 19).take 4=x.entry.cf o3:=rfl
def Q6(x:Doing)(v:Entry)(o0 o1 o2 o3:Option Nat)(p0:Option Nat):splice (x.cf o0 o1 o2 o3) 19 (v.cf p0)=({ x with entry:=v }:Doing).cf o0 o1 o2 p0:=rfl
def PJ(x:Doing)(v:Int)(o0 o1 o2 o3:Option Nat):splice (x.cf o0 o1 o2 o3) 21 [.int .i64 v]=({ x with entry:={ x.entry with n:=v } }:Doing).cf o0 o1 o2 o3:=rfl
def N2(x:Doing)(v:Int)(o0 o1 o2 o3:Option Nat):splice (x.cf o0 o1 o2 o3) 22 [.int .i64 v]=({ x with entry:={ x.entry with at_:=v } }:Doing).cf o0 o1 o2 o3:=rfl
def UM(x:Doing)(v:Bool)(o0 o1 o2 o3:Option Nat):splice (x.cf o0 o1 o2 o3) 23 [.bool v]=({ x with is:=v }:Doing).cf o0 o1 o2 o3:=rfl
def Doing.z:Doing:=⟨[],⟨0,.empty,[],.empty,0,0⟩,[],⟨0,0,0,0,0,0,0,0,0,0⟩,0,⟨.empty,[],0,0⟩,false⟩
def Doing.zero:Fi AA 205=some (.agg (Doing.z.cf (some 3) (some 1) (some 4) (some 1))):=kr
def Doing.ok(_:Doing):Prop:=True
@[ext] structure Item where
 tenant:Int
 head:Head
 chain:List Int
 deriving DecidableEq,Inhabited
def Item.cf(x:Item)(o0:Option Nat):List AV:=[.int .i64 x.tenant,.int .i64 x.head.h0,.int .i64 x.head.h1,.int .i64 x.head.h2,.int .i64 x.head.h3,.int .i64 x.head.h4,.int .i64 x.head.h5,.int .i64 x.head.h6,.int .i64 x.head.h7,.int .i64 x.head.h8,.int .i64 x.head.h9,.sl o0 (GB x.chain)]
abbrev Item.c(x:Item):List AV:=x.cf none
def kG(x:Item)(o0:Option Nat):(x.cf o0).length=12:=rfl
def kH(x:Item)(o0:Option Nat):(x.cf o0).map borrow1=x.cf none:=rfl
def kF(x:Item)(o0:Option Nat):(x.cf o0).any GE=(o0.isSome):=by
 cases o0<;>rfl
def cB(x:Item)(o0:Option Nat):(x.cf o0).take 12=x.cf o0:=rfl
def Item.cf_pure(x:Item)(o0:Option Nat):A' (x.cf o0)=true:=by
 simp [Item.cf,A',AV.pure,Jn]
def Tv(k:Nat)(x:Item)(o0:Option Nat):Fo k (x.cf o0)=true:=by
 simp [Item.cf,Fo,AV.bnd,M1]
def Item.c_bnd(k:Nat)(x:Item):Fo k x.c=true:=Tv k x none
def kI(x:Item)(o0:Option Nat):(x.cf o0)[0]? =some (.int .i64 x.tenant):=rfl
def Py(x:Item)(v:Int)(o0:Option Nat):Hs (x.cf o0) [.int .i64 v]=({ x with tenant:=v }:Item).cf o0:=rfl
def R8(x:Item)(o0:Option Nat):((x.cf o0).drop 1).take 10=x.head.c:=rfl
def TE(x:Item)(v:Head)(o0:Option Nat):splice (x.cf o0) 1 v.c=({ x with head:=v }:Item).cf o0:=rfl
def R7(x:Item)(v:List Int)(o0:Option Nat)(p:Option Nat):splice (x.cf o0) 11 [.sl p (GB v)]=({ x with chain:=v }:Item).cf p:=rfl
def Item.z:Item:=⟨0,⟨0,0,0,0,0,0,0,0,0,0⟩,[]⟩
def Item.zero:Fi AA 80=some (.agg (Item.z.cf (some 1))):=kr
def Item.ok(_:Item):Prop:=True
attribute [go_sem] kK kL kJ cC Head.cf_pure Tw kM UK W4 W3 Head.zero pM pN pL kO Fld.cf_pure W6 pO Fld.zero jl jm jk bx Port.cf_pure Tq jn Port.zero jV jW jU bP Wire.cf_pure To jX Wire.zero Je KY My aG s4 fT fU s5 jh ji jg bw Pred.cf_pure Tp jj Pred.zero Nf Oe Tc Vo fX Xa Xb fY YI YJ YH Ww Policy.cf_pure QH YK Px Policy.zero Od Qa Vj bq br bp YD Regex.cf_pure R5 bt Regex.zero Lw fP AA9 mL sj PW RZ oo oq og jb Stp.cf_pure Wt ou Stp.zero bU bV bT X8 Stage.cf_pure R0 bW PD PC Q0 Rz Stage.zero bj bk bi Route.cf_pure R4 Q2 Q3 YN YO YM W7 Demand.cf_pure QI YP Demand.zero Yx Vm Yy sf Vd Yw Nd XZ mP TZ Vf Vg Ta Vh ff Rb Te Xz X5 Xy Wr Tenant.cf_pure QE X6 Tenant.zero jw jx jv b7 Node.cf_pure Tt jy Node.zero kA kB j3 b9 Link.cf_pure Tu kC Link.zero kR kS kQ Edge.cf_pure Tx kT s8 Qd Sl s9 Qe Sn tH Qf Sp Wz W0 Wy UJ Network.cf_pure PI W1 UT UU US TH Contract.cf_pure N9 UV OM Contract.zero Ra So Vr TX RX TY P7 Og P8 be bf bd YA Setup.cf_pure R3 bg OK Setup.zero HM fc mU tD Jn M1 UF UG UE S9 Variable.cf_pure N5 UH Variable.zero bZ ba bY X9 Sizes.cf_pure R1 bc Pv Q1 Sizes.zero cE cF cD YL Entry.cf_pure SA cG R9 TF Entry.zero UO UP UN TG Delivery.cf_pure N8 UQ NI PL OL Delivery.zero W9 XA W8 UX Arrival.cf_pure PN XB PM Arrival.zero H7 Xd mW aH Jo Vt cK cL cJ Doing.cf_pure SF cM PK Q7 SD UL Q8 SE SC Pz Q6 PJ N2 UM Doing.zero kG kH kF cB Item.cf_pure Tv kI Py R8 TE R7 Item.zero
end Go.AI
