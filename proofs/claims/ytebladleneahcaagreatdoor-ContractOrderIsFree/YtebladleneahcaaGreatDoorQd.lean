/- Data of the laws as the model holds them: cells in order;and how data are read as them. Printed by gendata.py. -/
import Derived.Test.YtebladleneahcaaGreatDoorLi
import Derived.Test.YtebladleneahcaaGreatDoorProg
set_option linter.unusedSimpArgs false
set_option linter.unusedVariables false
set_option linter.defProp false
open Array renaming toList_inj->Cr
open Bool renaming eq_iff_iff->BB
open List renaming length_map->Aq,mem_cons->AW,mem_map->AN,mem_of_getElem?->AB,sizeOf_lt_of_mem->DG
open Nat renaming le_refl->AU,le_trans->AK,lt_of_lt_of_le->BQ
open Go.Proofs.Tryz renaming prog->AA
namespace Go.AI
open Go.Proofs
def LC{a:AV}(h:Rd AA 3 a): ∃ n,a = .int .i64 n/\(IntKind.i64.min<=n/\n<=IntKind.i64.max):=Zz kr h
def dJ{a:AV}(h:Rd AA 9 a): ∃ s,a = .str s/\s.size<=reachBytes:=zI kr h
def Hh{P:Program}{t0 t1:TypeId}{ps:List AV}(h:GY P [t0,t1] ps): ∃ a0 a1,ps=[a0,a1]/\Rd P t0 a0/\Rd P t1 a1:=by
 match ps,h with
 | [a0,a1],h=>exact ⟨a0,a1,rfl,h.1,h.2.1⟩
def I4{P:Program}{t0 t1 t2:TypeId}{ps:List AV}(h:GY P [t0,t1,t2] ps): ∃ a0 a1 a2,ps=[a0,a1,a2]/\Rd P t0 a0/\Rd P t1 a1/\Rd P t2 a2:=by
 match ps,h with
 | [a0,a1,a2],h=>exact ⟨a0,a1,a2,rfl,h.1,h.2.1,h.2.2.1⟩
def LY{P:Program}{t0 t1 t2 t3:TypeId}{ps:List AV}(h:GY P [t0,t1,t2,t3] ps): ∃ a0 a1 a2 a3,ps=[a0,a1,a2,a3]/\Rd P t0 a0/\Rd P t1 a1/\Rd P t2 a2/\Rd P t3 a3:=by
 match ps,h with
 | [a0,a1,a2,a3],h=>exact ⟨a0,a1,a2,a3,rfl,h.1,h.2.1,h.2.2.1,h.2.2.2.1⟩
def N0{P:Program}{t0 t1 t2 t3 t4:TypeId}{ps:List AV}(h:GY P [t0,t1,t2,t3,t4] ps): ∃ a0 a1 a2 a3 a4,ps=[a0,a1,a2,a3,a4]/\Rd P t0 a0/\Rd P t1 a1/\Rd P t2 a2/\Rd P t3 a3/\Rd P t4 a4:=by
 match ps,h with
 | [a0,a1,a2,a3,a4],h=>exact ⟨a0,a1,a2,a3,a4,rfl,h.1,h.2.1,h.2.2.1,h.2.2.2.1,h.2.2.2.2.1⟩
def SR{P:Program}{t0 t1 t2 t3 t4 t5:TypeId}{ps:List AV}(h:GY P [t0,t1,t2,t3,t4,t5] ps): ∃ a0 a1 a2 a3 a4 a5,ps=[a0,a1,a2,a3,a4,a5]/\Rd P t0 a0/\Rd P t1 a1/\Rd P t2 a2/\Rd P t3 a3/\Rd P t4 a4/\Rd P t5 a5:=by
 match ps,h with
 | [a0,a1,a2,a3,a4,a5],h=>exact ⟨a0,a1,a2,a3,a4,a5,rfl,h.1,h.2.1,h.2.2.1,h.2.2.2.1,h.2.2.2.2.1,h.2.2.2.2.2.1⟩
def cT{P:Program}{t0 t1 t2 t3 t4 t5 t6 t7:TypeId}{ps:List AV}(h:GY P [t0,t1,t2,t3,t4,t5,t6,t7] ps): ∃ a0 a1 a2 a3 a4 a5 a6 a7,ps=[a0,a1,a2,a3,a4,a5,a6,a7]/\Rd P t0 a0/\Rd P t1 a1/\Rd P t2 a2/\Rd P t3 a3/\Rd P t4 a4/\Rd P t5 a5/\Rd P t6 a6/\Rd P t7 a7:=by
 match ps,h with
 | [a0,a1,a2,a3,a4,a5,a6,a7],h=>exact ⟨a0,a1,a2,a3,a4,a5,a6,a7,rfl,h.1,h.2.1,h.2.2.1,h.2.2.2.1,h.2.2.2.2.1,h.2.2.2.2.2.1,h.2.2.2.2.2.2.1,h.2.2.2.2.2.2.2.1⟩
def Yf{P:Program}{t0 t1 t2 t3 t4 t5 t6 t7 t8 t9:TypeId}{ps:List AV}(h:GY P [t0,t1,t2,t3,t4,t5,t6,t7,t8,t9] ps): ∃ a0 a1 a2 a3 a4 a5 a6 a7 a8 a9,ps=[a0,a1,a2,a3,a4,a5,a6,a7,a8,a9]/\Rd P t0 a0/\Rd P t1 a1/\Rd P t2 a2/\Rd P t3 a3/\Rd P t4 a4/\Rd P t5 a5/\Rd P t6 a6/\Rd P t7 a7/\Rd P t8 a8/\Rd P t9 a9:=by
 match ps,h with
 | [a0,a1,a2,a3,a4,a5,a6,a7,a8,a9],h=>exact ⟨a0,a1,a2,a3,a4,a5,a6,a7,a8,a9,rfl,h.1,h.2.1,h.2.2.1,h.2.2.2.1,h.2.2.2.2.1,h.2.2.2.2.2.1,h.2.2.2.2.2.2.1,h.2.2.2.2.2.2.2.1,h.2.2.2.2.2.2.2.2.1,h.2.2.2.2.2.2.2.2.2.1⟩
@[ext] structure Head where
 h0:Int
 h1:Int
 h2:Int
 h3:Int
 h4:Int
 h5:Int
 h6:Int
 h7:Int
 h8:Int
 h9:Int
 deriving DecidableEq,Inhabited
def Head.c(x:Head):List AV:=[.int .i64 x.h0,.int .i64 x.h1,.int .i64 x.h2,.int .i64 x.h3,.int .i64 x.h4,.int .i64 x.h5,.int .i64 x.h6,.int .i64 x.h7,.int .i64 x.h8,.int .i64 x.h9]
def lD(x:Head):x.c.length=10:=rfl
def lE(x:Head):x.c.map borrow1=x.c:=rfl
def lC(x:Head):x.c.any F8=false:=by
 rfl
def cj(x:Head):x.c.take 10=x.c:=rfl
def Head.cf_pure(x:Head):FV x.c=true:=by
 simp [Head.c,FV,AV.pure]
def lG(x:Head):FV x.c=true:=x.cf_pure
def UH(k:Nat)(x:Head):Fl k x.c=true:=by
 simp [Head.c,Fl,AV.bnd]
def Head.c_bnd(k:Nat)(x:Head):Fl k x.c=true:=UH k x
def lF(x:Head):x.c[0]? =some (.int .i64 x.h0):=rfl
def Ug(x:Head)(v:Int):Ht x.c [.int .i64 v]=({ x with h0:=v }:Head).c:=rfl
def XU(x:Head)(v:Int):splice x.c 1 [.int .i64 v]=({ x with h1:=v }:Head).c:=rfl
def XT(x:Head)(v:Int):splice x.c 9 [.int .i64 v]=({ x with h9:=v }:Head).c:=rfl
def Head.z:Head:=⟨0,0,0,0,0,0,0,0,0,0⟩
def Head.zero:Fi AA 34=some (.agg Head.z.c):=kr
def Head.ok(_:Head):Prop:=True
def Head.rd{a:AV}(h:Rd AA 34 a): ∃ x:Head,a = .agg x.c/\x.ok:=by
 obtain ⟨ps,rfl,hp⟩:=GF (ts:=[3,3,3,3,3,3,3,3,3,3]) kr h
 obtain ⟨a0,a1,a2,a3,a4,a5,a6,a7,a8,a9,rfl,g0,g1,g2,g3,g4,g5,g6,g7,g8,g9⟩:=Yf hp
 obtain ⟨v0,rfl,k0⟩:=LC g0
 obtain ⟨v1,rfl,k1⟩:=LC g1
 obtain ⟨v2,rfl,k2⟩:=LC g2
 obtain ⟨v3,rfl,k3⟩:=LC g3
 obtain ⟨v4,rfl,k4⟩:=LC g4
 obtain ⟨v5,rfl,k5⟩:=LC g5
 obtain ⟨v6,rfl,k6⟩:=LC g6
 obtain ⟨v7,rfl,k7⟩:=LC g7
 obtain ⟨v8,rfl,k8⟩:=LC g8
 obtain ⟨v9,rfl,k9⟩:=LC g9
 exact ⟨⟨v0,v1,v2,v3,v4,v5,v6,v7,v8,v9⟩,rfl,trivial⟩
def Head.eq(x y:Head):KF AA 34 (.agg x.c) (.agg y.c)=some (decide (x=y)):=by
 have e:KF AA 34 (.agg x.c) (.agg y.c)=some ((x.h0==y.h0)&&((x.h1==y.h1)&&((x.h2==y.h2)&&((x.h3==y.h3)&&((x.h4==y.h4)&&((x.h5==y.h5)&&((x.h6==y.h6)&&((x.h7==y.h7)&&((x.h8==y.h8)&&((x.h9==y.h9)&&true)))))))))):=kr
 rw [e,Option.some.injEq,BB]
 simp [Head.ext_iff]
def AEH(x y:Head){d:Tmp}{K:Kt}{e:Ft}{H:FR}:Ih AA .neq 34 (.agg x.c) (.agg y.c) d K e H=K ((d,.bool !(decide (x=y)))::e) H:=yZ (Head.eq x y)
@[ext] structure Fld where
 name:ByteArray
 at_:Int
 width:Int
 deriving DecidableEq,Inhabited
def Fld.c(x:Fld):List AV:=[.str x.name,.int .i64 x.at_,.int .i64 x.width]
def AG9(x:Fld):1<=FT x.c:=by
 have h1:1<=(.str x.name:AV).bulk:=by simp [AV.bulk]
 exact AK h1 (Fs (AB (i:=0) rfl))
def qO(x:Fld):x.c.length=3:=rfl
def qP(x:Fld):x.c.map borrow1=x.c:=rfl
def qN(x:Fld):x.c.any F8=false:=by
 rfl
def lH(x:Fld):x.c.take 3=x.c:=rfl
def Fld.cf_pure(x:Fld):FV x.c=true:=by
 simp [Fld.c,FV,AV.pure]
def qR(x:Fld):FV x.c=true:=x.cf_pure
def XW(k:Nat)(x:Fld):Fl k x.c=true:=by
 simp [Fld.c,Fl,AV.bnd]
def Fld.c_bnd(k:Nat)(x:Fld):Fl k x.c=true:=XW k x
def lI{x:Fld}{B:Nat}(h:FT x.c<=B):x.name.size<=B:=HC (AB (i:=0) rfl) h
def qQ(x:Fld):x.c[0]? =some (.str x.name)/\x.c[1]? =some (.int .i64 x.at_)/\x.c[2]? =some (.int .i64 x.width):=⟨rfl,rfl,rfl⟩
def Fld.z:Fld:=⟨.empty,0,0⟩
def Fld.zero:Fi AA 99=some (.agg Fld.z.c):=kr
def Fld.ok(_:Fld):Prop:=True
def Fld.rd{a:AV}(h:Rd AA 99 a): ∃ x:Fld,a = .agg x.c/\x.ok:=by
 obtain ⟨ps,rfl,hp⟩:=GF (ts:=[9,3,3]) kr h
 obtain ⟨a0,a1,a2,rfl,g0,g1,g2⟩:=I4 hp
 obtain ⟨v0,rfl,k0⟩:=dJ g0
 obtain ⟨v1,rfl,k1⟩:=LC g1
 obtain ⟨v2,rfl,k2⟩:=LC g2
 exact ⟨⟨v0,v1,v2⟩,rfl,trivial⟩
@[ext] structure Port where
 name:ByteArray
 edge:Int
 deriving DecidableEq,Inhabited
def Port.c(x:Port):List AV:=[.str x.name,.int .i64 x.edge]
def AD9(x:Port):1<=FT x.c:=by
 have h1:1<=(.str x.name:AV).bulk:=by simp [AV.bulk]
 exact AK h1 (Fs (AB (i:=0) rfl))
def kX(x:Port):x.c.length=2:=rfl
def kY(x:Port):x.c.map borrow1=x.c:=rfl
def kW(x:Port):x.c.any F8=false:=by
 rfl
def cW(x:Port):x.c.take 2=x.c:=rfl
def Port.cf_pure(x:Port):FV x.c=true:=by
 simp [Port.c,FV,AV.pure]
def ka(x:Port):FV x.c=true:=x.cf_pure
def UB(k:Nat)(x:Port):Fl k x.c=true:=by
 simp [Port.c,Fl,AV.bnd]
def Port.c_bnd(k:Nat)(x:Port):Fl k x.c=true:=UB k x
def cX{x:Port}{B:Nat}(h:FT x.c<=B):x.name.size<=B:=HC (AB (i:=0) rfl) h
def kZ(x:Port):x.c[0]? =some (.str x.name)/\x.c[1]? =some (.int .i64 x.edge):=⟨rfl,rfl⟩
def Port.z:Port:=⟨.empty,0⟩
def Port.zero:Fi AA 104=some (.agg Port.z.c):=kr
def Port.ok(_:Port):Prop:=True
def Port.rd{a:AV}(h:Rd AA 104 a): ∃ x:Port,a = .agg x.c/\x.ok:=by
 obtain ⟨ps,rfl,hp⟩:=GF (ts:=[9,3]) kr h
 obtain ⟨a0,a1,rfl,g0,g1⟩:=Hh hp
 obtain ⟨v0,rfl,k0⟩:=dJ g0
 obtain ⟨v1,rfl,k1⟩:=LC g1
 exact ⟨⟨v0,v1⟩,rfl,trivial⟩
@[ext] structure Wire where
 src:Int
 dst:Int
 deriving DecidableEq,Inhabited
def Wire.c(x:Wire):List AV:=[.int .i64 x.src,.int .i64 x.dst]
def AD3(x:Wire):1<=FT x.c:=by
 have h1:1<=(.int .i64 x.src:AV).bulk:=by simp [AV.bulk]
 exact AK h1 (Fs (AB (i:=0) rfl))
def kH(x:Wire):x.c.length=2:=rfl
def kI(x:Wire):x.c.map borrow1=x.c:=rfl
def kG(x:Wire):x.c.any F8=false:=by
 rfl
def bv(x:Wire):x.c.take 2=x.c:=rfl
def Wire.cf_pure(x:Wire):FV x.c=true:=by
 simp [Wire.c,FV,AV.pure]
def kK(x:Wire):FV x.c=true:=x.cf_pure
def T9(k:Nat)(x:Wire):Fl k x.c=true:=by
 simp [Wire.c,Fl,AV.bnd]
def Wire.c_bnd(k:Nat)(x:Wire):Fl k x.c=true:=T9 k x
def kJ(x:Wire):x.c[0]? =some (.int .i64 x.src)/\x.c[1]? =some (.int .i64 x.dst):=⟨rfl,rfl⟩
def Wire.z:Wire:=⟨0,0⟩
def Wire.zero:Fi AA 267=some (.agg Wire.z.c):=kr
def Wire.ok(_:Wire):Prop:=True
def Wire.rd{a:AV}(h:Rd AA 267 a): ∃ x:Wire,a = .agg x.c/\x.ok:=by
 obtain ⟨ps,rfl,hp⟩:=GF (ts:=[3,3]) kr h
 obtain ⟨a0,a1,rfl,g0,g1⟩:=Hh hp
 obtain ⟨v0,rfl,k0⟩:=LC g0
 obtain ⟨v1,rfl,k1⟩:=LC g1
 exact ⟨⟨v0,v1⟩,rfl,trivial⟩
structure Pred where
 kind:Int
 field:ByteArray
 n:Int
 m:Int
 args:List Pred
instance:Inhabited Pred:=⟨⟨default,default,default,default,default⟩⟩
mutual
def Pred.e:Pred->AV
 | ⟨v0,v1,v2,v3,v4⟩ => .agg [.int .i64 v0,.str v1,.int .i64 v2,.int .i64 v3,.sl none (Pred.es v4)]
def Pred.es:List Pred->List AV
 | []=>[]
 | x::l=>Pred.e x::Pred.es l
end
abbrev GG:List Pred->List AV:=Pred.es
mutual
def kR : ∀ x:Pred,(x.e).pure=true
 | ⟨v0,v1,v2,v3,v4⟩=>by simp [Pred.e,AV.pure,FV,N1 v4]
def N1 : ∀ l:List Pred,FV (Pred.es l)=true
 | []=>rfl
 | x::l=>by simp [Pred.es,FV,kR x,N1 l]
end
mutual
def qG(k:Nat): ∀ x:Pred,(x.e).bnd k=true
 | ⟨v0,v1,v2,v3,v4⟩=>by simp [Pred.e,AV.bnd,Fl,PL k v4]
def PL(k:Nat): ∀ l:List Pred,Fl k (Pred.es l)=true
 | []=>rfl
 | x::l=>by simp [Pred.es,Fl,qG k x,PL k l]
end
def JX(l:List Pred):FV (GG l)=true:=N1 l
def KW(k:Nat)(l:List Pred):Fl k (GG l)=true:=PL k l
def JM(p:Pred->Prop)(h : ∀ x:Pred,(∀ y∈x.args,p y)->p x): ∀ x,p x :=
 λx=>Pred.rec (motive_1:=p) (motive_2:=λl => ∀ y∈l,p y) (λv0 v1 v2 v3 v4 ih=>h ⟨v0,v1,v2,v3,v4⟩ ih) (λy hy=>by cases hy) (λx l h1 h2 y hy=>by
  rcases AW.1 hy with rfl|hy
  ·exact h1
  ·exact h2 y hy) x
def Pred.cf(x:Pred)(o0:Option Nat):List AV:=[.int .i64 x.kind,.str x.field,.int .i64 x.n,.int .i64 x.m,.sl o0 (GG x.args)]
abbrev Pred.c(x:Pred):List AV:=x.cf none
def AD8(x:Pred):1<=FT x.c:=by
 have h1:1<=(.int .i64 x.kind:AV).bulk:=by simp [AV.bulk]
 exact AK h1 (Fs (AB (i:=0) rfl))
def zJ(x:Pred):x.e = .agg x.c:=by cases x;rfl
def Hd(l:List Pred):GG l=l.map λx => .agg x.c:=by
 induction l with
 | nil=>rfl
 | cons x l ih=>show x.e::Pred.es l=_;rw [show Pred.es l=_ from ih,zJ];rfl
def Mv(l:List Pred):(GG l).length=l.length:=by simp [Hd]
def GL{l:List Pred}{i:Nat}{x:Pred}(h:l[i]? =some x):(GG l)[i]? =some (.agg x.c):=by simp [Hd,h]
def Mu{l:List Pred}{x:Pred}(h:x∈l): .agg x.c∈GG l:=by rw [Hd];exact AN.2 ⟨x,h,rfl⟩
def gX(l:List Pred): ∀ x∈GG l,x.cells.length=5:=by
 intro x hx;rw [Hd] at hx;obtain ⟨y,_,rfl⟩:=AN.1 hx;rfl
def ao(l:List Pred):(∀ x∈GG l,x.cells.length=5)=True:=eq_true (gX l)
def tx:GG []=[]:=rfl
def gV(l:List Pred)(k:Nat):(GG l).take k=GG (l.take k):=by simp [Hd]
def gW(l:List Pred)(k:Nat):(GG l).drop k=GG (l.drop k):=by simp [Hd]
def tz(a b:List Pred):GG a++GG b=GG (a++b):=by simp [Hd]
def V6{l:List Pred}{B:Nat}(h:FT (GG l)<=B){x:Pred}(hx:x∈l):(.agg x.c:AV).bulk<=B:=AK (Fs (Mu hx)) h
def V5{l:List Pred}{B:Nat}(h:FT (GG l)<=B):l.length<=B:=by
 refine AK ?_ h
 rw [Hd];exact HM (f:=λ(x:Pred) => .agg x.c) (λx=>by exact AD8 x) l
def kT(x:Pred)(o0:Option Nat):(x.cf o0).length=5:=rfl
def kU(x:Pred)(o0:Option Nat):(x.cf o0).map borrow1=x.cf none:=rfl
def kS(x:Pred)(o0:Option Nat):(x.cf o0).any F8=(o0.isSome):=by
 cases o0<;>rfl
def cV(x:Pred)(o0:Option Nat):(x.cf o0).take 5=x.cf o0:=rfl
def Pred.cf_pure(x:Pred)(o0:Option Nat):FV (x.cf o0)=true:=by
 simp [Pred.cf,FV,AV.pure,JX]
def UA(k:Nat)(x:Pred)(o0:Option Nat):Fl k (x.cf o0)=true:=by
 simp [Pred.cf,Fl,AV.bnd,KW]
def Pred.c_bnd(k:Nat)(x:Pred):Fl k x.c=true:=UA k x none
def Ku{x:Pred}(h:HU x.c):x.args.length<=9223372036854775807:=by
 have h1:(AV.sl none (GG x.args)).fit:=Fv.1 h _ (AB (i:=4) rfl)
 have h2:=h1.1
 rwa [Mv] at h2
def QO{x:Pred}{B:Nat}(h:FT x.c<=B):x.field.size<=B:=HC (AB (i:=1) rfl) h
def I5{x:Pred}{B:Nat}(h:FT x.c<=B):FT (GG x.args)<=B:=Gu (o:=none) (AB (i:=4) rfl) h
def kV(x:Pred)(o0:Option Nat):(x.cf o0)[0]? =some (.int .i64 x.kind)/\(x.cf o0)[1]? =some (.str x.field)/\(x.cf o0)[2]? =some (.int .i64 x.n)/\(x.cf o0)[3]? =some (.int .i64 x.m)/\(x.cf o0)[4]? =some (.sl o0 (GG x.args)):=⟨rfl,rfl,rfl,rfl,rfl⟩
def Pred.z:Pred:=⟨0,.empty,0,0,[]⟩
def Pred.zero:Fi AA 58=some (.agg (Pred.z.cf (some 5))):=kr
def Pred.ok(_:Pred):Prop:=True
def kQ : ∀ (n:Nat) {a:AV},SizeOf.sizeOf a<=n->Rd AA 58 a -> ∃ x:Pred,a = .agg x.c/\x.ok
 | 0,a,hn,h=>by cases a<;>simp at hn
 | n+1,a,hn,h=>by
  obtain ⟨ps,rfl,hp⟩:=GF (ts:=[3,9,3,3,56]) kr h
  obtain ⟨a0,a1,a2,a3,a4,rfl,g0,g1,g2,g3,g4⟩:=N0 hp
  obtain ⟨v0,rfl,k0⟩:=LC g0
  obtain ⟨v1,rfl,k1⟩:=dJ g1
  obtain ⟨v2,rfl,k2⟩:=LC g2
  obtain ⟨v3,rfl,k3⟩:=LC g3
  obtain ⟨es,rfl,hb,he⟩:=PJ (e:=58) kr g4
  obtain ⟨v4,rfl,hok⟩:=ah (f:=λx:Pred => .agg x.c) (ok:=Pred.ok) λx hx=>kQ n (by
   have h1:=DG hx
   have h2:=BQ (aE (o:=none) (es:=es) (by simp [HQ,AV.cells])) hn
   omega) (he x hx)
  rw [Aq,show AA.bytesOf 58=64 by kernel_rfl] at hb
  refine ⟨⟨v0,v1,v2,v3,v4⟩, ?_,trivial⟩
  rw [<- Hd];rfl
def Pred.rd{a:AV}(h:Rd AA 58 a): ∃ x:Pred,a = .agg x.c/\x.ok:=kQ _ (AU _) h
structure Policy where
 kind:Int
 pred:Pred
 field:ByteArray
 n:Int
 args:List Policy
instance:Inhabited Policy:=⟨⟨default,default,default,default,default⟩⟩
mutual
def Policy.e:Policy->AV
 | ⟨v0,v1,v2,v3,v4⟩ => .agg [.int .i64 v0,.int .i64 v1.kind,.str v1.field,.int .i64 v1.n,.int .i64 v1.m,.sl none (GG v1.args),.str v2,.int .i64 v3,.sl none (Policy.es v4)]
def Policy.es:List Policy->List AV
 | []=>[]
 | x::l=>Policy.e x::Policy.es l
end
abbrev F2:List Policy->List AV:=Policy.es
mutual
def Yg : ∀ x:Policy,(x.e).pure=true
 | ⟨v0,v1,v2,v3,v4⟩=>by simp [Policy.e,AV.pure,FV,L7 v4,JX]
def L7 : ∀ l:List Policy,FV (Policy.es l)=true
 | []=>rfl
 | x::l=>by simp [Policy.es,FV,Yg x,L7 l]
end
mutual
def cY(k:Nat): ∀ x:Policy,(x.e).bnd k=true
 | ⟨v0,v1,v2,v3,v4⟩=>by simp [Policy.e,AV.bnd,Fl,Mf k v4,KW]
def Mf(k:Nat): ∀ l:List Policy,Fl k (Policy.es l)=true
 | []=>rfl
 | x::l=>by simp [Policy.es,Fl,cY k x,Mf k l]
end
def Nh(l:List Policy):FV (F2 l)=true:=L7 l
def Oi(k:Nat)(l:List Policy):Fl k (F2 l)=true:=Mf k l
def Hn(p:Policy->Prop)(h : ∀ x:Policy,(∀ y∈x.args,p y)->p x): ∀ x,p x :=
 λx=>Policy.rec (motive_1:=p) (motive_2:=λl => ∀ y∈l,p y) (λv0 v1 v2 v3 v4 ih=>h ⟨v0,v1,v2,v3,v4⟩ ih) (λy hy=>by cases hy) (λx l h1 h2 y hy=>by
  rcases AW.1 hy with rfl|hy
  ·exact h1
  ·exact h2 y hy) x
def Policy.cf(x:Policy)(o0 o1:Option Nat):List AV:=[.int .i64 x.kind,.int .i64 x.pred.kind,.str x.pred.field,.int .i64 x.pred.n,.int .i64 x.pred.m,.sl o0 (GG x.pred.args),.str x.field,.int .i64 x.n,.sl o1 (F2 x.args)]
abbrev Policy.c(x:Policy):List AV:=x.cf none none
def qJ(x:Policy):1<=FT x.c:=by
 have h1:1<=(.int .i64 x.kind:AV).bulk:=by simp [AV.bulk]
 exact AK h1 (Fs (AB (i:=0) rfl))
def kc(x:Policy):x.e = .agg x.c:=by cases x;rfl
def Gg(l:List Policy):F2 l=l.map λx => .agg x.c:=by
 induction l with
 | nil=>rfl
 | cons x l ih=>show x.e::Policy.es l=_;rw [show Policy.es l=_ from ih,kc];rfl
def Ty(l:List Policy):(F2 l).length=l.length:=by simp [Gg]
def Fx{l:List Policy}{i:Nat}{x:Policy}(h:l[i]? =some x):(F2 l)[i]? =some (.agg x.c):=by simp [Gg,h]
def Tx{l:List Policy}{x:Policy}(h:x∈l): .agg x.c∈F2 l:=by rw [Gg];exact AN.2 ⟨x,h,rfl⟩
def X8(l:List Policy): ∀ x∈F2 l,x.cells.length=9:=by
 intro x hx;rw [Gg] at hx;obtain ⟨y,_,rfl⟩:=AN.1 hx;rfl
def V8(l:List Policy):(∀ x∈F2 l,x.cells.length=9)=True:=eq_true (X8 l)
def gZ:F2 []=[]:=rfl
def X6(l:List Policy)(k:Nat):(F2 l).take k=F2 (l.take k):=by simp [Gg]
def X7(l:List Policy)(k:Nat):(F2 l).drop k=F2 (l.drop k):=by simp [Gg]
def gd(a b:List Policy):F2 a++F2 b=F2 (a++b):=by simp [Gg]
def Qo{l:List Policy}{B:Nat}(h:FT (F2 l)<=B){x:Policy}(hx:x∈l):(.agg x.c:AV).bulk<=B:=AK (Fs (Tx hx)) h
def Qn{l:List Policy}{B:Nat}(h:FT (F2 l)<=B):l.length<=B:=by
 refine AK ?_ h
 rw [Gg];exact HM (f:=λ(x:Policy) => .agg x.c) (λx=>by exact qJ x) l
def Yi(x:Policy)(o0 o1:Option Nat):(x.cf o0 o1).length=9:=rfl
def Yj(x:Policy)(o0 o1:Option Nat):(x.cf o0 o1).map borrow1=x.cf none none:=rfl
def Yh(x:Policy)(o0 o1:Option Nat):(x.cf o0 o1).any F8=(o0.isSome||o1.isSome):=by
 cases o0<;>cases o1<;>rfl
def XH(x:Policy)(o0 o1:Option Nat):(x.cf o0 o1).take 9=x.cf o0 o1:=rfl
def Policy.cf_pure(x:Policy)(o0 o1:Option Nat):FV (x.cf o0 o1)=true:=by
 simp [Policy.cf,FV,AV.pure,Nh,JX]
def QP(k:Nat)(x:Policy)(o0 o1:Option Nat):Fl k (x.cf o0 o1)=true:=by
 simp [Policy.cf,Fl,AV.bnd,Oi,KW]
def Policy.c_bnd(k:Nat)(x:Policy):Fl k x.c=true:=QP k x none none
def JS{x:Policy}(h:HU x.c):x.args.length<=9223372036854775807:=by
 have h1:(AV.sl none (F2 x.args)).fit:=Fv.1 h _ (AB (i:=8) rfl)
 have h2:=h1.1
 rwa [Ty] at h2
def L8{x:Policy}{B:Nat}(h:FT x.c<=B):FT x.pred.c<=B:=by
 have h1:=Hc x.c 1 5
 rw [show (x.c.drop 1).take 5=x.pred.c from rfl] at h1
 omega
def N7{x:Policy}{B:Nat}(h:FT x.c<=B):x.field.size<=B:=HC (AB (i:=6) rfl) h
def IK{x:Policy}{B:Nat}(h:FT x.c<=B):FT (F2 x.args)<=B:=Gu (o:=none) (AB (i:=8) rfl) h
def Yk(x:Policy)(o0 o1:Option Nat):(x.cf o0 o1)[0]? =some (.int .i64 x.kind)/\(x.cf o0 o1)[6]? =some (.str x.field)/\(x.cf o0 o1)[7]? =some (.int .i64 x.n)/\(x.cf o0 o1)[8]? =some (.sl o1 (F2 x.args)):=⟨rfl,rfl,rfl,rfl⟩
def P2(x:Policy)(o0 o1:Option Nat):((x.cf o0 o1).drop 1).take 5=x.pred.cf o0:=rfl
def Policy.z:Policy:=⟨0,⟨0,.empty,0,0,[]⟩,.empty,0,[]⟩
def Policy.zero:Fi AA 107=some (.agg (Policy.z.cf (some 5) (some 9))):=kr
def Policy.ok(_:Policy):Prop:=True
def XG : ∀ (n:Nat) {a:AV},SizeOf.sizeOf a<=n->Rd AA 107 a -> ∃ x:Policy,a = .agg x.c/\x.ok
 | 0,a,hn,h=>by cases a<;>simp at hn
 | n+1,a,hn,h=>by
  obtain ⟨ps,rfl,hp⟩:=GF (ts:=[3,58,9,3,105]) kr h
  obtain ⟨a0,a1,a2,a3,a4,rfl,g0,g1,g2,g3,g4⟩:=N0 hp
  obtain ⟨v0,rfl,k0⟩:=LC g0
  obtain ⟨v1,rfl,k1⟩:=Pred.rd g1
  obtain ⟨v2,rfl,k2⟩:=dJ g2
  obtain ⟨v3,rfl,k3⟩:=LC g3
  obtain ⟨es,rfl,hb,he⟩:=PJ (e:=107) kr g4
  obtain ⟨v4,rfl,hok⟩:=ah (f:=λx:Policy => .agg x.c) (ok:=Policy.ok) λx hx=>XG n (by
   have h1:=DG hx
   have h2:=BQ (aE (o:=none) (es:=es) (by simp [HQ,AV.cells])) hn
   omega) (he x hx)
  rw [Aq,show AA.bytesOf 107=120 by kernel_rfl] at hb
  refine ⟨⟨v0,v1,v2,v3,v4⟩, ?_,trivial⟩
  rw [<- Gg];rfl
def Policy.rd{a:AV}(h:Rd AA 107 a): ∃ x:Policy,a = .agg x.c/\x.ok:=XG _ (AU _) h
structure Regex where
 kind:Int
 node:ByteArray
 args:List Regex
instance:Inhabited Regex:=⟨⟨default,default,default⟩⟩
mutual
def Regex.e:Regex->AV
 | ⟨v0,v1,v2⟩ => .agg [.int .i64 v0,.str v1,.sl none (Regex.es v2)]
def Regex.es:List Regex->List AV
 | []=>[]
 | x::l=>Regex.e x::Regex.es l
end
abbrev J1:List Regex->List AV:=Regex.es
mutual
def cN : ∀ x:Regex,(x.e).pure=true
 | ⟨v0,v1,v2⟩=>by simp [Regex.e,AV.pure,FV,Me v2]
def Me : ∀ l:List Regex,FV (Regex.es l)=true
 | []=>rfl
 | x::l=>by simp [Regex.es,FV,cN x,Me l]
end
mutual
def kO(k:Nat): ∀ x:Regex,(x.e).bnd k=true
 | ⟨v0,v1,v2⟩=>by simp [Regex.e,AV.bnd,Fl,Nz k v2]
def Nz(k:Nat): ∀ l:List Regex,Fl k (Regex.es l)=true
 | []=>rfl
 | x::l=>by simp [Regex.es,Fl,kO k x,Nz k l]
end
def Oh(l:List Regex):FV (J1 l)=true:=Me l
def Qm(k:Nat)(l:List Regex):Fl k (J1 l)=true:=Nz k l
def TY(p:Regex->Prop)(h : ∀ x:Regex,(∀ y∈x.args,p y)->p x): ∀ x,p x :=
 λx=>Regex.rec (motive_1:=p) (motive_2:=λl => ∀ y∈l,p y) (λv0 v1 v2 ih=>h ⟨v0,v1,v2⟩ ih) (λy hy=>by cases hy) (λx l h1 h2 y hy=>by
  rcases AW.1 hy with rfl|hy
  ·exact h1
  ·exact h2 y hy) x
def Regex.cf(x:Regex)(o0:Option Nat):List AV:=[.int .i64 x.kind,.str x.node,.sl o0 (J1 x.args)]
abbrev Regex.c(x:Regex):List AV:=x.cf none
def zH(x:Regex):1<=FT x.c:=by
 have h1:1<=(.int .i64 x.kind:AV).bulk:=by simp [AV.bulk]
 exact AK h1 (Fs (AB (i:=0) rfl))
def qE(x:Regex):x.e = .agg x.c:=by cases x;rfl
def Mt(l:List Regex):J1 l=l.map λx => .agg x.c:=by
 induction l with
 | nil=>rfl
 | cons x l ih=>show x.e::Regex.es l=_;rw [show Regex.es l=_ from ih,qE];rfl
def V4(l:List Regex):(J1 l).length=l.length:=by simp [Mt]
def Ng{l:List Regex}{i:Nat}{x:Regex}(h:l[i]? =some x):(J1 l)[i]? =some (.agg x.c):=by simp [Mt,h]
def V3{l:List Regex}{x:Regex}(h:x∈l): .agg x.c∈J1 l:=by rw [Mt];exact AN.2 ⟨x,h,rfl⟩
def tw{l:List Regex}{B:Nat}(h:FT (J1 l)<=B){x:Regex}(hx:x∈l):(.agg x.c:AV).bulk<=B:=AK (Fs (V3 hx)) h
def tt{l:List Regex}{B:Nat}(h:FT (J1 l)<=B):l.length<=B:=by
 refine AK ?_ h
 rw [Mt];exact HM (f:=λ(x:Regex) => .agg x.c) (λx=>by exact zH x) l
def cP(x:Regex)(o0:Option Nat):(x.cf o0).length=3:=rfl
def cQ(x:Regex)(o0:Option Nat):(x.cf o0).map borrow1=x.cf none:=rfl
def cO(x:Regex)(o0:Option Nat):(x.cf o0).any F8=(o0.isSome):=by
 cases o0<;>rfl
def Yd(x:Regex)(o0:Option Nat):(x.cf o0).take 3=x.cf o0:=rfl
def Regex.cf_pure(x:Regex)(o0:Option Nat):FV (x.cf o0)=true:=by
 simp [Regex.cf,FV,AV.pure,Oh]
def SQ(k:Nat)(x:Regex)(o0:Option Nat):Fl k (x.cf o0)=true:=by
 simp [Regex.cf,Fl,AV.bnd,Qm]
def Regex.c_bnd(k:Nat)(x:Regex):Fl k x.c=true:=SQ k x none
def PI{x:Regex}(h:HU x.c):x.args.length<=9223372036854775807:=by
 have h1:(AV.sl none (J1 x.args)).fit:=Fv.1 h _ (AB (i:=2) rfl)
 have h2:=h1.1
 rwa [V4] at h2
def Ye{x:Regex}{B:Nat}(h:FT x.c<=B):x.node.size<=B:=HC (AB (i:=1) rfl) h
def QN{x:Regex}{B:Nat}(h:FT x.c<=B):FT (J1 x.args)<=B:=Gu (o:=none) (AB (i:=2) rfl) h
def cR(x:Regex)(o0:Option Nat):(x.cf o0)[0]? =some (.int .i64 x.kind)/\(x.cf o0)[1]? =some (.str x.node)/\(x.cf o0)[2]? =some (.sl o0 (J1 x.args)):=⟨rfl,rfl,rfl⟩
def Regex.z:Regex:=⟨0,.empty,[]⟩
def Regex.zero:Fi AA 189=some (.agg (Regex.z.cf (some 3))):=kr
def Regex.ok(_:Regex):Prop:=True
def Zy : ∀ (n:Nat) {a:AV},SizeOf.sizeOf a<=n->Rd AA 189 a -> ∃ x:Regex,a = .agg x.c/\x.ok
 | 0,a,hn,h=>by cases a<;>simp at hn
 | n+1,a,hn,h=>by
  obtain ⟨ps,rfl,hp⟩:=GF (ts:=[3,9,187]) kr h
  obtain ⟨a0,a1,a2,rfl,g0,g1,g2⟩:=I4 hp
  obtain ⟨v0,rfl,k0⟩:=LC g0
  obtain ⟨v1,rfl,k1⟩:=dJ g1
  obtain ⟨es,rfl,hb,he⟩:=PJ (e:=189) kr g2
  obtain ⟨v2,rfl,hok⟩:=ah (f:=λx:Regex => .agg x.c) (ok:=Regex.ok) λx hx=>Zy n (by
   have h1:=DG hx
   have h2:=BQ (aE (o:=none) (es:=es) (by simp [HQ,AV.cells])) hn
   omega) (he x hx)
  rw [Aq,show AA.bytesOf 189=48 by kernel_rfl] at hb
  refine ⟨⟨v0,v1,v2⟩, ?_,trivial⟩
  rw [<- Mt];rfl
def Regex.rd{a:AV}(h:Rd AA 189 a): ∃ x:Regex,a = .agg x.c/\x.ok:=Zy _ (AU _) h
def HA(l:List ByteArray):List AV:=l.map λx => .str x
def Lp(l:List ByteArray):(HA l).length=l.length:=by simp [HA]
def Gj{l:List ByteArray}{i:Nat}{x:ByteArray}(h:l[i]? =some x):(HA l)[i]? =some (.str x):=by simp [HA,h]
def ABk{l:List ByteArray}{x:ByteArray}(h:x∈l): .str x∈HA l:=by rw [HA];exact AN.2 ⟨x,h,rfl⟩
def nF(l:List ByteArray): ∀ x∈HA l,x.cells.length=1:=by
 intro x hx;obtain ⟨y,_,rfl⟩:=AN.1 hx;rfl
def gR(l:List ByteArray):(∀ x∈HA l,x.cells.length=1)=True:=eq_true (nF l)
def ABj:HA []=[]:=rfl
def nD(l:List ByteArray)(k:Nat):(HA l).take k=HA (l.take k):=by simp [HA]
def tj(a:List ByteArray)(x:ByteArray):HA a++[.str x]=HA (a++[x]):=by simp [HA]
def Pb(l:List ByteArray):FV (HA l)=true:=by
 induction l with
 | nil=>rfl
 | cons x xs ih=>simpa [HA,FV,AV.pure] using ih
def Rt(k:Nat)(l:List ByteArray):Fl k (HA l)=true:=Hf λx=>rfl
def AFh{l:List ByteArray}{B:Nat}(h:FT (HA l)<=B){x:ByteArray}(hx:x∈l):(.str x:AV).bulk<=B:=AK (Fs (ABk hx)) h
def U1{l:List ByteArray}{B:Nat}(h:FT (HA l)<=B):l.length<=B:=by
 refine AK ?_ h
 exact HM (f:=λ(x:ByteArray) => .str x) (λx=>by simp [AV.bulk]) l
def AFg(l:List ByteArray):Prop:=l.length*16<=reachBytes /\ ∀ x∈l,x.size<=reachBytes
def nE{a:AV}(h:Rd AA 102 a): ∃ l,a = .sl none (HA l)/\AFg l:=by
 obtain ⟨l,h1,h2,h3⟩:=IC (f:=λ(x:ByteArray) => .str x) (ok:=λ(x:ByteArray)=>x.size<=reachBytes) (P:=AA) (t:=102) (e:=9) kr (λx hx=>dJ hx) h
 exact ⟨l,h1,by rw [show AA.bytesOf 9=16 by kernel_rfl] at h2;exact h2,h3⟩
@[ext] structure Stp where
 kind:Int
 var:ByteArray
 key:List ByteArray
 field:ByteArray
 n:Int
 m:Int
 deriving DecidableEq,Inhabited
def Stp.cf(x:Stp)(o0:Option Nat):List AV:=[.int .i64 x.kind,.str x.var,.sl o0 (HA x.key),.str x.field,.int .i64 x.n,.int .i64 x.m]
abbrev Stp.c(x:Stp):List AV:=x.cf none
def pu(x:Stp)(o0:Option Nat):(x.cf o0).length=6:=rfl
def pv(x:Stp)(o0:Option Nat):(x.cf o0).map borrow1=x.cf none:=rfl
def pt(x:Stp)(o0:Option Nat):(x.cf o0).any F8=(o0.isSome):=by
 cases o0<;>rfl
def kN(x:Stp)(o0:Option Nat):(x.cf o0).take 6=x.cf o0:=rfl
def Stp.cf_pure(x:Stp)(o0:Option Nat):FV (x.cf o0)=true:=by
 simp [Stp.cf,FV,AV.pure,Pb]
def XE(k:Nat)(x:Stp)(o0:Option Nat):Fl k (x.cf o0)=true:=by
 simp [Stp.cf,Fl,AV.bnd,Rt]
def Stp.c_bnd(k:Nat)(x:Stp):Fl k x.c=true:=XE k x none
def kM{x:Stp}(h:HU x.c):x.key.length<=9223372036854775807:=by
 have h1:(AV.sl none (HA x.key)).fit:=Fv.1 h _ (AB (i:=2) rfl)
 have h2:=h1.1
 rwa [Lp] at h2
def pz{x:Stp}{B:Nat}(h:FT x.c<=B):x.var.size<=B:=HC (AB (i:=1) rfl) h
def L6{x:Stp}{B:Nat}(h:FT x.c<=B):FT (HA x.key)<=B:=Gu (o:=none) (AB (i:=2) rfl) h
def b5{x:Stp}{B:Nat}(h:FT x.c<=B):x.field.size<=B:=HC (AB (i:=3) rfl) h
def pw(x:Stp)(o0:Option Nat):(x.cf o0)[0]? =some (.int .i64 x.kind)/\(x.cf o0)[1]? =some (.str x.var)/\(x.cf o0)[2]? =some (.sl o0 (HA x.key))/\(x.cf o0)[3]? =some (.str x.field)/\(x.cf o0)[4]? =some (.int .i64 x.n)/\(x.cf o0)[5]? =some (.int .i64 x.m):=⟨rfl,rfl,rfl,rfl,rfl,rfl⟩
def Stp.z:Stp:=⟨0,.empty,[],.empty,0,0⟩
def Stp.zero:Fi AA 110=some (.agg (Stp.z.cf (some 1))):=kr
def Stp.ok(_:Stp):Prop:=True
def Stp.rd{a:AV}(h:Rd AA 110 a): ∃ x:Stp,a = .agg x.c/\x.ok:=by
 obtain ⟨ps,rfl,hp⟩:=GF (ts:=[3,9,102,9,3,3]) kr h
 obtain ⟨a0,a1,a2,a3,a4,a5,rfl,g0,g1,g2,g3,g4,g5⟩:=SR hp
 obtain ⟨v0,rfl,k0⟩:=LC g0
 obtain ⟨v1,rfl,k1⟩:=dJ g1
 obtain ⟨v2,rfl,k2⟩:=nE g2
 obtain ⟨v3,rfl,k3⟩:=dJ g3
 obtain ⟨v4,rfl,k4⟩:=LC g4
 obtain ⟨v5,rfl,k5⟩:=LC g5
 exact ⟨⟨v0,v1,v2,v3,v4,v5⟩,rfl,trivial⟩
@[ext] structure Stage where
 policy:Policy
 step:Stp
 deriving Inhabited
def Stage.cf(x:Stage)(o0 o1 o2:Option Nat):List AV:=[.int .i64 x.policy.kind,.int .i64 x.policy.pred.kind,.str x.policy.pred.field,.int .i64 x.policy.pred.n,.int .i64 x.policy.pred.m,.sl o0 (GG x.policy.pred.args),.str x.policy.field,.int .i64 x.policy.n,.sl o1 (F2 x.policy.args),.int .i64 x.step.kind,.str x.step.var,.sl o2 (HA x.step.key),.str x.step.field,.int .i64 x.step.n,.int .i64 x.step.m]
abbrev Stage.c(x:Stage):List AV:=x.cf none none none
def zF(x:Stage):1<=FT x.c:=by
 have h1:1<=(.int .i64 x.policy.kind:AV).bulk:=by simp [AV.bulk]
 exact AK h1 (Fs (AB (i:=0) rfl))
def b7(x:Stage)(o0 o1 o2:Option Nat):(x.cf o0 o1 o2).length=15:=rfl
def b8(x:Stage)(o0 o1 o2:Option Nat):(x.cf o0 o1 o2).map borrow1=x.cf none none none:=rfl
def b6(x:Stage)(o0 o1 o2:Option Nat):(x.cf o0 o1 o2).any F8=(o0.isSome||o1.isSome||o2.isSome):=by
 cases o0<;>cases o1<;>cases o2<;>rfl
def YY(x:Stage)(o0 o1 o2:Option Nat):(x.cf o0 o1 o2).take 15=x.cf o0 o1 o2:=rfl
def Stage.cf_pure(x:Stage)(o0 o1 o2:Option Nat):FV (x.cf o0 o1 o2)=true:=by
 simp [Stage.cf,FV,AV.pure,Nh,JX,Pb]
def cA(x:Stage):FV x.c=true:=x.cf_pure none none none
def SL(k:Nat)(x:Stage)(o0 o1 o2:Option Nat):Fl k (x.cf o0 o1 o2)=true:=by
 simp [Stage.cf,Fl,AV.bnd,Oi,KW,Rt]
def Stage.c_bnd(k:Nat)(x:Stage):Fl k x.c=true:=SL k x none none none
def Hr{x:Stage}{B:Nat}(h:FT x.c<=B):FT x.policy.c<=B:=by
 have h1:=Hc x.c 0 9
 rw [show (x.c.drop 0).take 9=x.policy.c from rfl] at h1
 omega
def Ks{x:Stage}{B:Nat}(h:FT x.c<=B):FT x.step.c<=B:=by
 have h1:=Hc x.c 9 6
 rw [show (x.c.drop 9).take 6=x.step.c from rfl] at h1
 omega
def b9(x:Stage)(o0 o1 o2:Option Nat):(x.cf o0 o1 o2)[9]? =some (.int .i64 x.step.kind)/\(x.cf o0 o1 o2)[10]? =some (.str x.step.var)/\(x.cf o0 o1 o2)[11]? =some (.sl o2 (HA x.step.key)):=⟨rfl,rfl,rfl⟩
def PH(x:Stage)(o0 o1 o2:Option Nat):(x.cf o0 o1 o2).take 9=x.policy.cf o0 o1:=rfl
def PG(x:Stage)(v:Policy)(o0 o1 o2:Option Nat)(p0 p1:Option Nat):Ht (x.cf o0 o1 o2) (v.cf p0 p1)=({ x with policy:=v }:Stage).cf p0 p1 o2:=rfl
def RF(x:Stage)(o0 o1 o2:Option Nat):((x.cf o0 o1 o2).drop 9).take 6=x.step.cf o2:=rfl
def SK(x:Stage)(v:Stp)(o0 o1 o2:Option Nat)(p0:Option Nat):splice (x.cf o0 o1 o2) 9 (v.cf p0)=({ x with step:=v }:Stage).cf o0 o1 p0:=rfl
def Stage.z:Stage:=⟨⟨0,⟨0,.empty,0,0,[]⟩,.empty,0,[]⟩,⟨0,.empty,[],.empty,0,0⟩⟩
def Stage.zero:Fi AA 112=some (.agg (Stage.z.cf (some 5) (some 9) (some 1))):=kr
def Stage.ok(_:Stage):Prop:=True
def Stage.rd{a:AV}(h:Rd AA 112 a): ∃ x:Stage,a = .agg x.c/\x.ok:=by
 obtain ⟨ps,rfl,hp⟩:=GF (ts:=[107,110]) kr h
 obtain ⟨a0,a1,rfl,g0,g1⟩:=Hh hp
 obtain ⟨v0,rfl,k0⟩:=Policy.rd g0
 obtain ⟨v1,rfl,k1⟩:=Stp.rd g1
 exact ⟨⟨v0,v1⟩,rfl,trivial⟩
@[ext] structure Route where
 pred:Pred
 path:Regex
 deriving Inhabited
def Route.cf(x:Route)(o0 o1:Option Nat):List AV:=[.int .i64 x.pred.kind,.str x.pred.field,.int .i64 x.pred.n,.int .i64 x.pred.m,.sl o0 (GG x.pred.args),.int .i64 x.path.kind,.str x.path.node,.sl o1 (J1 x.path.args)]
abbrev Route.c(x:Route):List AV:=x.cf none none
def zG(x:Route):1<=FT x.c:=by
 have h1:1<=(.int .i64 x.pred.kind:AV).bulk:=by simp [AV.bulk]
 exact AK h1 (Fs (AB (i:=0) rfl))
def cK(x:Route)(o0 o1:Option Nat):(x.cf o0 o1).length=8:=rfl
def cL(x:Route)(o0 o1:Option Nat):(x.cf o0 o1).map borrow1=x.cf none none:=rfl
def cJ(x:Route)(o0 o1:Option Nat):(x.cf o0 o1).any F8=(o0.isSome||o1.isSome):=by
 cases o0<;>cases o1<;>rfl
def Route.cf_pure(x:Route)(o0 o1:Option Nat):FV (x.cf o0 o1)=true:=by
 simp [Route.cf,FV,AV.pure,JX,Oh]
def cM(x:Route):FV x.c=true:=x.cf_pure none none
def SP(k:Nat)(x:Route)(o0 o1:Option Nat):Fl k (x.cf o0 o1)=true:=by
 simp [Route.cf,Fl,AV.bnd,KW,Qm]
def Route.c_bnd(k:Nat)(x:Route):Fl k x.c=true:=SP k x none none
def Yb{x:Route}{B:Nat}(h:FT x.c<=B):FT x.pred.c<=B:=by
 have h1:=Hc x.c 0 5
 rw [show (x.c.drop 0).take 5=x.pred.c from rfl] at h1
 omega
def Yc{x:Route}{B:Nat}(h:FT x.c<=B):FT x.path.c<=B:=by
 have h1:=Hc x.c 5 3
 rw [show (x.c.drop 5).take 3=x.path.c from rfl] at h1
 omega
def RH(x:Route)(o0 o1:Option Nat):(x.cf o0 o1).take 5=x.pred.cf o0:=rfl
def RI(x:Route)(o0 o1:Option Nat):((x.cf o0 o1).drop 5).take 3=x.path.cf o1:=rfl
def Route.z:Route:=⟨⟨0,.empty,0,0,[]⟩,⟨0,.empty,[]⟩⟩
def Route.ok(_:Route):Prop:=True
def Route.rd{a:AV}(h:Rd AA 191 a): ∃ x:Route,a = .agg x.c/\x.ok:=by
 obtain ⟨ps,rfl,hp⟩:=GF (ts:=[58,189]) kr h
 obtain ⟨a0,a1,rfl,g0,g1⟩:=Hh hp
 obtain ⟨v0,rfl,k0⟩:=Pred.rd g0
 obtain ⟨v1,rfl,k1⟩:=Regex.rd g1
 exact ⟨⟨v0,v1⟩,rfl,trivial⟩
@[ext] structure Demand where
 src:Int
 dst:Int
 floor:Int
 ceiling:Int
 deriving DecidableEq,Inhabited
def Demand.c(x:Demand):List AV:=[.int .i64 x.src,.int .i64 x.dst,.int .i64 x.floor,.int .i64 x.ceiling]
def qU(x:Demand):1<=FT x.c:=by
 have h1:1<=(.int .i64 x.src:AV).bulk:=by simp [AV.bulk]
 exact AK h1 (Fs (AB (i:=0) rfl))
def Yn(x:Demand):x.c.length=4:=rfl
def Yo(x:Demand):x.c.map borrow1=x.c:=rfl
def Ym(x:Demand):x.c.any F8=false:=by
 rfl
def XX(x:Demand):x.c.take 4=x.c:=rfl
def Demand.cf_pure(x:Demand):FV x.c=true:=by
 simp [Demand.c,FV,AV.pure]
def Yq(x:Demand):FV x.c=true:=x.cf_pure
def QR(k:Nat)(x:Demand):Fl k x.c=true:=by
 simp [Demand.c,Fl,AV.bnd]
def Demand.c_bnd(k:Nat)(x:Demand):Fl k x.c=true:=QR k x
def Yp(x:Demand):x.c[0]? =some (.int .i64 x.src)/\x.c[1]? =some (.int .i64 x.dst)/\x.c[2]? =some (.int .i64 x.floor)/\x.c[3]? =some (.int .i64 x.ceiling):=⟨rfl,rfl,rfl,rfl⟩
def Demand.z:Demand:=⟨0,0,0,0⟩
def Demand.zero:Fi AA 222=some (.agg Demand.z.c):=kr
def Demand.ok(_:Demand):Prop:=True
def Demand.rd{a:AV}(h:Rd AA 222 a): ∃ x:Demand,a = .agg x.c/\x.ok:=by
 obtain ⟨ps,rfl,hp⟩:=GF (ts:=[3,3,3,3]) kr h
 obtain ⟨a0,a1,a2,a3,rfl,g0,g1,g2,g3⟩:=LY hp
 obtain ⟨v0,rfl,k0⟩:=LC g0
 obtain ⟨v1,rfl,k1⟩:=LC g1
 obtain ⟨v2,rfl,k2⟩:=LC g2
 obtain ⟨v3,rfl,k3⟩:=LC g3
 exact ⟨⟨v0,v1,v2,v3⟩,rfl,trivial⟩
def KH(l:List Port):List AV:=l.map λx => .agg x.c
def ZN(l:List Port):(KH l).length=l.length:=by simp [KH]
def IG{l:List Port}{i:Nat}{x:Port}(h:l[i]? =some x):(KH l)[i]? =some (.agg x.c):=by simp [KH,h]
def uA{l:List Port}{x:Port}(h:x∈l): .agg x.c∈KH l:=by rw [KH];exact AN.2 ⟨x,h,rfl⟩
def V7(l:List Port):FV (KH l)=true:=by
 induction l with
 | nil=>rfl
 | cons x xs ih=>simpa [KH,FV,AV.pure] using ⟨ka x,ih⟩
def ZO(k:Nat)(l:List Port):Fl k (KH l)=true:=Hf λx=>Port.c_bnd k x
def ABm{l:List Port}{B:Nat}(h:FT (KH l)<=B){x:Port}(hx:x∈l):(.agg x.c:AV).bulk<=B:=AK (Fs (uA hx)) h
def gY{l:List Port}{B:Nat}(h:FT (KH l)<=B):l.length<=B:=by
 refine AK ?_ h
 exact HM (f:=λ(x:Port) => .agg x.c) (λx=>by exact AD9 x) l
def ABl(l:List Port):Prop:=l.length*24<=reachBytes /\ ∀ x∈l,x.ok
def nJ{a:AV}(h:Rd AA 83 a): ∃ l,a = .sl none (KH l)/\ABl l:=by
 obtain ⟨l,h1,h2,h3⟩:=IC (f:=λ(x:Port) => .agg x.c) (ok:=λ(x:Port)=>x.ok) (P:=AA) (t:=83) (e:=104) kr (λx hx=>Port.rd hx) h
 exact ⟨l,h1,by rw [show AA.bytesOf 104=24 by kernel_rfl] at h2;exact h2,h3⟩
def MH(l:List Wire):List AV:=l.map λx => .agg x.c
def tg(l:List Wire):(MH l).length=l.length:=by simp [MH]
def Hq{l:List Wire}{i:Nat}{x:Wire}(h:l[i]? =some x):(MH l)[i]? =some (.agg x.c):=by simp [MH,h]
def Vz(l:List Wire):FV (MH l)=true:=by
 induction l with
 | nil=>rfl
 | cons x xs ih=>simpa [MH,FV,AV.pure] using ⟨kK x,ih⟩
def ZM(k:Nat)(l:List Wire):Fl k (MH l)=true:=Hf λx=>Wire.c_bnd k x
def Og{l:List Wire}{B:Nat}(h:FT (MH l)<=B):l.length<=B:=by
 refine AK ?_ h
 exact HM (f:=λ(x:Wire) => .agg x.c) (λx=>by exact AD3 x) l
def ABg(l:List Wire):Prop:=l.length*16<=reachBytes /\ ∀ x∈l,x.ok
def m8{a:AV}(h:Rd AA 84 a): ∃ l,a = .sl none (MH l)/\ABg l:=by
 obtain ⟨l,h1,h2,h3⟩:=IC (f:=λ(x:Wire) => .agg x.c) (ok:=λ(x:Wire)=>x.ok) (P:=AA) (t:=84) (e:=267) kr (λx hx=>Wire.rd hx) h
 exact ⟨l,h1,by rw [show AA.bytesOf 267=16 by kernel_rfl] at h2;exact h2,h3⟩
def F9(l:List Stage):List AV:=l.map λx => .agg x.c
def Nd(l:List Stage):(F9 l).length=l.length:=by simp [F9]
def GH{l:List Stage}{i:Nat}{x:Stage}(h:l[i]? =some x):(F9 l)[i]? =some (.agg x.c):=by simp [F9,h]
def nG{l:List Stage}{x:Stage}(h:x∈l): .agg x.c∈F9 l:=by rw [F9];exact AN.2 ⟨x,h,rfl⟩
def an(l:List Stage): ∀ x∈F9 l,x.cells.length=15:=by
 intro x hx;obtain ⟨y,_,rfl⟩:=AN.1 hx;rfl
def X5(l:List Stage):(∀ x∈F9 l,x.cells.length=15)=True:=eq_true (an l)
def nH(a b:List Stage):F9 a++F9 b=F9 (a++b):=by simp [F9]
def Tv(l:List Stage):FV (F9 l)=true:=by
 induction l with
 | nil=>rfl
 | cons x xs ih=>simpa [F9,FV,AV.pure] using ⟨cA x,ih⟩
def V0(k:Nat)(l:List Stage):Fl k (F9 l)=true:=Hf λx=>Stage.c_bnd k x
def KV{l:List Stage}{B:Nat}(h:FT (F9 l)<=B){x:Stage}(hx:x∈l):(.agg x.c:AV).bulk<=B:=AK (Fs (nG hx)) h
def Ms{l:List Stage}{B:Nat}(h:FT (F9 l)<=B):l.length<=B:=by
 refine AK ?_ h
 exact HM (f:=λ(x:Stage) => .agg x.c) (λx=>by exact zF x) l
def tl(l:List Stage):Prop:=l.length*200<=reachBytes /\ ∀ x∈l,x.ok
def gT{a:AV}(h:Rd AA 86 a): ∃ l,a = .sl none (F9 l)/\tl l:=by
 obtain ⟨l,h1,h2,h3⟩:=IC (f:=λ(x:Stage) => .agg x.c) (ok:=λ(x:Stage)=>x.ok) (P:=AA) (t:=86) (e:=112) kr (λx hx=>Stage.rd hx) h
 exact ⟨l,h1,by rw [show AA.bytesOf 112=200 by kernel_rfl] at h2;exact h2,h3⟩
def JB(l:List Route):List AV:=l.map λx => .agg x.c
def V1(l:List Route):(JB l).length=l.length:=by simp [JB]
def Nf{l:List Route}{i:Nat}{x:Route}(h:l[i]? =some x):(JB l)[i]? =some (.agg x.c):=by simp [JB,h]
def nI{l:List Route}{x:Route}(h:x∈l): .agg x.c∈JB l:=by rw [JB];exact AN.2 ⟨x,h,rfl⟩
def Tw(l:List Route):FV (JB l)=true:=by
 induction l with
 | nil=>rfl
 | cons x xs ih=>simpa [JB,FV,AV.pure] using ⟨cM x,ih⟩
def V2(k:Nat)(l:List Route):Fl k (JB l)=true:=Hf λx=>Route.c_bnd k x
def tq{l:List Route}{B:Nat}(h:FT (JB l)<=B){x:Route}(hx:x∈l):(.agg x.c:AV).bulk<=B:=AK (Fs (nI hx)) h
def tp{l:List Route}{B:Nat}(h:FT (JB l)<=B):l.length<=B:=by
 refine AK ?_ h
 exact HM (f:=λ(x:Route) => .agg x.c) (λx=>by exact zG x) l
def tn(l:List Route):Prop:=l.length*112<=reachBytes /\ ∀ x∈l,x.ok
def gU{a:AV}(h:Rd AA 87 a): ∃ l,a = .sl none (JB l)/\tn l:=by
 obtain ⟨l,h1,h2,h3⟩:=IC (f:=λ(x:Route) => .agg x.c) (ok:=λ(x:Route)=>x.ok) (P:=AA) (t:=87) (e:=191) kr (λx hx=>Route.rd hx) h
 exact ⟨l,h1,by rw [show AA.bytesOf 191=112 by kernel_rfl] at h2;exact h2,h3⟩
def JO(l:List Demand):List AV:=l.map λx => .agg x.c
def gk(l:List Demand):(JO l).length=l.length:=by simp [JO]
def Ok{l:List Demand}{i:Nat}{x:Demand}(h:l[i]? =some x):(JO l)[i]? =some (.agg x.c):=by simp [JO,h]
def Rv(l:List Demand):FV (JO l)=true:=by
 induction l with
 | nil=>rfl
 | cons x xs ih=>simpa [JO,FV,AV.pure] using ⟨Yq x,ih⟩
def T0(k:Nat)(l:List Demand):Fl k (JO l)=true:=Hf λx=>Demand.c_bnd k x
def nS{l:List Demand}{B:Nat}(h:FT (JO l)<=B):l.length<=B:=by
 refine AK ?_ h
 exact HM (f:=λ(x:Demand) => .agg x.c) (λx=>by exact qU x) l
def nR(l:List Demand):Prop:=l.length*32<=reachBytes /\ ∀ x∈l,x.ok
def aw{a:AV}(h:Rd AA 88 a): ∃ l,a = .sl none (JO l)/\nR l:=by
 obtain ⟨l,h1,h2,h3⟩:=IC (f:=λ(x:Demand) => .agg x.c) (ok:=λ(x:Demand)=>x.ok) (P:=AA) (t:=88) (e:=222) kr (λx hx=>Demand.rd hx) h
 exact ⟨l,h1,by rw [show AA.bytesOf 222=32 by kernel_rfl] at h2;exact h2,h3⟩
@[ext] structure Tenant where
 name:ByteArray
 ports:List Port
 wires:List Wire
 program:List Stage
 routes:List Route
 demands:List Demand
 deriving Inhabited
def Tenant.cf(x:Tenant)(o0 o1 o2 o3 o4:Option Nat):List AV:=[.str x.name,.sl o0 (KH x.ports),.sl o1 (MH x.wires),.sl o2 (F9 x.program),.sl o3 (JB x.routes),.sl o4 (JO x.demands)]
abbrev Tenant.c(x:Tenant):List AV:=x.cf none none none none none
def pr(x:Tenant):1<=FT x.c:=by
 have h1:1<=(.str x.name:AV).bulk:=by simp [AV.bulk]
 exact AK h1 (Fs (AB (i:=0) rfl))
def YU(x:Tenant)(o0 o1 o2 o3 o4:Option Nat):(x.cf o0 o1 o2 o3 o4).length=6:=rfl
def YV(x:Tenant)(o0 o1 o2 o3 o4:Option Nat):(x.cf o0 o1 o2 o3 o4).map borrow1=x.cf none none none none none:=rfl
def YT(x:Tenant)(o0 o1 o2 o3 o4:Option Nat):(x.cf o0 o1 o2 o3 o4).any F8=(o0.isSome||o1.isSome||o2.isSome||o3.isSome||o4.isSome):=by
 cases o0<;>cases o1<;>cases o2<;>cases o3<;>cases o4<;>rfl
def XC(x:Tenant)(o0 o1 o2 o3 o4:Option Nat):(x.cf o0 o1 o2 o3 o4).take 6=x.cf o0 o1 o2 o3 o4:=rfl
def Tenant.cf_pure(x:Tenant)(o0 o1 o2 o3 o4:Option Nat):FV (x.cf o0 o1 o2 o3 o4)=true:=by
 simp [Tenant.cf,FV,AV.pure,Rv,V7,Tw,Tv,Vz]
def YX(x:Tenant):FV x.c=true:=x.cf_pure none none none none none
def QM(k:Nat)(x:Tenant)(o0 o1 o2 o3 o4:Option Nat):Fl k (x.cf o0 o1 o2 o3 o4)=true:=by
 simp [Tenant.cf,Fl,AV.bnd,T0,ZO,V2,V0,ZM]
def Tenant.c_bnd(k:Nat)(x:Tenant):Fl k x.c=true:=QM k x none none none none none
def NF{x:Tenant}(h:HU x.c):x.ports.length<=9223372036854775807:=by
 have h1:(AV.sl none (KH x.ports)).fit:=Fv.1 h _ (AB (i:=1) rfl)
 have h2:=h1.1
 rwa [ZN] at h2
def RE{x:Tenant}(h:HU x.c):x.program.length<=9223372036854775807:=by
 have h1:(AV.sl none (F9 x.program)).fit:=Fv.1 h _ (AB (i:=3) rfl)
 have h2:=h1.1
 rwa [Nd] at h2
def SI{x:Tenant}(h:HU x.c):x.routes.length<=9223372036854775807:=by
 have h1:(AV.sl none (JB x.routes)).fit:=Fv.1 h _ (AB (i:=4) rfl)
 have h2:=h1.1
 rwa [V1] at h2
def XD{x:Tenant}{B:Nat}(h:FT x.c<=B):x.name.size<=B:=HC (AB (i:=0) rfl) h
def N6{x:Tenant}{B:Nat}(h:FT x.c<=B):FT (KH x.ports)<=B:=Gu (o:=none) (AB (i:=1) rfl) h
def IX{x:Tenant}{B:Nat}(h:FT x.c<=B):FT (MH x.wires)<=B:=Gu (o:=none) (AB (i:=2) rfl) h
def HZ{x:Tenant}{B:Nat}(h:FT x.c<=B):FT (F9 x.program)<=B:=Gu (o:=none) (AB (i:=3) rfl) h
def TX{x:Tenant}{B:Nat}(h:FT x.c<=B):FT (JB x.routes)<=B:=Gu (o:=none) (AB (i:=4) rfl) h
def SJ{x:Tenant}{B:Nat}(h:FT x.c<=B):FT (JO x.demands)<=B:=Gu (o:=none) (AB (i:=5) rfl) h
def YW(x:Tenant)(o0 o1 o2 o3 o4:Option Nat):(x.cf o0 o1 o2 o3 o4)[0]? =some (.str x.name)/\(x.cf o0 o1 o2 o3 o4)[1]? =some (.sl o0 (KH x.ports))/\(x.cf o0 o1 o2 o3 o4)[2]? =some (.sl o1 (MH x.wires))/\(x.cf o0 o1 o2 o3 o4)[3]? =some (.sl o2 (F9 x.program))/\(x.cf o0 o1 o2 o3 o4)[4]? =some (.sl o3 (JB x.routes))/\(x.cf o0 o1 o2 o3 o4)[5]? =some (.sl o4 (JO x.demands)):=⟨rfl,rfl,rfl,rfl,rfl,rfl⟩
def Tenant.z:Tenant:=⟨.empty,[],[],[],[],[]⟩
def Tenant.zero:Fi AA 90=some (.agg (Tenant.z.cf (some 2) (some 2) (some 15) (some 8) (some 4))):=kr
def Tenant.ok(_:Tenant):Prop:=True
def Tenant.rd{a:AV}(h:Rd AA 90 a): ∃ x:Tenant,a = .agg x.c/\x.ok:=by
 obtain ⟨ps,rfl,hp⟩:=GF (ts:=[9,83,84,86,87,88]) kr h
 obtain ⟨a0,a1,a2,a3,a4,a5,rfl,g0,g1,g2,g3,g4,g5⟩:=SR hp
 obtain ⟨v0,rfl,k0⟩:=dJ g0
 obtain ⟨v1,rfl,k1⟩:=nJ g1
 obtain ⟨v2,rfl,k2⟩:=m8 g2
 obtain ⟨v3,rfl,k3⟩:=gT g3
 obtain ⟨v4,rfl,k4⟩:=gU g4
 obtain ⟨v5,rfl,k5⟩:=aw g5
 exact ⟨⟨v0,v1,v2,v3,v4,v5⟩,rfl,trivial⟩
@[ext] structure Node where
 name:ByteArray
 box:Bool
 rules:Int
 entries:Int
 deriving DecidableEq,Inhabited
def Node.c(x:Node):List AV:=[.str x.name,.bool x.box,.int .i64 x.rules,.int .i64 x.entries]
def AEC(x:Node):1<=FT x.c:=by
 have h1:1<=(.str x.name:AV).bulk:=by simp [AV.bulk]
 exact AK h1 (Fs (AB (i:=0) rfl))
def kg(x:Node):x.c.length=4:=rfl
def ki(x:Node):x.c.map borrow1=x.c:=rfl
def kf(x:Node):x.c.any F8=false:=by
 rfl
def cZ(x:Node):x.c.take 4=x.c:=rfl
def Node.cf_pure(x:Node):FV x.c=true:=by
 simp [Node.c,FV,AV.pure]
def kl(x:Node):FV x.c=true:=x.cf_pure
def UE(k:Nat)(x:Node):Fl k x.c=true:=by
 simp [Node.c,Fl,AV.bnd]
def Node.c_bnd(k:Nat)(x:Node):Fl k x.c=true:=UE k x
def cc{x:Node}{B:Nat}(h:FT x.c<=B):x.name.size<=B:=HC (AB (i:=0) rfl) h
def kj(x:Node):x.c[0]? =some (.str x.name)/\x.c[1]? =some (.bool x.box)/\x.c[2]? =some (.int .i64 x.rules)/\x.c[3]? =some (.int .i64 x.entries):=⟨rfl,rfl,rfl,rfl⟩
def Node.z:Node:=⟨.empty,false,0,0⟩
def Node.zero:Fi AA 101=some (.agg Node.z.c):=kr
def Node.ok(_:Node):Prop:=True
def Node.rd{a:AV}(h:Rd AA 101 a): ∃ x:Node,a = .agg x.c/\x.ok:=by
 obtain ⟨ps,rfl,hp⟩:=GF (ts:=[9,4,3,3]) kr h
 obtain ⟨a0,a1,a2,a3,rfl,g0,g1,g2,g3⟩:=LY hp
 obtain ⟨v0,rfl,k0⟩:=dJ g0
 obtain ⟨v1,rfl,k1⟩:=XF (t:=4) kr g1
 obtain ⟨v2,rfl,k2⟩:=LC g2
 obtain ⟨v3,rfl,k3⟩:=LC g3
 exact ⟨⟨v0,v1,v2,v3⟩,rfl,trivial⟩
@[ext] structure Link where
 src:Int
 dst:Int
 capacity:Int
 deriving DecidableEq,Inhabited
def Link.c(x:Link):List AV:=[.int .i64 x.src,.int .i64 x.dst,.int .i64 x.capacity]
def AEF(x:Link):1<=FT x.c:=by
 have h1:1<=(.int .i64 x.src:AV).bulk:=by simp [AV.bulk]
 exact AK h1 (Fs (AB (i:=0) rfl))
def kp(x:Link):x.c.length=3:=rfl
def ku(x:Link):x.c.map borrow1=x.c:=rfl
def ko(x:Link):x.c.any F8=false:=by
 rfl
def cd(x:Link):x.c.take 3=x.c:=rfl
def Link.cf_pure(x:Link):FV x.c=true:=by
 simp [Link.c,FV,AV.pure]
def kw(x:Link):FV x.c=true:=x.cf_pure
def UF(k:Nat)(x:Link):Fl k x.c=true:=by
 simp [Link.c,Fl,AV.bnd]
def Link.c_bnd(k:Nat)(x:Link):Fl k x.c=true:=UF k x
def kv(x:Link):x.c[0]? =some (.int .i64 x.src)/\x.c[1]? =some (.int .i64 x.dst)/\x.c[2]? =some (.int .i64 x.capacity):=⟨rfl,rfl,rfl⟩
def Link.z:Link:=⟨0,0,0⟩
def Link.zero:Fi AA 153=some (.agg Link.z.c):=kr
def Link.ok(_:Link):Prop:=True
def Link.rd{a:AV}(h:Rd AA 153 a): ∃ x:Link,a = .agg x.c/\x.ok:=by
 obtain ⟨ps,rfl,hp⟩:=GF (ts:=[3,3,3]) kr h
 obtain ⟨a0,a1,a2,rfl,g0,g1,g2⟩:=I4 hp
 obtain ⟨v0,rfl,k0⟩:=LC g0
 obtain ⟨v1,rfl,k1⟩:=LC g1
 obtain ⟨v2,rfl,k2⟩:=LC g2
 exact ⟨⟨v0,v1,v2⟩,rfl,trivial⟩
@[ext] structure Edge where
 name:ByteArray
 node:Int
 deriving DecidableEq,Inhabited
def Edge.c(x:Edge):List AV:=[.str x.name,.int .i64 x.node]
def AEJ(x:Edge):1<=FT x.c:=by
 have h1:1<=(.str x.name:AV).bulk:=by simp [AV.bulk]
 exact AK h1 (Fs (AB (i:=0) rfl))
def lK(x:Edge):x.c.length=2:=rfl
def lL(x:Edge):x.c.map borrow1=x.c:=rfl
def lJ(x:Edge):x.c.any F8=false:=by
 rfl
def Edge.cf_pure(x:Edge):FV x.c=true:=by
 simp [Edge.c,FV,AV.pure]
def lN(x:Edge):FV x.c=true:=x.cf_pure
def UI(k:Nat)(x:Edge):Fl k x.c=true:=by
 simp [Edge.c,Fl,AV.bnd]
def Edge.c_bnd(k:Nat)(x:Edge):Fl k x.c=true:=UI k x
def cz{x:Edge}{B:Nat}(h:FT x.c<=B):x.name.size<=B:=HC (AB (i:=0) rfl) h
def lM(x:Edge):x.c[0]? =some (.str x.name)/\x.c[1]? =some (.int .i64 x.node):=⟨rfl,rfl⟩
def Edge.z:Edge:=⟨.empty,0⟩
def Edge.ok(_:Edge):Prop:=True
def Edge.rd{a:AV}(h:Rd AA 82 a): ∃ x:Edge,a = .agg x.c/\x.ok:=by
 obtain ⟨ps,rfl,hp⟩:=GF (ts:=[9,3]) kr h
 obtain ⟨a0,a1,rfl,g0,g1⟩:=Hh hp
 obtain ⟨v0,rfl,k0⟩:=dJ g0
 obtain ⟨v1,rfl,k1⟩:=LC g1
 exact ⟨⟨v0,v1⟩,rfl,trivial⟩
def J2(l:List Node):List AV:=l.map λx => .agg x.c
def uC(l:List Node):(J2 l).length=l.length:=by simp [J2]
def Pc{l:List Node}{i:Nat}{x:Node}(h:l[i]? =some x):(J2 l)[i]? =some (.agg x.c):=by simp [J2,h]
def uB{l:List Node}{x:Node}(h:x∈l): .agg x.c∈J2 l:=by rw [J2];exact AN.2 ⟨x,h,rfl⟩
def Qq(l:List Node):FV (J2 l)=true:=by
 induction l with
 | nil=>rfl
 | cons x xs ih=>simpa [J2,FV,AV.pure] using ⟨kl x,ih⟩
def S8(k:Nat)(l:List Node):Fl k (J2 l)=true:=Hf λx=>Node.c_bnd k x
def ABp{l:List Node}{B:Nat}(h:FT (J2 l)<=B){x:Node}(hx:x∈l):(.agg x.c:AV).bulk<=B:=AK (Fs (uB hx)) h
def gf{l:List Node}{B:Nat}(h:FT (J2 l)<=B):l.length<=B:=by
 refine AK ?_ h
 exact HM (f:=λ(x:Node) => .agg x.c) (λx=>by exact AEC x) l
def ABo(l:List Node):Prop:=l.length*40<=reachBytes /\ ∀ x∈l,x.ok
def nK{a:AV}(h:Rd AA 22 a): ∃ l,a = .sl none (J2 l)/\ABo l:=by
 obtain ⟨l,h1,h2,h3⟩:=IC (f:=λ(x:Node) => .agg x.c) (ok:=λ(x:Node)=>x.ok) (P:=AA) (t:=22) (e:=101) kr (λx hx=>Node.rd hx) h
 exact ⟨l,h1,by rw [show AA.bytesOf 101=40 by kernel_rfl] at h2;exact h2,h3⟩
def Mw(l:List Link):List AV:=l.map λx => .agg x.c
def uD(l:List Link):(Mw l).length=l.length:=by simp [Mw]
def uE{l:List Link}{i:Nat}{x:Link}(h:l[i]? =some x):(Mw l)[i]? =some (.agg x.c):=by simp [Mw,h]
def Qr(l:List Link):FV (Mw l)=true:=by
 induction l with
 | nil=>rfl
 | cons x xs ih=>simpa [Mw,FV,AV.pure] using ⟨kw x,ih⟩
def S9(k:Nat)(l:List Link):Fl k (Mw l)=true:=Hf λx=>Link.c_bnd k x
def ABr{l:List Link}{B:Nat}(h:FT (Mw l)<=B):l.length<=B:=by
 refine AK ?_ h
 exact HM (f:=λ(x:Link) => .agg x.c) (λx=>by exact AEF x) l
def ABq(l:List Link):Prop:=l.length*24<=reachBytes /\ ∀ x∈l,x.ok
def nL{a:AV}(h:Rd AA 23 a): ∃ l,a = .sl none (Mw l)/\ABq l:=by
 obtain ⟨l,h1,h2,h3⟩:=IC (f:=λ(x:Link) => .agg x.c) (ok:=λ(x:Link)=>x.ok) (P:=AA) (t:=23) (e:=153) kr (λx hx=>Link.rd hx) h
 exact ⟨l,h1,by rw [show AA.bytesOf 153=24 by kernel_rfl] at h2;exact h2,h3⟩
def J3(l:List Edge):List AV:=l.map λx => .agg x.c
def uK(l:List Edge):(J3 l).length=l.length:=by simp [J3]
def TB{l:List Edge}{i:Nat}{x:Edge}(h:l[i]? =some x):(J3 l)[i]? =some (.agg x.c):=by simp [J3,h]
def uJ{l:List Edge}{x:Edge}(h:x∈l): .agg x.c∈J3 l:=by rw [J3];exact AN.2 ⟨x,h,rfl⟩
def Qs(l:List Edge):FV (J3 l)=true:=by
 induction l with
 | nil=>rfl
 | cons x xs ih=>simpa [J3,FV,AV.pure] using ⟨lN x,ih⟩
def TC(k:Nat)(l:List Edge):Fl k (J3 l)=true:=Hf λx=>Edge.c_bnd k x
def ABt{l:List Edge}{B:Nat}(h:FT (J3 l)<=B){x:Edge}(hx:x∈l):(.agg x.c:AV).bulk<=B:=AK (Fs (uJ hx)) h
def gj{l:List Edge}{B:Nat}(h:FT (J3 l)<=B):l.length<=B:=by
 refine AK ?_ h
 exact HM (f:=λ(x:Edge) => .agg x.c) (λx=>by exact AEJ x) l
def ABs(l:List Edge):Prop:=l.length*24<=reachBytes /\ ∀ x∈l,x.ok
def nQ{a:AV}(h:Rd AA 24 a): ∃ l,a = .sl none (J3 l)/\ABs l:=by
 obtain ⟨l,h1,h2,h3⟩:=IC (f:=λ(x:Edge) => .agg x.c) (ok:=λ(x:Edge)=>x.ok) (P:=AA) (t:=24) (e:=82) kr (λx hx=>Edge.rd hx) h
 exact ⟨l,h1,by rw [show AA.bytesOf 82=24 by kernel_rfl] at h2;exact h2,h3⟩
@[ext] structure Network where
 nodes:List Node
 links:List Link
 edges:List Edge
 deriving DecidableEq,Inhabited
def Network.cf(x:Network)(o0 o1 o2:Option Nat):List AV:=[.sl o0 (J2 x.nodes),.sl o1 (Mw x.links),.sl o2 (J3 x.edges)]
abbrev Network.c(x:Network):List AV:=x.cf none none none
def XP(x:Network)(o0 o1 o2:Option Nat):(x.cf o0 o1 o2).length=3:=rfl
def XQ(x:Network)(o0 o1 o2:Option Nat):(x.cf o0 o1 o2).map borrow1=x.cf none none none:=rfl
def XO(x:Network)(o0 o1 o2:Option Nat):(x.cf o0 o1 o2).any F8=(o0.isSome||o1.isSome||o2.isSome):=by
 cases o0<;>cases o1<;>cases o2<;>rfl
def Uf(x:Network)(o0 o1 o2:Option Nat):(x.cf o0 o1 o2).take 3=x.cf o0 o1 o2:=rfl
def Network.cf_pure(x:Network)(o0 o1 o2:Option Nat):FV (x.cf o0 o1 o2)=true:=by
 simp [Network.cf,FV,AV.pure,Qs,Qr,Qq]
def PN(k:Nat)(x:Network)(o0 o1 o2:Option Nat):Fl k (x.cf o0 o1 o2)=true:=by
 simp [Network.cf,Fl,AV.bnd,TC,S9,S8]
def Network.c_bnd(k:Nat)(x:Network):Fl k x.c=true:=PN k x none none none
def NH{x:Network}{B:Nat}(h:FT x.c<=B):FT (J2 x.nodes)<=B:=Gu (o:=none) (AB (i:=0) rfl) h
def Ta{x:Network}{B:Nat}(h:FT x.c<=B):FT (Mw x.links)<=B:=Gu (o:=none) (AB (i:=1) rfl) h
def NI{x:Network}{B:Nat}(h:FT x.c<=B):FT (J3 x.edges)<=B:=Gu (o:=none) (AB (i:=2) rfl) h
def XR(x:Network)(o0 o1 o2:Option Nat):(x.cf o0 o1 o2)[0]? =some (.sl o0 (J2 x.nodes))/\(x.cf o0 o1 o2)[1]? =some (.sl o1 (Mw x.links))/\(x.cf o0 o1 o2)[2]? =some (.sl o2 (J3 x.edges)):=⟨rfl,rfl,rfl⟩
def Network.z:Network:=⟨[],[],[]⟩
def Network.ok(_:Network):Prop:=True
def Network.rd{a:AV}(h:Rd AA 26 a): ∃ x:Network,a = .agg x.c/\x.ok:=by
 obtain ⟨ps,rfl,hp⟩:=GF (ts:=[22,23,24]) kr h
 obtain ⟨a0,a1,a2,rfl,g0,g1,g2⟩:=I4 hp
 obtain ⟨v0,rfl,k0⟩:=nK g0
 obtain ⟨v1,rfl,k1⟩:=nL g1
 obtain ⟨v2,rfl,k2⟩:=nQ g2
 exact ⟨⟨v0,v1,v2⟩,rfl,trivial⟩
@[ext] structure Contract where
 src:ByteArray
 dst:ByteArray
 fromPort:Int
 toPort:Int
 pred:Pred
 via:Int
 capacity:Int
 price:Int
 deriving Inhabited
def Contract.cf(x:Contract)(o0:Option Nat):List AV:=[.str x.src,.str x.dst,.int .i64 x.fromPort,.int .i64 x.toPort,.int .i64 x.pred.kind,.str x.pred.field,.int .i64 x.pred.n,.int .i64 x.pred.m,.sl o0 (GG x.pred.args),.int .i64 x.via,.int .i64 x.capacity,.int .i64 x.price]
abbrev Contract.c(x:Contract):List AV:=x.cf none
def dG(x:Contract):1<=FT x.c:=by
 have h1:1<=(.str x.src:AV).bulk:=by simp [AV.bulk]
 exact AK h1 (Fs (AB (i:=0) rfl))
def Up(x:Contract)(o0:Option Nat):(x.cf o0).length=12:=rfl
def Uq(x:Contract)(o0:Option Nat):(x.cf o0).map borrow1=x.cf none:=rfl
def Uo(x:Contract)(o0:Option Nat):(x.cf o0).any F8=(o0.isSome):=by
 cases o0<;>rfl
def Te(x:Contract)(o0:Option Nat):(x.cf o0).take 12=x.cf o0:=rfl
def Contract.cf_pure(x:Contract)(o0:Option Nat):FV (x.cf o0)=true:=by
 simp [Contract.cf,FV,AV.pure,JX]
def Us(x:Contract):FV x.c=true:=x.cf_pure none
def N9(k:Nat)(x:Contract)(o0:Option Nat):Fl k (x.cf o0)=true:=by
 simp [Contract.cf,Fl,AV.bnd,KW]
def Contract.c_bnd(k:Nat)(x:Contract):Fl k x.c=true:=N9 k x none
def Tf{x:Contract}{B:Nat}(h:FT x.c<=B):FT x.pred.c<=B:=by
 have h1:=Hc x.c 4 5
 rw [show (x.c.drop 4).take 5=x.pred.c from rfl] at h1
 omega
def Ur(x:Contract)(o0:Option Nat):(x.cf o0)[0]? =some (.str x.src)/\(x.cf o0)[1]? =some (.str x.dst)/\(x.cf o0)[2]? =some (.int .i64 x.fromPort)/\(x.cf o0)[3]? =some (.int .i64 x.toPort)/\(x.cf o0)[9]? =some (.int .i64 x.via)/\(x.cf o0)[10]? =some (.int .i64 x.capacity)/\(x.cf o0)[11]? =some (.int .i64 x.price):=⟨rfl,rfl,rfl,rfl,rfl,rfl,rfl⟩
def OO(x:Contract)(o0:Option Nat):((x.cf o0).drop 4).take 5=x.pred.cf o0:=rfl
def Contract.z:Contract:=⟨.empty,.empty,0,0,⟨0,.empty,0,0,[]⟩,0,0,0⟩
def Contract.zero:Fi AA 60=some (.agg (Contract.z.cf (some 5))):=kr
def Contract.ok(_:Contract):Prop:=True
def Contract.rd{a:AV}(h:Rd AA 60 a): ∃ x:Contract,a = .agg x.c/\x.ok:=by
 obtain ⟨ps,rfl,hp⟩:=GF (ts:=[9,9,3,3,58,3,3,3]) kr h
 obtain ⟨a0,a1,a2,a3,a4,a5,a6,a7,rfl,g0,g1,g2,g3,g4,g5,g6,g7⟩:=cT hp
 obtain ⟨v0,rfl,k0⟩:=dJ g0
 obtain ⟨v1,rfl,k1⟩:=dJ g1
 obtain ⟨v2,rfl,k2⟩:=LC g2
 obtain ⟨v3,rfl,k3⟩:=LC g3
 obtain ⟨v4,rfl,k4⟩:=Pred.rd g4
 obtain ⟨v5,rfl,k5⟩:=LC g5
 obtain ⟨v6,rfl,k6⟩:=LC g6
 obtain ⟨v7,rfl,k7⟩:=LC g7
 exact ⟨⟨v0,v1,v2,v3,v4,v5,v6,v7⟩,rfl,trivial⟩
def GN(l:List Fld):List AV:=l.map λx => .agg x.c
def Ru(l:List Fld):(GN l).length=l.length:=by simp [GN]
def Il{l:List Fld}{i:Nat}{x:Fld}(h:l[i]? =some x):(GN l)[i]? =some (.agg x.c):=by simp [GN,h]
def WA{l:List Fld}{x:Fld}(h:x∈l): .agg x.c∈GN l:=by rw [GN];exact AN.2 ⟨x,h,rfl⟩
def TA(l:List Fld):FV (GN l)=true:=by
 induction l with
 | nil=>rfl
 | cons x xs ih=>simpa [GN,FV,AV.pure] using ⟨qR x,ih⟩
def WB(k:Nat)(l:List Fld):Fl k (GN l)=true:=Hf λx=>Fld.c_bnd k x
def AFm{l:List Fld}{B:Nat}(h:FT (GN l)<=B){x:Fld}(hx:x∈l):(.agg x.c:AV).bulk<=B:=AK (Fs (WA hx)) h
def ap{l:List Fld}{B:Nat}(h:FT (GN l)<=B):l.length<=B:=by
 refine AK ?_ h
 exact HM (f:=λ(x:Fld) => .agg x.c) (λx=>by exact AG9 x) l
def AFl(l:List Fld):Prop:=l.length*32<=reachBytes /\ ∀ x∈l,x.ok
def ZP{a:AV}(h:Rd AA 27 a): ∃ l,a = .sl none (GN l)/\AFl l:=by
 obtain ⟨l,h1,h2,h3⟩:=IC (f:=λ(x:Fld) => .agg x.c) (ok:=λ(x:Fld)=>x.ok) (P:=AA) (t:=27) (e:=99) kr (λx hx=>Fld.rd hx) h
 exact ⟨l,h1,by rw [show AA.bytesOf 99=32 by kernel_rfl] at h2;exact h2,h3⟩
def HW(l:List Tenant):List AV:=l.map λx => .agg x.c
def Tt(l:List Tenant):(HW l).length=l.length:=by simp [HW]
def GV{l:List Tenant}{i:Nat}{x:Tenant}(h:l[i]? =some x):(HW l)[i]? =some (.agg x.c):=by simp [HW,h]
def gQ{l:List Tenant}{x:Tenant}(h:x∈l): .agg x.c∈HW l:=by rw [HW];exact AN.2 ⟨x,h,rfl⟩
def Rq(l:List Tenant):FV (HW l)=true:=by
 induction l with
 | nil=>rfl
 | cons x xs ih=>simpa [HW,FV,AV.pure] using ⟨YX x,ih⟩
def Tu(k:Nat)(l:List Tenant):Fl k (HW l)=true:=Hf λx=>Tenant.c_bnd k x
def Ql{l:List Tenant}{B:Nat}(h:FT (HW l)<=B){x:Tenant}(hx:x∈l):(.agg x.c:AV).bulk<=B:=AK (Fs (gQ hx)) h
def Qk{l:List Tenant}{B:Nat}(h:FT (HW l)<=B):l.length<=B:=by
 refine AK ?_ h
 exact HM (f:=λ(x:Tenant) => .agg x.c) (λx=>by exact pr x) l
def m9(l:List Tenant):Prop:=l.length*136<=reachBytes /\ ∀ x∈l,x.ok
def am{a:AV}(h:Rd AA 28 a): ∃ l,a = .sl none (HW l)/\m9 l:=by
 obtain ⟨l,h1,h2,h3⟩:=IC (f:=λ(x:Tenant) => .agg x.c) (ok:=λ(x:Tenant)=>x.ok) (P:=AA) (t:=28) (e:=90) kr (λx hx=>Tenant.rd hx) h
 exact ⟨l,h1,by rw [show AA.bytesOf 90=136 by kernel_rfl] at h2;exact h2,h3⟩
def GX(l:List Contract):List AV:=l.map λx => .agg x.c
def QF(l:List Contract):(GX l).length=l.length:=by simp [GX]
def H6{l:List Contract}{i:Nat}{x:Contract}(h:l[i]? =some x):(GX l)[i]? =some (.agg x.c):=by simp [GX,h]
def YA{l:List Contract}{x:Contract}(h:x∈l): .agg x.c∈GX l:=by rw [GX];exact AN.2 ⟨x,h,rfl⟩
def Ol(l:List Contract):FV (GX l)=true:=by
 induction l with
 | nil=>rfl
 | cons x xs ih=>simpa [GX,FV,AV.pure] using ⟨Us x,ih⟩
def QG(k:Nat)(l:List Contract):Fl k (GX l)=true:=Hf λx=>Contract.c_bnd k x
def az{l:List Contract}{B:Nat}(h:FT (GX l)<=B){x:Contract}(hx:x∈l):(.agg x.c:AV).bulk<=B:=AK (Fs (YA hx)) h
def LR{l:List Contract}{B:Nat}(h:FT (GX l)<=B):l.length<=B:=by
 refine AK ?_ h
 exact HM (f:=λ(x:Contract) => .agg x.c) (λx=>by exact dG x) l
def ay(l:List Contract):Prop:=l.length*136<=reachBytes /\ ∀ x∈l,x.ok
def WG{a:AV}(h:Rd AA 29 a): ∃ l,a = .sl none (GX l)/\ay l:=by
 obtain ⟨l,h1,h2,h3⟩:=IC (f:=λ(x:Contract) => .agg x.c) (ok:=λ(x:Contract)=>x.ok) (P:=AA) (t:=29) (e:=60) kr (λx hx=>Contract.rd hx) h
 exact ⟨l,h1,by rw [show AA.bytesOf 60=136 by kernel_rfl] at h2;exact h2,h3⟩
@[ext] structure Setup where
 network:Network
 fields:List Fld
 tenants:List Tenant
 contracts:List Contract
 deriving Inhabited
def Setup.cf(x:Setup)(o0 o1 o2 o3 o4 o5:Option Nat):List AV:=[.sl o0 (J2 x.network.nodes),.sl o1 (Mw x.network.links),.sl o2 (J3 x.network.edges),.sl o3 (GN x.fields),.sl o4 (HW x.tenants),.sl o5 (GX x.contracts)]
abbrev Setup.c(x:Setup):List AV:=x.cf none none none none none none
def cG(x:Setup)(o0 o1 o2 o3 o4 o5:Option Nat):(x.cf o0 o1 o2 o3 o4 o5).length=6:=rfl
def cH(x:Setup)(o0 o1 o2 o3 o4 o5:Option Nat):(x.cf o0 o1 o2 o3 o4 o5).map borrow1=x.cf none none none none none none:=rfl
def cF(x:Setup)(o0 o1 o2 o3 o4 o5:Option Nat):(x.cf o0 o1 o2 o3 o4 o5).any F8=(o0.isSome||o1.isSome||o2.isSome||o3.isSome||o4.isSome||o5.isSome):=by
 cases o0<;>cases o1<;>cases o2<;>cases o3<;>cases o4<;>cases o5<;>rfl
def Ya(x:Setup)(o0 o1 o2 o3 o4 o5:Option Nat):(x.cf o0 o1 o2 o3 o4 o5).take 6=x.cf o0 o1 o2 o3 o4 o5:=rfl
def Setup.cf_pure(x:Setup)(o0 o1 o2 o3 o4 o5:Option Nat):FV (x.cf o0 o1 o2 o3 o4 o5)=true:=by
 simp [Setup.cf,FV,AV.pure,Ol,Qs,TA,Qr,Qq,Rq]
def SO(k:Nat)(x:Setup)(o0 o1 o2 o3 o4 o5:Option Nat):Fl k (x.cf o0 o1 o2 o3 o4 o5)=true:=by
 simp [Setup.cf,Fl,AV.bnd,QG,TC,WB,S9,S8,Tu]
def Setup.c_bnd(k:Nat)(x:Setup):Fl k x.c=true:=SO k x none none none none none none
def SN{x:Setup}(h:HU x.c):x.tenants.length<=9223372036854775807:=by
 have h1:(AV.sl none (HW x.tenants)).fit:=Fv.1 h _ (AB (i:=4) rfl)
 have h2:=h1.1
 rwa [Tt] at h2
def P1{x:Setup}(h:HU x.c):x.contracts.length<=9223372036854775807:=by
 have h1:(AV.sl none (GX x.contracts)).fit:=Fv.1 h _ (AB (i:=5) rfl)
 have h2:=h1.1
 rwa [QF] at h2
def NG{x:Setup}{B:Nat}(h:FT x.c<=B):FT x.network.c<=B:=by
 have h1:=Hc x.c 0 3
 rw [show (x.c.drop 0).take 3=x.network.c from rfl] at h1
 omega
def LG{x:Setup}{B:Nat}(h:FT x.c<=B):FT (GN x.fields)<=B:=Gu (o:=none) (AB (i:=3) rfl) h
def Hj{x:Setup}{B:Nat}(h:FT x.c<=B):FT (HW x.tenants)<=B:=Gu (o:=none) (AB (i:=4) rfl) h
def Hm{x:Setup}{B:Nat}(h:FT x.c<=B):FT (GX x.contracts)<=B:=Gu (o:=none) (AB (i:=5) rfl) h
def cI(x:Setup)(o0 o1 o2 o3 o4 o5:Option Nat):(x.cf o0 o1 o2 o3 o4 o5)[0]? =some (.sl o0 (J2 x.network.nodes))/\(x.cf o0 o1 o2 o3 o4 o5)[2]? =some (.sl o2 (J3 x.network.edges))/\(x.cf o0 o1 o2 o3 o4 o5)[3]? =some (.sl o3 (GN x.fields))/\(x.cf o0 o1 o2 o3 o4 o5)[4]? =some (.sl o4 (HW x.tenants))/\(x.cf o0 o1 o2 o3 o4 o5)[5]? =some (.sl o5 (GX x.contracts)):=⟨rfl,rfl,rfl,rfl,rfl⟩
def OL(x:Setup)(o0 o1 o2 o3 o4 o5:Option Nat):(x.cf o0 o1 o2 o3 o4 o5).take 3=x.network.cf o0 o1 o2:=rfl
def Setup.z:Setup:=⟨⟨[],[],[]⟩,[],[],[]⟩
def Setup.zero:Fi AA 31=some (.agg (Setup.z.cf (some 4) (some 3) (some 2) (some 3) (some 6) (some 12))):=kr
def Setup.ok(_:Setup):Prop:=True
def Setup.rd{a:AV}(h:Rd AA 31 a): ∃ x:Setup,a = .agg x.c/\x.ok:=by
 obtain ⟨ps,rfl,hp⟩:=GF (ts:=[26,27,28,29]) kr h
 obtain ⟨a0,a1,a2,a3,rfl,g0,g1,g2,g3⟩:=LY hp
 obtain ⟨v0,rfl,k0⟩:=Network.rd g0
 obtain ⟨v1,rfl,k1⟩:=ZP g1
 obtain ⟨v2,rfl,k2⟩:=am g2
 obtain ⟨v3,rfl,k3⟩:=WG g3
 exact ⟨⟨v0,v1,v2,v3⟩,rfl,trivial⟩
def GC(l:List Int):List AV:=l.map λx => .int .i64 x
def HK(l:List Int):(GC l).length=l.length:=by simp [GC]
def Gk{l:List Int}{i:Nat}{x:Int}(h:l[i]? =some x):(GC l)[i]? =some (.int .i64 x):=by simp [GC,h]
def V9(l:List Int): ∀ x∈GC l,x.cells.length=1:=by
 intro x hx;obtain ⟨y,_,rfl⟩:=AN.1 hx;rfl
def gh(l:List Int):(∀ x∈GC l,x.cells.length=1)=True:=eq_true (V9 l)
def nM(l:List Int)(k:Nat):(GC l).take k=GC (l.take k):=by simp [GC]
def uG(a:List Int)(x:Int):GC a++[.int .i64 x]=GC (a++[x]):=by simp [GC]
def Jh(l:List Int):FV (GC l)=true:=by
 induction l with
 | nil=>rfl
 | cons x xs ih=>simpa [GC,FV,AV.pure] using ih
def Mx(k:Nat)(l:List Int):Fl k (GC l)=true:=Hf λx=>rfl
def AFj{l:List Int}{B:Nat}(h:FT (GC l)<=B):l.length<=B:=by
 refine AK ?_ h
 exact HM (f:=λ(x:Int) => .int .i64 x) (λx=>by simp [AV.bulk]) l
def AFi(l:List Int):Prop:=l.length*8<=reachBytes /\ ∀ x∈l,IntKind.i64.min<=x/\x<=IntKind.i64.max
def Pd{a:AV}(h:Rd AA 71 a): ∃ l,a = .sl none (GC l)/\AFi l:=by
 obtain ⟨l,h1,h2,h3⟩:=IC (f:=λ(x:Int) => .int .i64 x) (ok:=λ(x:Int)=>IntKind.i64.min<=x/\x<=IntKind.i64.max) (P:=AA) (t:=71) (e:=3) kr (λx hx=>LC hx) h
 exact ⟨l,h1,by rw [show AA.bytesOf 3=8 by kernel_rfl] at h2;exact h2,h3⟩
@[ext] structure Variable where
 name:ByteArray
 family:Int
 widths:List Int
 n:Int
 m:Int
 deriving DecidableEq,Inhabited
def Variable.cf(x:Variable)(o0:Option Nat):List AV:=[.str x.name,.int .i64 x.family,.sl o0 (GC x.widths),.int .i64 x.n,.int .i64 x.m]
abbrev Variable.c(x:Variable):List AV:=x.cf none
def Ua(x:Variable)(o0:Option Nat):(x.cf o0).length=5:=rfl
def Ub(x:Variable)(o0:Option Nat):(x.cf o0).map borrow1=x.cf none:=rfl
def UZ(x:Variable)(o0:Option Nat):(x.cf o0).any F8=(o0.isSome):=by
 cases o0<;>rfl
def TW(x:Variable)(o0:Option Nat):(x.cf o0).take 5=x.cf o0:=rfl
def Variable.cf_pure(x:Variable)(o0:Option Nat):FV (x.cf o0)=true:=by
 simp [Variable.cf,FV,AV.pure,Jh]
def Ud(x:Variable):FV x.c=true:=x.cf_pure none
def N5(k:Nat)(x:Variable)(o0:Option Nat):Fl k (x.cf o0)=true:=by
 simp [Variable.cf,Fl,AV.bnd,Mx]
def Variable.c_bnd(k:Nat)(x:Variable):Fl k x.c=true:=N5 k x none
def Uc(x:Variable)(o0:Option Nat):(x.cf o0)[0]? =some (.str x.name)/\(x.cf o0)[1]? =some (.int .i64 x.family)/\(x.cf o0)[2]? =some (.sl o0 (GC x.widths))/\(x.cf o0)[3]? =some (.int .i64 x.n)/\(x.cf o0)[4]? =some (.int .i64 x.m):=⟨rfl,rfl,rfl,rfl,rfl⟩
def Variable.z:Variable:=⟨.empty,0,[],0,0⟩
def Variable.zero:Fi AA 208=some (.agg (Variable.z.cf (some 1))):=kr
def Variable.ok(_:Variable):Prop:=True
@[ext] structure Sizes where
 nodes:Int
 depth:Int
 deriving DecidableEq,Inhabited
def Sizes.c(x:Sizes):List AV:=[.int .i64 x.nodes,.int .i64 x.depth]
def cC(x:Sizes):x.c.length=2:=rfl
def cD(x:Sizes):x.c.map borrow1=x.c:=rfl
def cB(x:Sizes):x.c.any F8=false:=by
 rfl
def YZ(x:Sizes):x.c.take 2=x.c:=rfl
def Sizes.cf_pure(x:Sizes):FV x.c=true:=by
 simp [Sizes.c,FV,AV.pure]
def SM(k:Nat)(x:Sizes):Fl k x.c=true:=by
 simp [Sizes.c,Fl,AV.bnd]
def Sizes.c_bnd(k:Nat)(x:Sizes):Fl k x.c=true:=SM k x
def cE(x:Sizes):x.c[0]? =some (.int .i64 x.nodes)/\x.c[1]? =some (.int .i64 x.depth):=⟨rfl,rfl⟩
def P0(x:Sizes)(v:Int):Ht x.c [.int .i64 v]=({ x with nodes:=v }:Sizes).c:=rfl
def RG(x:Sizes)(v:Int):splice x.c 1 [.int .i64 v]=({ x with depth:=v }:Sizes).c:=rfl
def Sizes.z:Sizes:=⟨0,0⟩
def Sizes.zero:Fi AA 194=some (.agg Sizes.z.c):=kr
def Sizes.ok(_:Sizes):Prop:=True
@[ext] structure Entry where
 var:ByteArray
 key:List Int
 n:Int
 at_:Int
 deriving DecidableEq,Inhabited
def Entry.cf(x:Entry)(o0:Option Nat):List AV:=[.str x.var,.sl o0 (GC x.key),.int .i64 x.n,.int .i64 x.at_]
abbrev Entry.c(x:Entry):List AV:=x.cf none
def zN(x:Entry):1<=FT x.c:=by
 have h1:1<=(.str x.var:AV).bulk:=by simp [AV.bulk]
 exact AK h1 (Fs (AB (i:=0) rfl))
def cm(x:Entry)(o0:Option Nat):(x.cf o0).length=4:=rfl
def cq(x:Entry)(o0:Option Nat):(x.cf o0).map borrow1=x.cf none:=rfl
def ck(x:Entry)(o0:Option Nat):(x.cf o0).any F8=(o0.isSome):=by
 cases o0<;>rfl
def Yl(x:Entry)(o0:Option Nat):(x.cf o0).take 4=x.cf o0:=rfl
def Entry.cf_pure(x:Entry)(o0:Option Nat):FV (x.cf o0)=true:=by
 simp [Entry.cf,FV,AV.pure,Jh]
def SW(x:Entry):FV x.c=true:=x.cf_pure none
def SV(k:Nat)(x:Entry)(o0:Option Nat):Fl k (x.cf o0)=true:=by
 simp [Entry.cf,Fl,AV.bnd,Mx]
def Entry.c_bnd(k:Nat)(x:Entry):Fl k x.c=true:=SV k x none
def cw{x:Entry}{B:Nat}(h:FT x.c<=B):FT (GC x.key)<=B:=Gu (o:=none) (AB (i:=1) rfl) h
def cr(x:Entry)(o0:Option Nat):(x.cf o0)[0]? =some (.str x.var)/\(x.cf o0)[1]? =some (.sl o0 (GC x.key))/\(x.cf o0)[2]? =some (.int .i64 x.n)/\(x.cf o0)[3]? =some (.int .i64 x.at_):=⟨rfl,rfl,rfl,rfl⟩
def SU(x:Entry)(v:ByteArray)(o0:Option Nat):Ht (x.cf o0) [.str v]=({ x with var:=v }:Entry).cf o0:=rfl
def Tc(x:Entry)(v:List Int)(o0:Option Nat)(p:Option Nat):splice (x.cf o0) 1 [.sl p (GC v)]=({ x with key:=v }:Entry).cf p:=rfl
def Entry.z:Entry:=⟨.empty,[],0,0⟩
def Entry.zero:Fi AA 139=some (.agg (Entry.z.cf (some 1))):=kr
def Entry.ok(_:Entry):Prop:=True
def Entry.rd{a:AV}(h:Rd AA 139 a): ∃ x:Entry,a = .agg x.c/\x.ok:=by
 obtain ⟨ps,rfl,hp⟩:=GF (ts:=[9,71,3,3]) kr h
 obtain ⟨a0,a1,a2,a3,rfl,g0,g1,g2,g3⟩:=LY hp
 obtain ⟨v0,rfl,k0⟩:=dJ g0
 obtain ⟨v1,rfl,k1⟩:=Pd g1
 obtain ⟨v2,rfl,k2⟩:=LC g2
 obtain ⟨v3,rfl,k3⟩:=LC g3
 exact ⟨⟨v0,v1,v2,v3⟩,rfl,trivial⟩
@[ext] structure Delivery where
 tenant:Int
 head:Head
 chain:List Int
 deriving DecidableEq,Inhabited
def Delivery.cf(x:Delivery)(o0:Option Nat):List AV:=[.int .i64 x.tenant,.int .i64 x.head.h0,.int .i64 x.head.h1,.int .i64 x.head.h2,.int .i64 x.head.h3,.int .i64 x.head.h4,.int .i64 x.head.h5,.int .i64 x.head.h6,.int .i64 x.head.h7,.int .i64 x.head.h8,.int .i64 x.head.h9,.sl o0 (GC x.chain)]
abbrev Delivery.c(x:Delivery):List AV:=x.cf none
def Uk(x:Delivery)(o0:Option Nat):(x.cf o0).length=12:=rfl
def Ul(x:Delivery)(o0:Option Nat):(x.cf o0).map borrow1=x.cf none:=rfl
def Uj(x:Delivery)(o0:Option Nat):(x.cf o0).any F8=(o0.isSome):=by
 cases o0<;>rfl
def Td(x:Delivery)(o0:Option Nat):(x.cf o0).take 12=x.cf o0:=rfl
def Delivery.cf_pure(x:Delivery)(o0:Option Nat):FV (x.cf o0)=true:=by
 simp [Delivery.cf,FV,AV.pure,Jh]
def Un(x:Delivery):FV x.c=true:=x.cf_pure none
def N8(k:Nat)(x:Delivery)(o0:Option Nat):Fl k (x.cf o0)=true:=by
 simp [Delivery.cf,Fl,AV.bnd,Mx]
def Delivery.c_bnd(k:Nat)(x:Delivery):Fl k x.c=true:=N8 k x none
def Um(x:Delivery)(o0:Option Nat):(x.cf o0)[0]? =some (.int .i64 x.tenant)/\(x.cf o0)[1]? =some (.int .i64 x.head.h0)/\(x.cf o0)[11]? =some (.sl o0 (GC x.chain)):=⟨rfl,rfl,rfl⟩
def NJ(x:Delivery)(v:Int)(o0:Option Nat):Ht (x.cf o0) [.int .i64 v]=({ x with tenant:=v }:Delivery).cf o0:=rfl
def ON(x:Delivery)(o0:Option Nat):((x.cf o0).drop 1).take 10=x.head.c:=rfl
def PQ(x:Delivery)(v:Head)(o0:Option Nat):splice (x.cf o0) 1 v.c=({ x with head:=v }:Delivery).cf o0:=rfl
def OM(x:Delivery)(v:List Int)(o0:Option Nat)(p:Option Nat):splice (x.cf o0) 11 [.sl p (GC v)]=({ x with chain:=v }:Delivery).cf p:=rfl
def Delivery.z:Delivery:=⟨0,⟨0,0,0,0,0,0,0,0,0,0⟩,[]⟩
def Delivery.zero:Fi AA 75=some (.agg (Delivery.z.cf (some 1))):=kr
def Delivery.ok(_:Delivery):Prop:=True
@[ext] structure Arrival where
 head:Head
 tick:Int
 deriving DecidableEq,Inhabited
def Arrival.c(x:Arrival):List AV:=[.int .i64 x.head.h0,.int .i64 x.head.h1,.int .i64 x.head.h2,.int .i64 x.head.h3,.int .i64 x.head.h4,.int .i64 x.head.h5,.int .i64 x.head.h6,.int .i64 x.head.h7,.int .i64 x.head.h8,.int .i64 x.head.h9,.int .i64 x.tick]
def XZ(x:Arrival):x.c.length=11:=rfl
def Xa(x:Arrival):x.c.map borrow1=x.c:=rfl
def XY(x:Arrival):x.c.any F8=false:=by
 rfl
def Ut(x:Arrival):x.c.take 11=x.c:=rfl
def Arrival.cf_pure(x:Arrival):FV x.c=true:=by
 simp [Arrival.c,FV,AV.pure]
def Xc(x:Arrival):FV x.c=true:=x.cf_pure
def PS(k:Nat)(x:Arrival):Fl k x.c=true:=by
 simp [Arrival.c,Fl,AV.bnd]
def Arrival.c_bnd(k:Nat)(x:Arrival):Fl k x.c=true:=PS k x
def Xb(x:Arrival):x.c[9]? =some (.int .i64 x.head.h9)/\x.c[10]? =some (.int .i64 x.tick):=⟨rfl,rfl⟩
def PR(x:Arrival):x.c.take 10=x.head.c:=rfl
def Arrival.z:Arrival:=⟨⟨0,0,0,0,0,0,0,0,0,0⟩,0⟩
def Arrival.zero:Fi AA 36=some (.agg Arrival.z.c):=kr
def Arrival.ok(_:Arrival):Prop:=True
def Arrival.rd{a:AV}(h:Rd AA 36 a): ∃ x:Arrival,a = .agg x.c/\x.ok:=by
 obtain ⟨ps,rfl,hp⟩:=GF (ts:=[34,3]) kr h
 obtain ⟨a0,a1,rfl,g0,g1⟩:=Hh hp
 obtain ⟨v0,rfl,k0⟩:=Head.rd g0
 obtain ⟨v1,rfl,k1⟩:=LC g1
 exact ⟨⟨v0,v1⟩,rfl,trivial⟩
def F5(l:List Delivery):List AV:=l.map λx => .agg x.c
def QC(l:List Delivery):(F5 l).length=l.length:=by simp [F5]
def QD{l:List Delivery}{i:Nat}{x:Delivery}(h:l[i]? =some x):(F5 l)[i]? =some (.agg x.c):=by simp [F5,h]
def WE(a:List Delivery)(x:Delivery):F5 a++[.agg x.c]=F5 (a++[x]):=by simp [F5]
def Lq(l:List Delivery):FV (F5 l)=true:=by
 induction l with
 | nil=>rfl
 | cons x xs ih=>simpa [F5,FV,AV.pure] using ⟨Un x,ih⟩
def QE(k:Nat)(l:List Delivery):Fl k (F5 l)=true:=Hf λx=>Delivery.c_bnd k x
@[ext] structure Outcome where
 e:Int
 l:List Delivery
 deriving DecidableEq,Inhabited
def Outcome.cf(x:Outcome)(o0:Option Nat):List AV:=[.int .i64 x.e,.sl o0 (F5 x.l)]
abbrev Outcome.c(x:Outcome):List AV:=x.cf none
def XK(x:Outcome)(o0:Option Nat):(x.cf o0).length=2:=rfl
def XL(x:Outcome)(o0:Option Nat):(x.cf o0).map borrow1=x.cf none:=rfl
def XJ(x:Outcome)(o0:Option Nat):(x.cf o0).any F8=(o0.isSome):=by
 cases o0<;>rfl
def Ue(x:Outcome)(o0:Option Nat):(x.cf o0).take 2=x.cf o0:=rfl
def Outcome.cf_pure(x:Outcome)(o0:Option Nat):FV (x.cf o0)=true:=by
 simp [Outcome.cf,FV,AV.pure,Lq]
def XN(x:Outcome):FV x.c=true:=x.cf_pure none
def PM(k:Nat)(x:Outcome)(o0:Option Nat):Fl k (x.cf o0)=true:=by
 simp [Outcome.cf,Fl,AV.bnd,QE]
def Outcome.c_bnd(k:Nat)(x:Outcome):Fl k x.c=true:=PM k x none
def XM(x:Outcome)(o0:Option Nat):(x.cf o0)[0]? =some (.int .i64 x.e)/\(x.cf o0)[1]? =some (.sl o0 (F5 x.l)):=⟨rfl,rfl⟩
def Outcome.z:Outcome:=⟨0,[]⟩
def Outcome.zero:Fi AA 49=some (.agg (Outcome.z.cf (some 12))):=kr
def Outcome.ok(_:Outcome):Prop:=True
def Fe(l:List Entry):List AV:=l.map λx => .agg x.c
def IP(l:List Entry):(Fe l).length=l.length:=by simp [Fe]
def Gn{l:List Entry}{i:Nat}{x:Entry}(h:l[i]? =some x):(Fe l)[i]? =some (.agg x.c):=by simp [Fe,h]
def nP{l:List Entry}{x:Entry}(h:x∈l): .agg x.c∈Fe l:=by rw [Fe];exact AN.2 ⟨x,h,rfl⟩
def au(l:List Entry): ∀ x∈Fe l,x.cells.length=4:=by
 intro x hx;obtain ⟨y,_,rfl⟩:=AN.1 hx;rfl
def X9(l:List Entry):(∀ x∈Fe l,x.cells.length=4)=True:=eq_true (au l)
def nO:Fe []=[]:=rfl
def aq(l:List Entry)(k:Nat):(Fe l).take k=Fe (l.take k):=by simp [Fe]
def Ji(l:List Entry):FV (Fe l)=true:=by
 induction l with
 | nil=>rfl
 | cons x xs ih=>simpa [Fe,FV,AV.pure] using ⟨SW x,ih⟩
def WD(k:Nat)(l:List Entry):Fl k (Fe l)=true:=Hf λx=>Entry.c_bnd k x
def uI{l:List Entry}{B:Nat}(h:FT (Fe l)<=B){x:Entry}(hx:x∈l):(.agg x.c:AV).bulk<=B:=AK (Fs (nP hx)) h
def uH{l:List Entry}{B:Nat}(h:FT (Fe l)<=B):l.length<=B:=by
 refine AK ?_ h
 exact HM (f:=λ(x:Entry) => .agg x.c) (λx=>by exact zN x) l
def ZQ(l:List Entry):Prop:=l.length*56<=reachBytes /\ ∀ x∈l,x.ok
def Tz{a:AV}(h:Rd AA 94 a): ∃ l,a = .sl none (Fe l)/\ZQ l:=by
 obtain ⟨l,h1,h2,h3⟩:=IC (f:=λ(x:Entry) => .agg x.c) (ok:=λ(x:Entry)=>x.ok) (P:=AA) (t:=94) (e:=139) kr (λx hx=>Entry.rd hx) h
 exact ⟨l,h1,by rw [show AA.bytesOf 139=56 by kernel_rfl] at h2;exact h2,h3⟩
@[ext] structure Doing where
 fields:List Fld
 step:Stp
 st:List Entry
 head:Head
 tick:Int
 entry:Entry
 is:Bool
 deriving DecidableEq,Inhabited
def Doing.cf(x:Doing)(o0 o1 o2 o3:Option Nat):List AV:=[.sl o0 (GN x.fields),.int .i64 x.step.kind,.str x.step.var,.sl o1 (HA x.step.key),.str x.step.field,.int .i64 x.step.n,.int .i64 x.step.m,.sl o2 (Fe x.st),.int .i64 x.head.h0,.int .i64 x.head.h1,.int .i64 x.head.h2,.int .i64 x.head.h3,.int .i64 x.head.h4,.int .i64 x.head.h5,.int .i64 x.head.h6,.int .i64 x.head.h7,.int .i64 x.head.h8,.int .i64 x.head.h9,.int .i64 x.tick,.str x.entry.var,.sl o3 (GC x.entry.key),.int .i64 x.entry.n,.int .i64 x.entry.at_,.bool x.is]
abbrev Doing.c(x:Doing):List AV:=x.cf none none none none
def dA(x:Doing)(o0 o1 o2 o3:Option Nat):(x.cf o0 o1 o2 o3).length=24:=rfl
def dB(x:Doing)(o0 o1 o2 o3:Option Nat):(x.cf o0 o1 o2 o3).map borrow1=x.cf none none none none:=rfl
def c9(x:Doing)(o0 o1 o2 o3:Option Nat):(x.cf o0 o1 o2 o3).any F8=(o0.isSome||o1.isSome||o2.isSome||o3.isSome):=by
 cases o0<;>cases o1<;>cases o2<;>cases o3<;>rfl
def Doing.cf_pure(x:Doing)(o0 o1 o2 o3:Option Nat):FV (x.cf o0 o1 o2 o3)=true:=by
 simp [Doing.cf,FV,AV.pure,Ji,TA,Jh,Pb]
def Sa(k:Nat)(x:Doing)(o0 o1 o2 o3:Option Nat):Fl k (x.cf o0 o1 o2 o3)=true:=by
 simp [Doing.cf,Fl,AV.bnd,WD,WB,Mx,Rt]
def Doing.c_bnd(k:Nat)(x:Doing):Fl k x.c=true:=Sa k x none none none none
def dC(x:Doing)(o0 o1 o2 o3:Option Nat):(x.cf o0 o1 o2 o3)[0]? =some (.sl o0 (GN x.fields))/\(x.cf o0 o1 o2 o3)[2]? =some (.str x.step.var)/\(x.cf o0 o1 o2 o3)[3]? =some (.sl o1 (HA x.step.key))/\(x.cf o0 o1 o2 o3)[4]? =some (.str x.step.field)/\(x.cf o0 o1 o2 o3)[5]? =some (.int .i64 x.step.n)/\(x.cf o0 o1 o2 o3)[6]? =some (.int .i64 x.step.m)/\(x.cf o0 o1 o2 o3)[7]? =some (.sl o2 (Fe x.st))/\(x.cf o0 o1 o2 o3)[18]? =some (.int .i64 x.tick)/\(x.cf o0 o1 o2 o3)[21]? =some (.int .i64 x.entry.n)/\(x.cf o0 o1 o2 o3)[22]? =some (.int .i64 x.entry.at_)/\(x.cf o0 o1 o2 o3)[23]? =some (.bool x.is):=⟨rfl,rfl,rfl,rfl,rfl,rfl,rfl,rfl,rfl,rfl,rfl⟩
def PP(x:Doing)(v:List Fld)(o0 o1 o2 o3:Option Nat)(p:Option Nat):Ht (x.cf o0 o1 o2 o3) [.sl p (GN v)]=({ x with fields:=v }:Doing).cf p o1 o2 o3:=rfl
def RM(x:Doing)(o0 o1 o2 o3:Option Nat):((x.cf o0 o1 o2 o3).drop 1).take 6=x.step.cf o1:=rfl
def SY(x:Doing)(v:Stp)(o0 o1 o2 o3:Option Nat)(p0:Option Nat):splice (x.cf o0 o1 o2 o3) 1 (v.cf p0)=({ x with step:=v }:Doing).cf o0 p0 o2 o3:=rfl
def Uh(x:Doing)(v:List Entry)(o0 o1 o2 o3:Option Nat)(p:Option Nat):splice (x.cf o0 o1 o2 o3) 7 [.sl p (Fe v)]=({ x with st:=v }:Doing).cf o0 o1 p o3:=rfl
def RN(x:Doing)(o0 o1 o2 o3:Option Nat):((x.cf o0 o1 o2 o3).drop 8).take 10=x.head.c:=rfl
def SZ(x:Doing)(v:Head)(o0 o1 o2 o3:Option Nat):splice (x.cf o0 o1 o2 o3) 8 v.c=({ x with head:=v }:Doing).cf o0 o1 o2 o3:=rfl
def SX(x:Doing)(v:Int)(o0 o1 o2 o3:Option Nat):splice (x.cf o0 o1 o2 o3) 18 [.int .i64 v]=({ x with tick:=v }:Doing).cf o0 o1 o2 o3:=rfl
def P4(x:Doing)(o0 o1 o2 o3:Option Nat):((x.cf o0 o1 o2 o3).drop 19).take 4=x.entry.cf o3:=rfl
def RL(x:Doing)(v:Entry)(o0 o1 o2 o3:Option Nat)(p0:Option Nat):splice (x.cf o0 o1 o2 o3) 19 (v.cf p0)=({ x with entry:=v }:Doing).cf o0 o1 o2 p0:=rfl
def PO(x:Doing)(v:Int)(o0 o1 o2 o3:Option Nat):splice (x.cf o0 o1 o2 o3) 21 [.int .i64 v]=({ x with entry:={ x.entry with n:=v } }:Doing).cf o0 o1 o2 o3:=rfl
def N3(x:Doing)(v:Int)(o0 o1 o2 o3:Option Nat):splice (x.cf o0 o1 o2 o3) 22 [.int .i64 v]=({ x with entry:={ x.entry with at_:=v } }:Doing).cf o0 o1 o2 o3:=rfl
def Ui(x:Doing)(v:Bool)(o0 o1 o2 o3:Option Nat):splice (x.cf o0 o1 o2 o3) 23 [.bool v]=({ x with is:=v }:Doing).cf o0 o1 o2 o3:=rfl
def Doing.z:Doing:=⟨[],⟨0,.empty,[],.empty,0,0⟩,[],⟨0,0,0,0,0,0,0,0,0,0⟩,0,⟨.empty,[],0,0⟩,false⟩
def Doing.zero:Fi AA 250=some (.agg (Doing.z.cf (some 3) (some 1) (some 4) (some 1))):=kr
def Doing.ok(_:Doing):Prop:=True
@[ext] structure Item where
 tenant:Int
 head:Head
 chain:List Int
 deriving DecidableEq,Inhabited
def Item.cf(x:Item)(o0:Option Nat):List AV:=[.int .i64 x.tenant,.int .i64 x.head.h0,.int .i64 x.head.h1,.int .i64 x.head.h2,.int .i64 x.head.h3,.int .i64 x.head.h4,.int .i64 x.head.h5,.int .i64 x.head.h6,.int .i64 x.head.h7,.int .i64 x.head.h8,.int .i64 x.head.h9,.sl o0 (GC x.chain)]
abbrev Item.c(x:Item):List AV:=x.cf none
def kz(x:Item)(o0:Option Nat):(x.cf o0).length=12:=rfl
def lA(x:Item)(o0:Option Nat):(x.cf o0).map borrow1=x.cf none:=rfl
def ky(x:Item)(o0:Option Nat):(x.cf o0).any F8=(o0.isSome):=by
 cases o0<;>rfl
def cg(x:Item)(o0:Option Nat):(x.cf o0).take 12=x.cf o0:=rfl
def Item.cf_pure(x:Item)(o0:Option Nat):FV (x.cf o0)=true:=by
 simp [Item.cf,FV,AV.pure,Jh]
def UG(k:Nat)(x:Item)(o0:Option Nat):Fl k (x.cf o0)=true:=by
 simp [Item.cf,Fl,AV.bnd,Mx]
def Item.c_bnd(k:Nat)(x:Item):Fl k x.c=true:=UG k x none
def lB(x:Item)(o0:Option Nat):(x.cf o0)[0]? =some (.int .i64 x.tenant):=rfl
def P3(x:Item)(v:Int)(o0:Option Nat):Ht (x.cf o0) [.int .i64 v]=({ x with tenant:=v }:Item).cf o0:=rfl
def ST(x:Item)(o0:Option Nat):((x.cf o0).drop 1).take 10=x.head.c:=rfl
def Tb(x:Item)(v:Head)(o0:Option Nat):splice (x.cf o0) 1 v.c=({ x with head:=v }:Item).cf o0:=rfl
def SS(x:Item)(v:List Int)(o0:Option Nat)(p:Option Nat):splice (x.cf o0) 11 [.sl p (GC v)]=({ x with chain:=v }:Item).cf p:=rfl
def Item.z:Item:=⟨0,⟨0,0,0,0,0,0,0,0,0,0⟩,[]⟩
def Item.zero:Fi AA 121=some (.agg (Item.z.cf (some 1))):=kr
def Item.ok(_:Item):Prop:=True
attribute [go_sem] lD lE lC cj Head.cf_pure UH lF Ug XU XT Head.zero AEH qO qP qN lH Fld.cf_pure XW qQ Fld.zero kX kY kW cW Port.cf_pure UB kZ Port.zero kH kI kG bv Wire.cf_pure T9 kJ Wire.zero JX KW Mv ao tx gV gW tz kT kU kS cV Pred.cf_pure UA kV Pred.zero Nh Oi Ty V8 gZ X6 X7 gd Yi Yj Yh XH Policy.cf_pure QP Yk P2 Policy.zero Oh Qm V4 cP cQ cO Yd Regex.cf_pure SQ cR Regex.zero Lp gR ABj nD tj Pb Rt pu pv pt kN Stp.cf_pure XE pw Stp.zero b7 b8 b6 YY Stage.cf_pure SL b9 PH PG RF SK Stage.zero cK cL cJ Route.cf_pure SP RH RI Yn Yo Ym XX Demand.cf_pure QR Yp Demand.zero ZN V7 ZO tg Vz ZM Nd X5 nH Tv V0 V1 Tw V2 gk Rv T0 YU YV YT XC Tenant.cf_pure QM YW Tenant.zero kg ki kf cZ Node.cf_pure UE kj Node.zero kp ku ko cd Link.cf_pure UF kv Link.zero lK lL lJ Edge.cf_pure UI lM uC Qq S8 uD Qr S9 uK Qs TC XP XQ XO Uf Network.cf_pure PN XR Up Uq Uo Te Contract.cf_pure N9 Ur OO Contract.zero Ru TA WB Tt Rq Tu QF Ol QG cG cH cF Ya Setup.cf_pure SO cI OL Setup.zero HK gh nM uG Jh Mx Ua Ub UZ TW Variable.cf_pure N5 Uc Variable.zero cC cD cB YZ Sizes.cf_pure SM cE P0 RG Sizes.zero cm cq ck Yl Entry.cf_pure SV cr SU Tc Entry.zero Uk Ul Uj Td Delivery.cf_pure N8 Um NJ ON PQ OM Delivery.zero XZ Xa XY Ut Arrival.cf_pure PS Xb PR Arrival.zero QC WE Lq QE XK XL XJ Ue Outcome.cf_pure PM XM Outcome.zero IP X9 nO aq Ji WD dA dB c9 Doing.cf_pure Sa dC PP RM SY Uh RN SZ SX P4 RL PO N3 Ui Doing.zero kz lA ky cg Item.cf_pure UG lB P3 ST Tb SS Item.zero
end Go.AI
