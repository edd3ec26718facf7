/- Data of the laws as the model holds them: cells in order;and how data are read as them. Printed by gendata.py. -/
import Derived.Test.YtnbekihfchfioaaGreatDoorLi
import Derived.Test.YtnbekihfchfioaaGreatDoorProg
set_option linter.unusedSimpArgs false
set_option linter.unusedVariables false
set_option linter.defProp false
open Array renaming toList_inj->Cp
open Bool renaming eq_iff_iff->BA
open List renaming length_map->Aq,mem_cons->AZ,mem_map->AO,mem_of_getElem?->AB,sizeOf_lt_of_mem->DD
open Nat renaming le_refl->AU,le_trans->AK,lt_of_lt_of_le->BR
open Go.Proofs.Tryz renaming prog->AA
namespace Go.AI
open Go.Proofs
def K8{a:AV}(h:Rd AA 3 a): ∃ n,a = .int .i64 n/\(IntKind.i64.min<=n/\n<=IntKind.i64.max):=xC kr h
def kV{a:AV}(h:Rd AA 9 a): ∃ s,a = .str s/\s.size<=reachBytes:=xB kr h
def Hv{P:Program}{t0 t1:TypeId}{ps:List AV}(h:Ge P [t0,t1] ps): ∃ a0 a1,ps=[a0,a1]/\Rd P t0 a0/\Rd P t1 a1:=by
 match ps,h with
 | [a0,a1],h=>exact ⟨a0,a1,rfl,h.1,h.2.1⟩
def I3{P:Program}{t0 t1 t2:TypeId}{ps:List AV}(h:Ge P [t0,t1,t2] ps): ∃ a0 a1 a2,ps=[a0,a1,a2]/\Rd P t0 a0/\Rd P t1 a1/\Rd P t2 a2:=by
 match ps,h with
 | [a0,a1,a2],h=>exact ⟨a0,a1,a2,rfl,h.1,h.2.1,h.2.2.1⟩
def LX{P:Program}{t0 t1 t2 t3:TypeId}{ps:List AV}(h:Ge P [t0,t1,t2,t3] ps): ∃ a0 a1 a2 a3,ps=[a0,a1,a2,a3]/\Rd P t0 a0/\Rd P t1 a1/\Rd P t2 a2/\Rd P t3 a3:=by
 match ps,h with
 | [a0,a1,a2,a3],h=>exact ⟨a0,a1,a2,a3,rfl,h.1,h.2.1,h.2.2.1,h.2.2.2.1⟩
def Np{P:Program}{t0 t1 t2 t3 t4:TypeId}{ps:List AV}(h:Ge P [t0,t1,t2,t3,t4] ps): ∃ a0 a1 a2 a3 a4,ps=[a0,a1,a2,a3,a4]/\Rd P t0 a0/\Rd P t1 a1/\Rd P t2 a2/\Rd P t3 a3/\Rd P t4 a4:=by
 match ps,h with
 | [a0,a1,a2,a3,a4],h=>exact ⟨a0,a1,a2,a3,a4,rfl,h.1,h.2.1,h.2.2.1,h.2.2.2.1,h.2.2.2.2.1⟩
def Rt{P:Program}{t0 t1 t2 t3 t4 t5:TypeId}{ps:List AV}(h:Ge P [t0,t1,t2,t3,t4,t5] ps): ∃ a0 a1 a2 a3 a4 a5,ps=[a0,a1,a2,a3,a4,a5]/\Rd P t0 a0/\Rd P t1 a1/\Rd P t2 a2/\Rd P t3 a3/\Rd P t4 a4/\Rd P t5 a5:=by
 match ps,h with
 | [a0,a1,a2,a3,a4,a5],h=>exact ⟨a0,a1,a2,a3,a4,a5,rfl,h.1,h.2.1,h.2.2.1,h.2.2.2.1,h.2.2.2.2.1,h.2.2.2.2.2.1⟩
def bK{P:Program}{t0 t1 t2 t3 t4 t5 t6 t7:TypeId}{ps:List AV}(h:Ge P [t0,t1,t2,t3,t4,t5,t6,t7] ps): ∃ a0 a1 a2 a3 a4 a5 a6 a7,ps=[a0,a1,a2,a3,a4,a5,a6,a7]/\Rd P t0 a0/\Rd P t1 a1/\Rd P t2 a2/\Rd P t3 a3/\Rd P t4 a4/\Rd P t5 a5/\Rd P t6 a6/\Rd P t7 a7:=by
 match ps,h with
 | [a0,a1,a2,a3,a4,a5,a6,a7],h=>exact ⟨a0,a1,a2,a3,a4,a5,a6,a7,rfl,h.1,h.2.1,h.2.2.1,h.2.2.2.1,h.2.2.2.2.1,h.2.2.2.2.2.1,h.2.2.2.2.2.2.1,h.2.2.2.2.2.2.2.1⟩
def Xl{P:Program}{t0 t1 t2 t3 t4 t5 t6 t7 t8 t9:TypeId}{ps:List AV}(h:Ge P [t0,t1,t2,t3,t4,t5,t6,t7,t8,t9] ps): ∃ a0 a1 a2 a3 a4 a5 a6 a7 a8 a9,ps=[a0,a1,a2,a3,a4,a5,a6,a7,a8,a9]/\Rd P t0 a0/\Rd P t1 a1/\Rd P t2 a2/\Rd P t3 a3/\Rd P t4 a4/\Rd P t5 a5/\Rd P t6 a6/\Rd P t7 a7/\Rd P t8 a8/\Rd P t9 a9:=by
 match ps,h with
 | [a0,a1,a2,a3,a4,a5,a6,a7,a8,a9],h=>exact ⟨a0,a1,a2,a3,a4,a5,a6,a7,a8,a9,rfl,h.1,h.2.1,h.2.2.1,h.2.2.2.1,h.2.2.2.2.1,h.2.2.2.2.2.1,h.2.2.2.2.2.2.1,h.2.2.2.2.2.2.2.1,h.2.2.2.2.2.2.2.2.1,h.2.2.2.2.2.2.2.2.2.1⟩
@[ext] structure Head where
 h0:Int
 h1:Int
 h2:Int
 h3:Int
 h4:Int
 h5:Int
 h6:Int
 h7:Int
 h8:Int
 h9:Int
 deriving DecidableEq,Inhabited
def Head.c(x:Head):List AV:=[.int .i64 x.h0,.int .i64 x.h1,.int .i64 x.h2,.int .i64 x.h3,.int .i64 x.h4,.int .i64 x.h5,.int .i64 x.h6,.int .i64 x.h7,.int .i64 x.h8,.int .i64 x.h9]
def jX(x:Head):x.c.length=10:=rfl
def jY(x:Head):x.c.map borrow1=x.c:=rfl
def jW(x:Head):x.c.any GB=false:=by
 rfl
def bV(x:Head):x.c.take 10=x.c:=rfl
def Head.cf_pure(x:Head):FQ x.c=true:=by
 simp [Head.c,FQ,AV.pure]
def ja(x:Head):FQ x.c=true:=x.cf_pure
def Tc(k:Nat)(x:Head):Fj k x.c=true:=by
 simp [Head.c,Fj,AV.bnd]
def Head.c_bnd(k:Nat)(x:Head):Fj k x.c=true:=Tc k x
def jZ(x:Head):x.c[0]? =some (.int .i64 x.h0):=rfl
def T2(x:Head)(v:Int):Hl x.c [.int .i64 v]=({ x with h0:=v }:Head).c:=rfl
def Wf(x:Head)(v:Int):splice x.c 1 [.int .i64 v]=({ x with h1:=v }:Head).c:=rfl
def We(x:Head)(v:Int):splice x.c 9 [.int .i64 v]=({ x with h9:=v }:Head).c:=rfl
def Head.z:Head:=⟨0,0,0,0,0,0,0,0,0,0⟩
def Head.zero:Fg AA 34=some (.agg Head.z.c):=kr
def Head.ok(_:Head):Prop:=True
def Head.rd{a:AV}(h:Rd AA 34 a): ∃ x:Head,a = .agg x.c/\x.ok:=by
 obtain ⟨ps,rfl,hp⟩:=GG (ts:=[3,3,3,3,3,3,3,3,3,3]) kr h
 obtain ⟨a0,a1,a2,a3,a4,a5,a6,a7,a8,a9,rfl,g0,g1,g2,g3,g4,g5,g6,g7,g8,g9⟩:=Xl hp
 obtain ⟨v0,rfl,k0⟩:=K8 g0
 obtain ⟨v1,rfl,k1⟩:=K8 g1
 obtain ⟨v2,rfl,k2⟩:=K8 g2
 obtain ⟨v3,rfl,k3⟩:=K8 g3
 obtain ⟨v4,rfl,k4⟩:=K8 g4
 obtain ⟨v5,rfl,k5⟩:=K8 g5
 obtain ⟨v6,rfl,k6⟩:=K8 g6
 obtain ⟨v7,rfl,k7⟩:=K8 g7
 obtain ⟨v8,rfl,k8⟩:=K8 g8
 obtain ⟨v9,rfl,k9⟩:=K8 g9
 exact ⟨⟨v0,v1,v2,v3,v4,v5,v6,v7,v8,v9⟩,rfl,trivial⟩
def Head.eq(x y:Head):KB AA 34 (.agg x.c) (.agg y.c)=some (decide (x=y)):=by
 have e:KB AA 34 (.agg x.c) (.agg y.c)=some ((x.h0==y.h0)&&((x.h1==y.h1)&&((x.h2==y.h2)&&((x.h3==y.h3)&&((x.h4==y.h4)&&((x.h5==y.h5)&&((x.h6==y.h6)&&((x.h7==y.h7)&&((x.h8==y.h8)&&((x.h9==y.h9)&&true)))))))))):=kr
 rw [e,Option.some.injEq,BA]
 simp [Head.ext_iff]
def ACe(x y:Head){d:Tmp}{K:Kt}{e:Fp}{H:FN}:Ie AA .neq 34 (.agg x.c) (.agg y.c) d K e H=K ((d,.bool !(decide (x=y)))::e) H:=wX (Head.eq x y)
@[ext] structure Fld where
 name:ByteArray
 at_:Int
 width:Int
 deriving DecidableEq,Inhabited
def Fld.c(x:Fld):List AV:=[.str x.name,.int .i64 x.at_,.int .i64 x.width]
def AFM(x:Fld):1<=FP x.c:=by
 have h1:1<=(.str x.name:AV).bulk:=by simp [AV.bulk]
 exact AK h1 (Fr (AB (i:=0) rfl))
def oG(x:Fld):x.c.length=3:=rfl
def oH(x:Fld):x.c.map borrow1=x.c:=rfl
def oF(x:Fld):x.c.any GB=false:=by
 rfl
def jb(x:Fld):x.c.take 3=x.c:=rfl
def Fld.cf_pure(x:Fld):FQ x.c=true:=by
 simp [Fld.c,FQ,AV.pure]
def oJ(x:Fld):FQ x.c=true:=x.cf_pure
def Wh(k:Nat)(x:Fld):Fj k x.c=true:=by
 simp [Fld.c,Fj,AV.bnd]
def Fld.c_bnd(k:Nat)(x:Fld):Fj k x.c=true:=Wh k x
def jc{x:Fld}{B:Nat}(h:FP x.c<=B):x.name.size<=B:=HB (AB (i:=0) rfl) h
def oI(x:Fld):x.c[0]? =some (.str x.name)/\x.c[1]? =some (.int .i64 x.at_)/\x.c[2]? =some (.int .i64 x.width):=⟨rfl,rfl,rfl⟩
def Fld.z:Fld:=⟨.empty,0,0⟩
def Fld.zero:Fg AA 126=some (.agg Fld.z.c):=kr
def Fld.ok(_:Fld):Prop:=True
def Fld.rd{a:AV}(h:Rd AA 126 a): ∃ x:Fld,a = .agg x.c/\x.ok:=by
 obtain ⟨ps,rfl,hp⟩:=GG (ts:=[9,3,3]) kr h
 obtain ⟨a0,a1,a2,rfl,g0,g1,g2⟩:=I3 hp
 obtain ⟨v0,rfl,k0⟩:=kV g0
 obtain ⟨v1,rfl,k1⟩:=K8 g1
 obtain ⟨v2,rfl,k2⟩:=K8 g2
 exact ⟨⟨v0,v1,v2⟩,rfl,trivial⟩
@[ext] structure Port where
 name:ByteArray
 edge:Int
 deriving DecidableEq,Inhabited
def Port.c(x:Port):List AV:=[.str x.name,.int .i64 x.edge]
def ACW(x:Port):1<=FP x.c:=by
 have h1:1<=(.str x.name:AV).bulk:=by simp [AV.bulk]
 exact AK h1 (Fr (AB (i:=0) rfl))
def iz(x:Port):x.c.length=2:=rfl
def jA(x:Port):x.c.map borrow1=x.c:=rfl
def iy(x:Port):x.c.any GB=false:=by
 rfl
def bN(x:Port):x.c.take 2=x.c:=rfl
def Port.cf_pure(x:Port):FQ x.c=true:=by
 simp [Port.c,FQ,AV.pure]
def jC(x:Port):FQ x.c=true:=x.cf_pure
def TW(k:Nat)(x:Port):Fj k x.c=true:=by
 simp [Port.c,Fj,AV.bnd]
def Port.c_bnd(k:Nat)(x:Port):Fj k x.c=true:=TW k x
def bO{x:Port}{B:Nat}(h:FP x.c<=B):x.name.size<=B:=HB (AB (i:=0) rfl) h
def jB(x:Port):x.c[0]? =some (.str x.name)/\x.c[1]? =some (.int .i64 x.edge):=⟨rfl,rfl⟩
def Port.z:Port:=⟨.empty,0⟩
def Port.zero:Fg AA 130=some (.agg Port.z.c):=kr
def Port.ok(_:Port):Prop:=True
def Port.rd{a:AV}(h:Rd AA 130 a): ∃ x:Port,a = .agg x.c/\x.ok:=by
 obtain ⟨ps,rfl,hp⟩:=GG (ts:=[9,3]) kr h
 obtain ⟨a0,a1,rfl,g0,g1⟩:=Hv hp
 obtain ⟨v0,rfl,k0⟩:=kV g0
 obtain ⟨v1,rfl,k1⟩:=K8 g1
 exact ⟨⟨v0,v1⟩,rfl,trivial⟩
@[ext] structure Wire where
 src:Int
 dst:Int
 deriving DecidableEq,Inhabited
def Wire.c(x:Wire):List AV:=[.int .i64 x.src,.int .i64 x.dst]
def ACQ(x:Wire):1<=FP x.c:=by
 have h1:1<=(.int .i64 x.src:AV).bulk:=by simp [AV.bulk]
 exact AK h1 (Fr (AB (i:=0) rfl))
def ia(x:Wire):x.c.length=2:=rfl
def ib(x:Wire):x.c.map borrow1=x.c:=rfl
def iZ(x:Wire):x.c.any GB=false:=by
 rfl
def ae(x:Wire):x.c.take 2=x.c:=rfl
def Wire.cf_pure(x:Wire):FQ x.c=true:=by
 simp [Wire.c,FQ,AV.pure]
def ig(x:Wire):FQ x.c=true:=x.cf_pure
def TU(k:Nat)(x:Wire):Fj k x.c=true:=by
 simp [Wire.c,Fj,AV.bnd]
def Wire.c_bnd(k:Nat)(x:Wire):Fj k x.c=true:=TU k x
def ic(x:Wire):x.c[0]? =some (.int .i64 x.src)/\x.c[1]? =some (.int .i64 x.dst):=⟨rfl,rfl⟩
def Wire.z:Wire:=⟨0,0⟩
def Wire.zero:Fg AA 210=some (.agg Wire.z.c):=kr
def Wire.ok(_:Wire):Prop:=True
def Wire.rd{a:AV}(h:Rd AA 210 a): ∃ x:Wire,a = .agg x.c/\x.ok:=by
 obtain ⟨ps,rfl,hp⟩:=GG (ts:=[3,3]) kr h
 obtain ⟨a0,a1,rfl,g0,g1⟩:=Hv hp
 obtain ⟨v0,rfl,k0⟩:=K8 g0
 obtain ⟨v1,rfl,k1⟩:=K8 g1
 exact ⟨⟨v0,v1⟩,rfl,trivial⟩
structure Pred where
 kind:Int
 field:ByteArray
 n:Int
 m:Int
 args:List Pred
instance:Inhabited Pred:=⟨⟨default,default,default,default,default⟩⟩
mutual
def Pred.e:Pred->AV
 | ⟨v0,v1,v2,v3,v4⟩ => .agg [.int .i64 v0,.str v1,.int .i64 v2,.int .i64 v3,.sl none (Pred.es v4)]
def Pred.es:List Pred->List AV
 | []=>[]
 | x::l=>Pred.e x::Pred.es l
end
abbrev GE:List Pred->List AV:=Pred.es
mutual
def ir : ∀ x:Pred,(x.e).pure=true
 | ⟨v0,v1,v2,v3,v4⟩=>by simp [Pred.e,AV.pure,FQ,Nq v4]
def Nq : ∀ l:List Pred,FQ (Pred.es l)=true
 | []=>rfl
 | x::l=>by simp [Pred.es,FQ,ir x,Nq l]
end
mutual
def n8(k:Nat): ∀ x:Pred,(x.e).bnd k=true
 | ⟨v0,v1,v2,v3,v4⟩=>by simp [Pred.e,AV.bnd,Fj,O8 k v4]
def O8(k:Nat): ∀ l:List Pred,Fj k (Pred.es l)=true
 | []=>rfl
 | x::l=>by simp [Pred.es,Fj,n8 k x,O8 k l]
end
def Jc(l:List Pred):FQ (GE l)=true:=Nq l
def KT(k:Nat)(l:List Pred):Fj k (GE l)=true:=O8 k l
def JP(p:Pred->Prop)(h : ∀ x:Pred,(∀ y∈x.args,p y)->p x): ∀ x,p x :=
 λx=>Pred.rec (motive_1:=p) (motive_2:=λl => ∀ y∈l,p y) (λv0 v1 v2 v3 v4 ih=>h ⟨v0,v1,v2,v3,v4⟩ ih) (λy hy=>by cases hy) (λx l h1 h2 y hy=>by
  rcases AZ.1 hy with rfl|hy
  ·exact h1
  ·exact h2 y hy) x
def Pred.cf(x:Pred)(o0:Option Nat):List AV:=[.int .i64 x.kind,.str x.field,.int .i64 x.n,.int .i64 x.m,.sl o0 (GE x.args)]
abbrev Pred.c(x:Pred):List AV:=x.cf none
def ACV(x:Pred):1<=FP x.c:=by
 have h1:1<=(.int .i64 x.kind:AV).bulk:=by simp [AV.bulk]
 exact AK h1 (Fr (AB (i:=0) rfl))
def xD(x:Pred):x.e = .agg x.c:=by cases x;rfl
def HZ(l:List Pred):GE l=l.map λx => .agg x.c:=by
 induction l with
 | nil=>rfl
 | cons x l ih=>show x.e::Pred.es l=_;rw [show Pred.es l=_ from ih,xD];rfl
def Mp(l:List Pred):(GE l).length=l.length:=by simp [HZ]
def Fk{l:List Pred}{i:Nat}{x:Pred}(h:l[i]? =some x):(GE l)[i]? =some (.agg x.c):=by simp [HZ,h]
def Mo{l:List Pred}{x:Pred}(h:x∈l): .agg x.c∈GE l:=by rw [HZ];exact AO.2 ⟨x,h,rfl⟩
def eG(l:List Pred): ∀ x∈GE l,x.cells.length=5:=by
 intro x hx;rw [HZ] at hx;obtain ⟨y,_,rfl⟩:=AO.1 hx;rfl
def Zm(l:List Pred):(∀ x∈GE l,x.cells.length=5)=True:=eq_true (eG l)
def rh:GE []=[]:=rfl
def eC(l:List Pred)(k:Nat):(GE l).take k=GE (l.take k):=by simp [HZ]
def eD(l:List Pred)(k:Nat):(GE l).drop k=GE (l.drop k):=by simp [HZ]
def ri(a b:List Pred):GE a++GE b=GE (a++b):=by simp [HZ]
def VO{l:List Pred}{B:Nat}(h:FP (GE l)<=B){x:Pred}(hx:x∈l):(.agg x.c:AV).bulk<=B:=AK (Fr (Mo hx)) h
def VN{l:List Pred}{B:Nat}(h:FP (GE l)<=B):l.length<=B:=by
 refine AK ?_ h
 rw [HZ];exact HG (f:=λ(x:Pred) => .agg x.c) (λx=>by exact ACV x) l
def iv(x:Pred)(o0:Option Nat):(x.cf o0).length=5:=rfl
def iw(x:Pred)(o0:Option Nat):(x.cf o0).map borrow1=x.cf none:=rfl
def iu(x:Pred)(o0:Option Nat):(x.cf o0).any GB=(o0.isSome):=by
 cases o0<;>rfl
def bM(x:Pred)(o0:Option Nat):(x.cf o0).take 5=x.cf o0:=rfl
def Pred.cf_pure(x:Pred)(o0:Option Nat):FQ (x.cf o0)=true:=by
 simp [Pred.cf,FQ,AV.pure,Jc]
def TV(k:Nat)(x:Pred)(o0:Option Nat):Fj k (x.cf o0)=true:=by
 simp [Pred.cf,Fj,AV.bnd,KT]
def Pred.c_bnd(k:Nat)(x:Pred):Fj k x.c=true:=TV k x none
def Kq{x:Pred}(h:HR x.c):x.args.length<=9223372036854775807:=by
 have h1:(AV.sl none (GE x.args)).fit:=Fv.1 h _ (AB (i:=4) rfl)
 have h2:=h1.1
 rwa [Mp] at h2
def P8{x:Pred}{B:Nat}(h:FP x.c<=B):x.field.size<=B:=HB (AB (i:=1) rfl) h
def I4{x:Pred}{B:Nat}(h:FP x.c<=B):FP (GE x.args)<=B:=Gs (o:=none) (AB (i:=4) rfl) h
def ix(x:Pred)(o0:Option Nat):(x.cf o0)[0]? =some (.int .i64 x.kind)/\(x.cf o0)[1]? =some (.str x.field)/\(x.cf o0)[2]? =some (.int .i64 x.n)/\(x.cf o0)[3]? =some (.int .i64 x.m)/\(x.cf o0)[4]? =some (.sl o0 (GE x.args)):=⟨rfl,rfl,rfl,rfl,rfl⟩
def Pred.z:Pred:=⟨0,.empty,0,0,[]⟩
def Pred.zero:Fg AA 74=some (.agg (Pred.z.cf (some 5))):=kr
def Pred.ok(_:Pred):Prop:=True
def iq : ∀ (n:Nat) {a:AV},SizeOf.sizeOf a<=n->Rd AA 74 a -> ∃ x:Pred,a = .agg x.c/\x.ok
 | 0,a,hn,h=>by cases a<;>simp at hn
 | n+1,a,hn,h=>by
  obtain ⟨ps,rfl,hp⟩:=GG (ts:=[3,9,3,3,72]) kr h
  obtain ⟨a0,a1,a2,a3,a4,rfl,g0,g1,g2,g3,g4⟩:=Np hp
  obtain ⟨v0,rfl,k0⟩:=K8 g0
  obtain ⟨v1,rfl,k1⟩:=kV g1
  obtain ⟨v2,rfl,k2⟩:=K8 g2
  obtain ⟨v3,rfl,k3⟩:=K8 g3
  obtain ⟨es,rfl,hb,he⟩:=O6 (e:=74) kr g4
  obtain ⟨v4,rfl,hok⟩:=Zf (f:=λx:Pred => .agg x.c) (ok:=Pred.ok) λx hx=>iq n (by
   have h1:=DD hx
   have h2:=BR (ZH (o:=none) (es:=es) (by simp [HM,AV.cells])) hn
   omega) (he x hx)
  rw [Aq,show AA.bytesOf 74=64 by kernel_rfl] at hb
  refine ⟨⟨v0,v1,v2,v3,v4⟩, ?_,trivial⟩
  rw [<- HZ];rfl
def Pred.rd{a:AV}(h:Rd AA 74 a): ∃ x:Pred,a = .agg x.c/\x.ok:=iq _ (AU _) h
structure Policy where
 kind:Int
 pred:Pred
 field:ByteArray
 n:Int
 args:List Policy
instance:Inhabited Policy:=⟨⟨default,default,default,default,default⟩⟩
mutual
def Policy.e:Policy->AV
 | ⟨v0,v1,v2,v3,v4⟩ => .agg [.int .i64 v0,.int .i64 v1.kind,.str v1.field,.int .i64 v1.n,.int .i64 v1.m,.sl none (GE v1.args),.str v2,.int .i64 v3,.sl none (Policy.es v4)]
def Policy.es:List Policy->List AV
 | []=>[]
 | x::l=>Policy.e x::Policy.es l
end
abbrev Fz:List Policy->List AV:=Policy.es
mutual
def Xm : ∀ x:Policy,(x.e).pure=true
 | ⟨v0,v1,v2,v3,v4⟩=>by simp [Policy.e,AV.pure,FQ,L0 v4,Jc]
def L0 : ∀ l:List Policy,FQ (Policy.es l)=true
 | []=>rfl
 | x::l=>by simp [Policy.es,FQ,Xm x,L0 l]
end
mutual
def bP(k:Nat): ∀ x:Policy,(x.e).bnd k=true
 | ⟨v0,v1,v2,v3,v4⟩=>by simp [Policy.e,AV.bnd,Fj,MW k v4,KT]
def MW(k:Nat): ∀ l:List Policy,Fj k (Policy.es l)=true
 | []=>rfl
 | x::l=>by simp [Policy.es,Fj,bP k x,MW k l]
end
def NT(l:List Policy):FQ (Fz l)=true:=L0 l
def OU(k:Nat)(l:List Policy):Fj k (Fz l)=true:=MW k l
def Hj(p:Policy->Prop)(h : ∀ x:Policy,(∀ y∈x.args,p y)->p x): ∀ x,p x :=
 λx=>Policy.rec (motive_1:=p) (motive_2:=λl => ∀ y∈l,p y) (λv0 v1 v2 v3 v4 ih=>h ⟨v0,v1,v2,v3,v4⟩ ih) (λy hy=>by cases hy) (λx l h1 h2 y hy=>by
  rcases AZ.1 hy with rfl|hy
  ·exact h1
  ·exact h2 y hy) x
def Policy.cf(x:Policy)(o0 o1:Option Nat):List AV:=[.int .i64 x.kind,.int .i64 x.pred.kind,.str x.pred.field,.int .i64 x.pred.n,.int .i64 x.pred.m,.sl o0 (GE x.pred.args),.str x.field,.int .i64 x.n,.sl o1 (Fz x.args)]
abbrev Policy.c(x:Policy):List AV:=x.cf none none
def oB(x:Policy):1<=FP x.c:=by
 have h1:1<=(.int .i64 x.kind:AV).bulk:=by simp [AV.bulk]
 exact AK h1 (Fr (AB (i:=0) rfl))
def jE(x:Policy):x.e = .agg x.c:=by cases x;rfl
def Gc(l:List Policy):Fz l=l.map λx => .agg x.c:=by
 induction l with
 | nil=>rfl
 | cons x l ih=>show x.e::Policy.es l=_;rw [show Policy.es l=_ from ih,jE];rfl
def TK(l:List Policy):(Fz l).length=l.length:=by simp [Gc]
def Fa{l:List Policy}{i:Nat}{x:Policy}(h:l[i]? =some x):(Fz l)[i]? =some (.agg x.c):=by simp [Gc,h]
def TJ{l:List Policy}{x:Policy}(h:x∈l): .agg x.c∈Fz l:=by rw [Gc];exact AO.2 ⟨x,h,rfl⟩
def XD(l:List Policy): ∀ x∈Fz l,x.cells.length=9:=by
 intro x hx;rw [Gc] at hx;obtain ⟨y,_,rfl⟩:=AO.1 hx;rfl
def VQ(l:List Policy):(∀ x∈Fz l,x.cells.length=9)=True:=eq_true (XD l)
def eI:Fz []=[]:=rfl
def XB(l:List Policy)(k:Nat):(Fz l).take k=Fz (l.take k):=by simp [Gc]
def XC(l:List Policy)(k:Nat):(Fz l).drop k=Fz (l.drop k):=by simp [Gc]
def eJ(a b:List Policy):Fz a++Fz b=Fz (a++b):=by simp [Gc]
def QV{l:List Policy}{B:Nat}(h:FP (Fz l)<=B){x:Policy}(hx:x∈l):(.agg x.c:AV).bulk<=B:=AK (Fr (TJ hx)) h
def QU{l:List Policy}{B:Nat}(h:FP (Fz l)<=B):l.length<=B:=by
 refine AK ?_ h
 rw [Gc];exact HG (f:=λ(x:Policy) => .agg x.c) (λx=>by exact oB x) l
def Xo(x:Policy)(o0 o1:Option Nat):(x.cf o0 o1).length=9:=rfl
def Xp(x:Policy)(o0 o1:Option Nat):(x.cf o0 o1).map borrow1=x.cf none none:=rfl
def Xn(x:Policy)(o0 o1:Option Nat):(x.cf o0 o1).any GB=(o0.isSome||o1.isSome):=by
 cases o0<;>cases o1<;>rfl
def WX(x:Policy)(o0 o1:Option Nat):(x.cf o0 o1).take 9=x.cf o0 o1:=rfl
def Policy.cf_pure(x:Policy)(o0 o1:Option Nat):FQ (x.cf o0 o1)=true:=by
 simp [Policy.cf,FQ,AV.pure,NT,Jc]
def P9(k:Nat)(x:Policy)(o0 o1:Option Nat):Fj k (x.cf o0 o1)=true:=by
 simp [Policy.cf,Fj,AV.bnd,OU,KT]
def Policy.c_bnd(k:Nat)(x:Policy):Fj k x.c=true:=P9 k x none none
def JW{x:Policy}(h:HR x.c):x.args.length<=9223372036854775807:=by
 have h1:(AV.sl none (Fz x.args)).fit:=Fv.1 h _ (AB (i:=8) rfl)
 have h2:=h1.1
 rwa [TK] at h2
def L1{x:Policy}{B:Nat}(h:FP x.c<=B):FP x.pred.c<=B:=by
 have h1:=HY x.c 1 5
 rw [show (x.c.drop 1).take 5=x.pred.c from rfl] at h1
 omega
def Nx{x:Policy}{B:Nat}(h:FP x.c<=B):x.field.size<=B:=HB (AB (i:=6) rfl) h
def IC{x:Policy}{B:Nat}(h:FP x.c<=B):FP (Fz x.args)<=B:=Gs (o:=none) (AB (i:=8) rfl) h
def Xq(x:Policy)(o0 o1:Option Nat):(x.cf o0 o1)[0]? =some (.int .i64 x.kind)/\(x.cf o0 o1)[6]? =some (.str x.field)/\(x.cf o0 o1)[7]? =some (.int .i64 x.n)/\(x.cf o0 o1)[8]? =some (.sl o1 (Fz x.args)):=⟨rfl,rfl,rfl,rfl⟩
def Pn(x:Policy)(o0 o1:Option Nat):((x.cf o0 o1).drop 1).take 5=x.pred.cf o0:=rfl
def Policy.z:Policy:=⟨0,⟨0,.empty,0,0,[]⟩,.empty,0,[]⟩
def Policy.zero:Fg AA 105=some (.agg (Policy.z.cf (some 5) (some 9))):=kr
def Policy.ok(_:Policy):Prop:=True
def WW : ∀ (n:Nat) {a:AV},SizeOf.sizeOf a<=n->Rd AA 105 a -> ∃ x:Policy,a = .agg x.c/\x.ok
 | 0,a,hn,h=>by cases a<;>simp at hn
 | n+1,a,hn,h=>by
  obtain ⟨ps,rfl,hp⟩:=GG (ts:=[3,74,9,3,103]) kr h
  obtain ⟨a0,a1,a2,a3,a4,rfl,g0,g1,g2,g3,g4⟩:=Np hp
  obtain ⟨v0,rfl,k0⟩:=K8 g0
  obtain ⟨v1,rfl,k1⟩:=Pred.rd g1
  obtain ⟨v2,rfl,k2⟩:=kV g2
  obtain ⟨v3,rfl,k3⟩:=K8 g3
  obtain ⟨es,rfl,hb,he⟩:=O6 (e:=105) kr g4
  obtain ⟨v4,rfl,hok⟩:=Zf (f:=λx:Policy => .agg x.c) (ok:=Policy.ok) λx hx=>WW n (by
   have h1:=DD hx
   have h2:=BR (ZH (o:=none) (es:=es) (by simp [HM,AV.cells])) hn
   omega) (he x hx)
  rw [Aq,show AA.bytesOf 105=120 by kernel_rfl] at hb
  refine ⟨⟨v0,v1,v2,v3,v4⟩, ?_,trivial⟩
  rw [<- Gc];rfl
def Policy.rd{a:AV}(h:Rd AA 105 a): ∃ x:Policy,a = .agg x.c/\x.ok:=WW _ (AU _) h
structure Regex where
 kind:Int
 node:ByteArray
 args:List Regex
instance:Inhabited Regex:=⟨⟨default,default,default⟩⟩
mutual
def Regex.e:Regex->AV
 | ⟨v0,v1,v2⟩ => .agg [.int .i64 v0,.str v1,.sl none (Regex.es v2)]
def Regex.es:List Regex->List AV
 | []=>[]
 | x::l=>Regex.e x::Regex.es l
end
abbrev Jy:List Regex->List AV:=Regex.es
mutual
def bF : ∀ x:Regex,(x.e).pure=true
 | ⟨v0,v1,v2⟩=>by simp [Regex.e,AV.pure,FQ,MV v2]
def MV : ∀ l:List Regex,FQ (Regex.es l)=true
 | []=>rfl
 | x::l=>by simp [Regex.es,FQ,bF x,MV l]
end
mutual
def il(k:Nat): ∀ x:Regex,(x.e).bnd k=true
 | ⟨v0,v1,v2⟩=>by simp [Regex.e,AV.bnd,Fj,No k v2]
def No(k:Nat): ∀ l:List Regex,Fj k (Regex.es l)=true
 | []=>rfl
 | x::l=>by simp [Regex.es,Fj,il k x,No k l]
end
def OT(l:List Regex):FQ (Jy l)=true:=MV l
def QT(k:Nat)(l:List Regex):Fj k (Jy l)=true:=No k l
def Su(p:Regex->Prop)(h : ∀ x:Regex,(∀ y∈x.args,p y)->p x): ∀ x,p x :=
 λx=>Regex.rec (motive_1:=p) (motive_2:=λl => ∀ y∈l,p y) (λv0 v1 v2 ih=>h ⟨v0,v1,v2⟩ ih) (λy hy=>by cases hy) (λx l h1 h2 y hy=>by
  rcases AZ.1 hy with rfl|hy
  ·exact h1
  ·exact h2 y hy) x
def Regex.cf(x:Regex)(o0:Option Nat):List AV:=[.int .i64 x.kind,.str x.node,.sl o0 (Jy x.args)]
abbrev Regex.c(x:Regex):List AV:=x.cf none
def xA(x:Regex):1<=FP x.c:=by
 have h1:1<=(.int .i64 x.kind:AV).bulk:=by simp [AV.bulk]
 exact AK h1 (Fr (AB (i:=0) rfl))
def ny(x:Regex):x.e = .agg x.c:=by cases x;rfl
def Mn(l:List Regex):Jy l=l.map λx => .agg x.c:=by
 induction l with
 | nil=>rfl
 | cons x l ih=>show x.e::Regex.es l=_;rw [show Regex.es l=_ from ih,ny];rfl
def VM(l:List Regex):(Jy l).length=l.length:=by simp [Mn]
def II{l:List Regex}{i:Nat}{x:Regex}(h:l[i]? =some x):(Jy l)[i]? =some (.agg x.c):=by simp [Mn,h]
def VL{l:List Regex}{x:Regex}(h:x∈l): .agg x.c∈Jy l:=by rw [Mn];exact AO.2 ⟨x,h,rfl⟩
def re{l:List Regex}{B:Nat}(h:FP (Jy l)<=B){x:Regex}(hx:x∈l):(.agg x.c:AV).bulk<=B:=AK (Fr (VL hx)) h
def rc{l:List Regex}{B:Nat}(h:FP (Jy l)<=B):l.length<=B:=by
 refine AK ?_ h
 rw [Mn];exact HG (f:=λ(x:Regex) => .agg x.c) (λx=>by exact xA x) l
def bH(x:Regex)(o0:Option Nat):(x.cf o0).length=3:=rfl
def bI(x:Regex)(o0:Option Nat):(x.cf o0).map borrow1=x.cf none:=rfl
def bG(x:Regex)(o0:Option Nat):(x.cf o0).any GB=(o0.isSome):=by
 cases o0<;>rfl
def Xj(x:Regex)(o0:Option Nat):(x.cf o0).take 3=x.cf o0:=rfl
def Regex.cf_pure(x:Regex)(o0:Option Nat):FQ (x.cf o0)=true:=by
 simp [Regex.cf,FQ,AV.pure,OT]
def Rs(k:Nat)(x:Regex)(o0:Option Nat):Fj k (x.cf o0)=true:=by
 simp [Regex.cf,Fj,AV.bnd,QT]
def Regex.c_bnd(k:Nat)(x:Regex):Fj k x.c=true:=Rs k x none
def O5{x:Regex}(h:HR x.c):x.args.length<=9223372036854775807:=by
 have h1:(AV.sl none (Jy x.args)).fit:=Fv.1 h _ (AB (i:=2) rfl)
 have h2:=h1.1
 rwa [VM] at h2
def Xk{x:Regex}{B:Nat}(h:FP x.c<=B):x.node.size<=B:=HB (AB (i:=1) rfl) h
def P7{x:Regex}{B:Nat}(h:FP x.c<=B):FP (Jy x.args)<=B:=Gs (o:=none) (AB (i:=2) rfl) h
def bJ(x:Regex)(o0:Option Nat):(x.cf o0)[0]? =some (.int .i64 x.kind)/\(x.cf o0)[1]? =some (.str x.node)/\(x.cf o0)[2]? =some (.sl o0 (Jy x.args)):=⟨rfl,rfl,rfl⟩
def Regex.z:Regex:=⟨0,.empty,[]⟩
def Regex.zero:Fg AA 248=some (.agg (Regex.z.cf (some 3))):=kr
def Regex.ok(_:Regex):Prop:=True
def Y3 : ∀ (n:Nat) {a:AV},SizeOf.sizeOf a<=n->Rd AA 248 a -> ∃ x:Regex,a = .agg x.c/\x.ok
 | 0,a,hn,h=>by cases a<;>simp at hn
 | n+1,a,hn,h=>by
  obtain ⟨ps,rfl,hp⟩:=GG (ts:=[3,9,246]) kr h
  obtain ⟨a0,a1,a2,rfl,g0,g1,g2⟩:=I3 hp
  obtain ⟨v0,rfl,k0⟩:=K8 g0
  obtain ⟨v1,rfl,k1⟩:=kV g1
  obtain ⟨es,rfl,hb,he⟩:=O6 (e:=248) kr g2
  obtain ⟨v2,rfl,hok⟩:=Zf (f:=λx:Regex => .agg x.c) (ok:=Regex.ok) λx hx=>Y3 n (by
   have h1:=DD hx
   have h2:=BR (ZH (o:=none) (es:=es) (by simp [HM,AV.cells])) hn
   omega) (he x hx)
  rw [Aq,show AA.bytesOf 248=48 by kernel_rfl] at hb
  refine ⟨⟨v0,v1,v2⟩, ?_,trivial⟩
  rw [<- Mn];rfl
def Regex.rd{a:AV}(h:Rd AA 248 a): ∃ x:Regex,a = .agg x.c/\x.ok:=Y3 _ (AU _) h
def G9(l:List ByteArray):List AV:=l.map λx => .str x
def Ln(l:List ByteArray):(G9 l).length=l.length:=by simp [G9]
def Fu{l:List ByteArray}{i:Nat}{x:ByteArray}(h:l[i]? =some x):(G9 l)[i]? =some (.str x):=by simp [G9,h]
def zw{l:List ByteArray}{x:ByteArray}(h:x∈l): .str x∈G9 l:=by rw [G9];exact AO.2 ⟨x,h,rfl⟩
def lZ(l:List ByteArray): ∀ x∈G9 l,x.cells.length=1:=by
 intro x hx;obtain ⟨y,_,rfl⟩:=AO.1 hx;rfl
def d7(l:List ByteArray):(∀ x∈G9 l,x.cells.length=1)=True:=eq_true (lZ l)
def zu:G9 []=[]:=rfl
def lX(l:List ByteArray)(k:Nat):(G9 l).take k=G9 (l.take k):=by simp [G9]
def rV(a:List ByteArray)(x:ByteArray):G9 a++[.str x]=G9 (a++[x]):=by simp [G9]
def PM(l:List ByteArray):FQ (G9 l)=true:=by
 induction l with
 | nil=>rfl
 | cons x xs ih=>simpa [G9,FQ,AV.pure] using ih
def RK(k:Nat)(l:List ByteArray):Fj k (G9 l)=true:=Hi λx=>rfl
def ADz{l:List ByteArray}{B:Nat}(h:FP (G9 l)<=B){x:ByteArray}(hx:x∈l):(.str x:AV).bulk<=B:=AK (Fr (zw hx)) h
def UN{l:List ByteArray}{B:Nat}(h:FP (G9 l)<=B):l.length<=B:=by
 refine AK ?_ h
 exact HG (f:=λ(x:ByteArray) => .str x) (λx=>by simp [AV.bulk]) l
def ADy(l:List ByteArray):Prop:=l.length*16<=reachBytes /\ ∀ x∈l,x.size<=reachBytes
def lY{a:AV}(h:Rd AA 106 a): ∃ l,a = .sl none (G9 l)/\ADy l:=by
 obtain ⟨l,h1,h2,h3⟩:=IM (f:=λ(x:ByteArray) => .str x) (ok:=λ(x:ByteArray)=>x.size<=reachBytes) (P:=AA) (t:=106) (e:=9) kr (λx hx=>kV hx) h
 exact ⟨l,h1,by rw [show AA.bytesOf 9=16 by kernel_rfl] at h2;exact h2,h3⟩
@[ext] structure Stp where
 kind:Int
 var:ByteArray
 key:List ByteArray
 field:ByteArray
 n:Int
 m:Int
 deriving DecidableEq,Inhabited
def Stp.cf(x:Stp)(o0:Option Nat):List AV:=[.int .i64 x.kind,.str x.var,.sl o0 (G9 x.key),.str x.field,.int .i64 x.n,.int .i64 x.m]
abbrev Stp.c(x:Stp):List AV:=x.cf none
def np(x:Stp)(o0:Option Nat):(x.cf o0).length=6:=rfl
def nq(x:Stp)(o0:Option Nat):(x.cf o0).map borrow1=x.cf none:=rfl
def no(x:Stp)(o0:Option Nat):(x.cf o0).any GB=(o0.isSome):=by
 cases o0<;>rfl
def ik(x:Stp)(o0:Option Nat):(x.cf o0).take 6=x.cf o0:=rfl
def Stp.cf_pure(x:Stp)(o0:Option Nat):FQ (x.cf o0)=true:=by
 simp [Stp.cf,FQ,AV.pure,PM]
def WU(k:Nat)(x:Stp)(o0:Option Nat):Fj k (x.cf o0)=true:=by
 simp [Stp.cf,Fj,AV.bnd,RK]
def Stp.c_bnd(k:Nat)(x:Stp):Fj k x.c=true:=WU k x none
def ij{x:Stp}(h:HR x.c):x.key.length<=9223372036854775807:=by
 have h1:(AV.sl none (G9 x.key)).fit:=Fv.1 h _ (AB (i:=2) rfl)
 have h2:=h1.1
 rwa [Ln] at h2
def ns{x:Stp}{B:Nat}(h:FP x.c<=B):x.var.size<=B:=HB (AB (i:=1) rfl) h
def Lz{x:Stp}{B:Nat}(h:FP x.c<=B):FP (G9 x.key)<=B:=Gs (o:=none) (AB (i:=2) rfl) h
def aj{x:Stp}{B:Nat}(h:FP x.c<=B):x.field.size<=B:=HB (AB (i:=3) rfl) h
def nr(x:Stp)(o0:Option Nat):(x.cf o0)[0]? =some (.int .i64 x.kind)/\(x.cf o0)[1]? =some (.str x.var)/\(x.cf o0)[2]? =some (.sl o0 (G9 x.key))/\(x.cf o0)[3]? =some (.str x.field)/\(x.cf o0)[4]? =some (.int .i64 x.n)/\(x.cf o0)[5]? =some (.int .i64 x.m):=⟨rfl,rfl,rfl,rfl,rfl,rfl⟩
def Stp.z:Stp:=⟨0,.empty,[],.empty,0,0⟩
def Stp.zero:Fg AA 108=some (.agg (Stp.z.cf (some 1))):=kr
def Stp.ok(_:Stp):Prop:=True
def Stp.rd{a:AV}(h:Rd AA 108 a): ∃ x:Stp,a = .agg x.c/\x.ok:=by
 obtain ⟨ps,rfl,hp⟩:=GG (ts:=[3,9,106,9,3,3]) kr h
 obtain ⟨a0,a1,a2,a3,a4,a5,rfl,g0,g1,g2,g3,g4,g5⟩:=Rt hp
 obtain ⟨v0,rfl,k0⟩:=K8 g0
 obtain ⟨v1,rfl,k1⟩:=kV g1
 obtain ⟨v2,rfl,k2⟩:=lY g2
 obtain ⟨v3,rfl,k3⟩:=kV g3
 obtain ⟨v4,rfl,k4⟩:=K8 g4
 obtain ⟨v5,rfl,k5⟩:=K8 g5
 exact ⟨⟨v0,v1,v2,v3,v4,v5⟩,rfl,trivial⟩
@[ext] structure Stage where
 policy:Policy
 step:Stp
 deriving Inhabited
def Stage.cf(x:Stage)(o0 o1 o2:Option Nat):List AV:=[.int .i64 x.policy.kind,.int .i64 x.policy.pred.kind,.str x.policy.pred.field,.int .i64 x.policy.pred.n,.int .i64 x.policy.pred.m,.sl o0 (GE x.policy.pred.args),.str x.policy.field,.int .i64 x.policy.n,.sl o1 (Fz x.policy.args),.int .i64 x.step.kind,.str x.step.var,.sl o2 (G9 x.step.key),.str x.step.field,.int .i64 x.step.n,.int .i64 x.step.m]
abbrev Stage.c(x:Stage):List AV:=x.cf none none none
def w8(x:Stage):1<=FP x.c:=by
 have h1:1<=(.int .i64 x.policy.kind:AV).bulk:=by simp [AV.bulk]
 exact AK h1 (Fr (AB (i:=0) rfl))
def al(x:Stage)(o0 o1 o2:Option Nat):(x.cf o0 o1 o2).length=15:=rfl
def am(x:Stage)(o0 o1 o2:Option Nat):(x.cf o0 o1 o2).map borrow1=x.cf none none none:=rfl
def ak(x:Stage)(o0 o1 o2:Option Nat):(x.cf o0 o1 o2).any GB=(o0.isSome||o1.isSome||o2.isSome):=by
 cases o0<;>cases o1<;>cases o2<;>rfl
def Xe(x:Stage)(o0 o1 o2:Option Nat):(x.cf o0 o1 o2).take 15=x.cf o0 o1 o2:=rfl
def Stage.cf_pure(x:Stage)(o0 o1 o2:Option Nat):FQ (x.cf o0 o1 o2)=true:=by
 simp [Stage.cf,FQ,AV.pure,NT,Jc,PM]
def ao(x:Stage):FQ x.c=true:=x.cf_pure none none none
def Rn(k:Nat)(x:Stage)(o0 o1 o2:Option Nat):Fj k (x.cf o0 o1 o2)=true:=by
 simp [Stage.cf,Fj,AV.bnd,OU,KT,RK]
def Stage.c_bnd(k:Nat)(x:Stage):Fj k x.c=true:=Rn k x none none none
def Ho{x:Stage}{B:Nat}(h:FP x.c<=B):FP x.policy.c<=B:=by
 have h1:=HY x.c 0 9
 rw [show (x.c.drop 0).take 9=x.policy.c from rfl] at h1
 omega
def Kp{x:Stage}{B:Nat}(h:FP x.c<=B):FP x.step.c<=B:=by
 have h1:=HY x.c 9 6
 rw [show (x.c.drop 9).take 6=x.step.c from rfl] at h1
 omega
def an(x:Stage)(o0 o1 o2:Option Nat):(x.cf o0 o1 o2)[9]? =some (.int .i64 x.step.kind)/\(x.cf o0 o1 o2)[10]? =some (.str x.step.var)/\(x.cf o0 o1 o2)[11]? =some (.sl o2 (G9 x.step.key)):=⟨rfl,rfl,rfl⟩
def O4(x:Stage)(o0 o1 o2:Option Nat):(x.cf o0 o1 o2).take 9=x.policy.cf o0 o1:=rfl
def O3(x:Stage)(v:Policy)(o0 o1 o2:Option Nat)(p0 p1:Option Nat):Hl (x.cf o0 o1 o2) (v.cf p0 p1)=({ x with policy:=v }:Stage).cf p0 p1 o2:=rfl
def Qq(x:Stage)(o0 o1 o2:Option Nat):((x.cf o0 o1 o2).drop 9).take 6=x.step.cf o2:=rfl
def Rm(x:Stage)(v:Stp)(o0 o1 o2:Option Nat)(p0:Option Nat):splice (x.cf o0 o1 o2) 9 (v.cf p0)=({ x with step:=v }:Stage).cf o0 o1 p0:=rfl
def Stage.z:Stage:=⟨⟨0,⟨0,.empty,0,0,[]⟩,.empty,0,[]⟩,⟨0,.empty,[],.empty,0,0⟩⟩
def Stage.zero:Fg AA 110=some (.agg (Stage.z.cf (some 5) (some 9) (some 1))):=kr
def Stage.ok(_:Stage):Prop:=True
def Stage.rd{a:AV}(h:Rd AA 110 a): ∃ x:Stage,a = .agg x.c/\x.ok:=by
 obtain ⟨ps,rfl,hp⟩:=GG (ts:=[105,108]) kr h
 obtain ⟨a0,a1,rfl,g0,g1⟩:=Hv hp
 obtain ⟨v0,rfl,k0⟩:=Policy.rd g0
 obtain ⟨v1,rfl,k1⟩:=Stp.rd g1
 exact ⟨⟨v0,v1⟩,rfl,trivial⟩
@[ext] structure Route where
 pred:Pred
 path:Regex
 deriving Inhabited
def Route.cf(x:Route)(o0 o1:Option Nat):List AV:=[.int .i64 x.pred.kind,.str x.pred.field,.int .i64 x.pred.n,.int .i64 x.pred.m,.sl o0 (GE x.pred.args),.int .i64 x.path.kind,.str x.path.node,.sl o1 (Jy x.path.args)]
abbrev Route.c(x:Route):List AV:=x.cf none none
def w9(x:Route):1<=FP x.c:=by
 have h1:1<=(.int .i64 x.pred.kind:AV).bulk:=by simp [AV.bulk]
 exact AK h1 (Fr (AB (i:=0) rfl))
def bC(x:Route)(o0 o1:Option Nat):(x.cf o0 o1).length=8:=rfl
def bD(x:Route)(o0 o1:Option Nat):(x.cf o0 o1).map borrow1=x.cf none none:=rfl
def bB(x:Route)(o0 o1:Option Nat):(x.cf o0 o1).any GB=(o0.isSome||o1.isSome):=by
 cases o0<;>cases o1<;>rfl
def Route.cf_pure(x:Route)(o0 o1:Option Nat):FQ (x.cf o0 o1)=true:=by
 simp [Route.cf,FQ,AV.pure,Jc,OT]
def bE(x:Route):FQ x.c=true:=x.cf_pure none none
def Rr(k:Nat)(x:Route)(o0 o1:Option Nat):Fj k (x.cf o0 o1)=true:=by
 simp [Route.cf,Fj,AV.bnd,KT,QT]
def Route.c_bnd(k:Nat)(x:Route):Fj k x.c=true:=Rr k x none none
def Xh{x:Route}{B:Nat}(h:FP x.c<=B):FP x.pred.c<=B:=by
 have h1:=HY x.c 0 5
 rw [show (x.c.drop 0).take 5=x.pred.c from rfl] at h1
 omega
def Xi{x:Route}{B:Nat}(h:FP x.c<=B):FP x.path.c<=B:=by
 have h1:=HY x.c 5 3
 rw [show (x.c.drop 5).take 3=x.path.c from rfl] at h1
 omega
def Qs(x:Route)(o0 o1:Option Nat):(x.cf o0 o1).take 5=x.pred.cf o0:=rfl
def Qt(x:Route)(o0 o1:Option Nat):((x.cf o0 o1).drop 5).take 3=x.path.cf o1:=rfl
def Route.z:Route:=⟨⟨0,.empty,0,0,[]⟩,⟨0,.empty,[]⟩⟩
def Route.ok(_:Route):Prop:=True
def Route.rd{a:AV}(h:Rd AA 250 a): ∃ x:Route,a = .agg x.c/\x.ok:=by
 obtain ⟨ps,rfl,hp⟩:=GG (ts:=[74,248]) kr h
 obtain ⟨a0,a1,rfl,g0,g1⟩:=Hv hp
 obtain ⟨v0,rfl,k0⟩:=Pred.rd g0
 obtain ⟨v1,rfl,k1⟩:=Regex.rd g1
 exact ⟨⟨v0,v1⟩,rfl,trivial⟩
@[ext] structure Demand where
 src:Int
 dst:Int
 floor:Int
 ceiling:Int
 deriving DecidableEq,Inhabited
def Demand.c(x:Demand):List AV:=[.int .i64 x.src,.int .i64 x.dst,.int .i64 x.floor,.int .i64 x.ceiling]
def oL(x:Demand):1<=FP x.c:=by
 have h1:1<=(.int .i64 x.src:AV).bulk:=by simp [AV.bulk]
 exact AK h1 (Fr (AB (i:=0) rfl))
def Xt(x:Demand):x.c.length=4:=rfl
def Xu(x:Demand):x.c.map borrow1=x.c:=rfl
def Xs(x:Demand):x.c.any GB=false:=by
 rfl
def Wi(x:Demand):x.c.take 4=x.c:=rfl
def Demand.cf_pure(x:Demand):FQ x.c=true:=by
 simp [Demand.c,FQ,AV.pure]
def Xw(x:Demand):FQ x.c=true:=x.cf_pure
def QA(k:Nat)(x:Demand):Fj k x.c=true:=by
 simp [Demand.c,Fj,AV.bnd]
def Demand.c_bnd(k:Nat)(x:Demand):Fj k x.c=true:=QA k x
def Xv(x:Demand):x.c[0]? =some (.int .i64 x.src)/\x.c[1]? =some (.int .i64 x.dst)/\x.c[2]? =some (.int .i64 x.floor)/\x.c[3]? =some (.int .i64 x.ceiling):=⟨rfl,rfl,rfl,rfl⟩
def Demand.z:Demand:=⟨0,0,0,0⟩
def Demand.zero:Fg AA 280=some (.agg Demand.z.c):=kr
def Demand.ok(_:Demand):Prop:=True
def Demand.rd{a:AV}(h:Rd AA 280 a): ∃ x:Demand,a = .agg x.c/\x.ok:=by
 obtain ⟨ps,rfl,hp⟩:=GG (ts:=[3,3,3,3]) kr h
 obtain ⟨a0,a1,a2,a3,rfl,g0,g1,g2,g3⟩:=LX hp
 obtain ⟨v0,rfl,k0⟩:=K8 g0
 obtain ⟨v1,rfl,k1⟩:=K8 g1
 obtain ⟨v2,rfl,k2⟩:=K8 g2
 obtain ⟨v3,rfl,k3⟩:=K8 g3
 exact ⟨⟨v0,v1,v2,v3⟩,rfl,trivial⟩
def KD(l:List Port):List AV:=l.map λx => .agg x.c
def YT(l:List Port):(KD l).length=l.length:=by simp [KD]
def GR{l:List Port}{i:Nat}{x:Port}(h:l[i]? =some x):(KD l)[i]? =some (.agg x.c):=by simp [KD,h]
def rj{l:List Port}{x:Port}(h:x∈l): .agg x.c∈KD l:=by rw [KD];exact AO.2 ⟨x,h,rfl⟩
def VP(l:List Port):FQ (KD l)=true:=by
 induction l with
 | nil=>rfl
 | cons x xs ih=>simpa [KD,FQ,AV.pure] using ⟨jC x,ih⟩
def YU(k:Nat)(l:List Port):Fj k (KD l)=true:=Hi λx=>Port.c_bnd k x
def zy{l:List Port}{B:Nat}(h:FP (KD l)<=B){x:Port}(hx:x∈l):(.agg x.c:AV).bulk<=B:=AK (Fr (rj hx)) h
def eH{l:List Port}{B:Nat}(h:FP (KD l)<=B):l.length<=B:=by
 refine AK ?_ h
 exact HG (f:=λ(x:Port) => .agg x.c) (λx=>by exact ACW x) l
def zx(l:List Port):Prop:=l.length*24<=reachBytes /\ ∀ x∈l,x.ok
def lh{a:AV}(h:Rd AA 47 a): ∃ l,a = .sl none (KD l)/\zx l:=by
 obtain ⟨l,h1,h2,h3⟩:=IM (f:=λ(x:Port) => .agg x.c) (ok:=λ(x:Port)=>x.ok) (P:=AA) (t:=47) (e:=130) kr (λx hx=>Port.rd hx) h
 exact ⟨l,h1,by rw [show AA.bytesOf 130=24 by kernel_rfl] at h2;exact h2,h3⟩
def L9(l:List Wire):List AV:=l.map λx => .agg x.c
def rS(l:List Wire):(L9 l).length=l.length:=by simp [L9]
def Gn{l:List Wire}{i:Nat}{x:Wire}(h:l[i]? =some x):(L9 l)[i]? =some (.agg x.c):=by simp [L9,h]
def VG(l:List Wire):FQ (L9 l)=true:=by
 induction l with
 | nil=>rfl
 | cons x xs ih=>simpa [L9,FQ,AV.pure] using ⟨ig x,ih⟩
def YS(k:Nat)(l:List Wire):Fj k (L9 l)=true:=Hi λx=>Wire.c_bnd k x
def OS{l:List Wire}{B:Nat}(h:FP (L9 l)<=B):l.length<=B:=by
 refine AK ?_ h
 exact HG (f:=λ(x:Wire) => .agg x.c) (λx=>by exact ACQ x) l
def zq(l:List Wire):Prop:=l.length*16<=reachBytes /\ ∀ x∈l,x.ok
def lT{a:AV}(h:Rd AA 48 a): ∃ l,a = .sl none (L9 l)/\zq l:=by
 obtain ⟨l,h1,h2,h3⟩:=IM (f:=λ(x:Wire) => .agg x.c) (ok:=λ(x:Wire)=>x.ok) (P:=AA) (t:=48) (e:=210) kr (λx hx=>Wire.rd hx) h
 exact ⟨l,h1,by rw [show AA.bytesOf 210=16 by kernel_rfl] at h2;exact h2,h3⟩
def F7(l:List Stage):List AV:=l.map λx => .agg x.c
def NS(l:List Stage):(F7 l).length=l.length:=by simp [F7]
def Fe{l:List Stage}{i:Nat}{x:Stage}(h:l[i]? =some x):(F7 l)[i]? =some (.agg x.c):=by simp [F7,h]
def lc{l:List Stage}{x:Stage}(h:x∈l): .agg x.c∈F7 l:=by rw [F7];exact AO.2 ⟨x,h,rfl⟩
def Zl(l:List Stage): ∀ x∈F7 l,x.cells.length=15:=by
 intro x hx;obtain ⟨y,_,rfl⟩:=AO.1 hx;rfl
def XA(l:List Stage):(∀ x∈F7 l,x.cells.length=15)=True:=eq_true (Zl l)
def lf(a b:List Stage):F7 a++F7 b=F7 (a++b):=by simp [F7]
def TH(l:List Stage):FQ (F7 l)=true:=by
 induction l with
 | nil=>rfl
 | cons x xs ih=>simpa [F7,FQ,AV.pure] using ⟨ao x,ih⟩
def VI(k:Nat)(l:List Stage):Fj k (F7 l)=true:=Hi λx=>Stage.c_bnd k x
def KR{l:List Stage}{B:Nat}(h:FP (F7 l)<=B){x:Stage}(hx:x∈l):(.agg x.c:AV).bulk<=B:=AK (Fr (lc hx)) h
def Mm{l:List Stage}{B:Nat}(h:FP (F7 l)<=B):l.length<=B:=by
 refine AK ?_ h
 exact HG (f:=λ(x:Stage) => .agg x.c) (λx=>by exact w8 x) l
def rW(l:List Stage):Prop:=l.length*200<=reachBytes /\ ∀ x∈l,x.ok
def d8{a:AV}(h:Rd AA 50 a): ∃ l,a = .sl none (F7 l)/\rW l:=by
 obtain ⟨l,h1,h2,h3⟩:=IM (f:=λ(x:Stage) => .agg x.c) (ok:=λ(x:Stage)=>x.ok) (P:=AA) (t:=50) (e:=110) kr (λx hx=>Stage.rd hx) h
 exact ⟨l,h1,by rw [show AA.bytesOf 110=200 by kernel_rfl] at h2;exact h2,h3⟩
def JA(l:List Route):List AV:=l.map λx => .agg x.c
def VJ(l:List Route):(JA l).length=l.length:=by simp [JA]
def KS{l:List Route}{i:Nat}{x:Route}(h:l[i]? =some x):(JA l)[i]? =some (.agg x.c):=by simp [JA,h]
def lg{l:List Route}{x:Route}(h:x∈l): .agg x.c∈JA l:=by rw [JA];exact AO.2 ⟨x,h,rfl⟩
def TI(l:List Route):FQ (JA l)=true:=by
 induction l with
 | nil=>rfl
 | cons x xs ih=>simpa [JA,FQ,AV.pure] using ⟨bE x,ih⟩
def VK(k:Nat)(l:List Route):Fj k (JA l)=true:=Hi λx=>Route.c_bnd k x
def rZ{l:List Route}{B:Nat}(h:FP (JA l)<=B){x:Route}(hx:x∈l):(.agg x.c:AV).bulk<=B:=AK (Fr (lg hx)) h
def rY{l:List Route}{B:Nat}(h:FP (JA l)<=B):l.length<=B:=by
 refine AK ?_ h
 exact HG (f:=λ(x:Route) => .agg x.c) (λx=>by exact w9 x) l
def rX(l:List Route):Prop:=l.length*112<=reachBytes /\ ∀ x∈l,x.ok
def d9{a:AV}(h:Rd AA 51 a): ∃ l,a = .sl none (JA l)/\rX l:=by
 obtain ⟨l,h1,h2,h3⟩:=IM (f:=λ(x:Route) => .agg x.c) (ok:=λ(x:Route)=>x.ok) (P:=AA) (t:=51) (e:=250) kr (λx hx=>Route.rd hx) h
 exact ⟨l,h1,by rw [show AA.bytesOf 250=112 by kernel_rfl] at h2;exact h2,h3⟩
def JS(l:List Demand):List AV:=l.map λx => .agg x.c
def eU(l:List Demand):(JS l).length=l.length:=by simp [JS]
def Ii{l:List Demand}{i:Nat}{x:Demand}(h:l[i]? =some x):(JS l)[i]? =some (.agg x.c):=by simp [JS,h]
def RM(l:List Demand):FQ (JS l)=true:=by
 induction l with
 | nil=>rfl
 | cons x xs ih=>simpa [JS,FQ,AV.pure] using ⟨Xw x,ih⟩
def TM(k:Nat)(l:List Demand):Fj k (JS l)=true:=Hi λx=>Demand.c_bnd k x
def ls{l:List Demand}{B:Nat}(h:FP (JS l)<=B):l.length<=B:=by
 refine AK ?_ h
 exact HG (f:=λ(x:Demand) => .agg x.c) (λx=>by exact oL x) l
def lr(l:List Demand):Prop:=l.length*32<=reachBytes /\ ∀ x∈l,x.ok
def Zq{a:AV}(h:Rd AA 52 a): ∃ l,a = .sl none (JS l)/\lr l:=by
 obtain ⟨l,h1,h2,h3⟩:=IM (f:=λ(x:Demand) => .agg x.c) (ok:=λ(x:Demand)=>x.ok) (P:=AA) (t:=52) (e:=280) kr (λx hx=>Demand.rd hx) h
 exact ⟨l,h1,by rw [show AA.bytesOf 280=32 by kernel_rfl] at h2;exact h2,h3⟩
@[ext] structure Tenant where
 name:ByteArray
 ports:List Port
 wires:List Wire
 program:List Stage
 routes:List Route
 demands:List Demand
 deriving Inhabited
def Tenant.cf(x:Tenant)(o0 o1 o2 o3 o4:Option Nat):List AV:=[.str x.name,.sl o0 (KD x.ports),.sl o1 (L9 x.wires),.sl o2 (F7 x.program),.sl o3 (JA x.routes),.sl o4 (JS x.demands)]
abbrev Tenant.c(x:Tenant):List AV:=x.cf none none none none none
def nk(x:Tenant):1<=FP x.c:=by
 have h1:1<=(.str x.name:AV).bulk:=by simp [AV.bulk]
 exact AK h1 (Fr (AB (i:=0) rfl))
def Xa(x:Tenant)(o0 o1 o2 o3 o4:Option Nat):(x.cf o0 o1 o2 o3 o4).length=6:=rfl
def Xb(x:Tenant)(o0 o1 o2 o3 o4:Option Nat):(x.cf o0 o1 o2 o3 o4).map borrow1=x.cf none none none none none:=rfl
def XZ(x:Tenant)(o0 o1 o2 o3 o4:Option Nat):(x.cf o0 o1 o2 o3 o4).any GB=(o0.isSome||o1.isSome||o2.isSome||o3.isSome||o4.isSome):=by
 cases o0<;>cases o1<;>cases o2<;>cases o3<;>cases o4<;>rfl
def WS(x:Tenant)(o0 o1 o2 o3 o4:Option Nat):(x.cf o0 o1 o2 o3 o4).take 6=x.cf o0 o1 o2 o3 o4:=rfl
def Tenant.cf_pure(x:Tenant)(o0 o1 o2 o3 o4:Option Nat):FQ (x.cf o0 o1 o2 o3 o4)=true:=by
 simp [Tenant.cf,FQ,AV.pure,RM,VP,TI,TH,VG]
def Xd(x:Tenant):FQ x.c=true:=x.cf_pure none none none none none
def P6(k:Nat)(x:Tenant)(o0 o1 o2 o3 o4:Option Nat):Fj k (x.cf o0 o1 o2 o3 o4)=true:=by
 simp [Tenant.cf,Fj,AV.bnd,TM,YU,VK,VI,YS]
def Tenant.c_bnd(k:Nat)(x:Tenant):Fj k x.c=true:=P6 k x none none none none none
def M5{x:Tenant}(h:HR x.c):x.ports.length<=9223372036854775807:=by
 have h1:(AV.sl none (KD x.ports)).fit:=Fv.1 h _ (AB (i:=1) rfl)
 have h2:=h1.1
 rwa [YT] at h2
def Qp{x:Tenant}(h:HR x.c):x.program.length<=9223372036854775807:=by
 have h1:(AV.sl none (F7 x.program)).fit:=Fv.1 h _ (AB (i:=3) rfl)
 have h2:=h1.1
 rwa [NS] at h2
def Rk{x:Tenant}(h:HR x.c):x.routes.length<=9223372036854775807:=by
 have h1:(AV.sl none (JA x.routes)).fit:=Fv.1 h _ (AB (i:=4) rfl)
 have h2:=h1.1
 rwa [VJ] at h2
def WT{x:Tenant}{B:Nat}(h:FP x.c<=B):x.name.size<=B:=HB (AB (i:=0) rfl) h
def Nw{x:Tenant}{B:Nat}(h:FP x.c<=B):FP (KD x.ports)<=B:=Gs (o:=none) (AB (i:=1) rfl) h
def IW{x:Tenant}{B:Nat}(h:FP x.c<=B):FP (L9 x.wires)<=B:=Gs (o:=none) (AB (i:=2) rfl) h
def HV{x:Tenant}{B:Nat}(h:FP x.c<=B):FP (F7 x.program)<=B:=Gs (o:=none) (AB (i:=3) rfl) h
def St{x:Tenant}{B:Nat}(h:FP x.c<=B):FP (JA x.routes)<=B:=Gs (o:=none) (AB (i:=4) rfl) h
def Rl{x:Tenant}{B:Nat}(h:FP x.c<=B):FP (JS x.demands)<=B:=Gs (o:=none) (AB (i:=5) rfl) h
def Xc(x:Tenant)(o0 o1 o2 o3 o4:Option Nat):(x.cf o0 o1 o2 o3 o4)[0]? =some (.str x.name)/\(x.cf o0 o1 o2 o3 o4)[1]? =some (.sl o0 (KD x.ports))/\(x.cf o0 o1 o2 o3 o4)[2]? =some (.sl o1 (L9 x.wires))/\(x.cf o0 o1 o2 o3 o4)[3]? =some (.sl o2 (F7 x.program))/\(x.cf o0 o1 o2 o3 o4)[4]? =some (.sl o3 (JA x.routes))/\(x.cf o0 o1 o2 o3 o4)[5]? =some (.sl o4 (JS x.demands)):=⟨rfl,rfl,rfl,rfl,rfl,rfl⟩
def Tenant.z:Tenant:=⟨.empty,[],[],[],[],[]⟩
def Tenant.zero:Fg AA 54=some (.agg (Tenant.z.cf (some 2) (some 2) (some 15) (some 8) (some 4))):=kr
def Tenant.ok(_:Tenant):Prop:=True
def Tenant.rd{a:AV}(h:Rd AA 54 a): ∃ x:Tenant,a = .agg x.c/\x.ok:=by
 obtain ⟨ps,rfl,hp⟩:=GG (ts:=[9,47,48,50,51,52]) kr h
 obtain ⟨a0,a1,a2,a3,a4,a5,rfl,g0,g1,g2,g3,g4,g5⟩:=Rt hp
 obtain ⟨v0,rfl,k0⟩:=kV g0
 obtain ⟨v1,rfl,k1⟩:=lh g1
 obtain ⟨v2,rfl,k2⟩:=lT g2
 obtain ⟨v3,rfl,k3⟩:=d8 g3
 obtain ⟨v4,rfl,k4⟩:=d9 g4
 obtain ⟨v5,rfl,k5⟩:=Zq g5
 exact ⟨⟨v0,v1,v2,v3,v4,v5⟩,rfl,trivial⟩
@[ext] structure Node where
 name:ByteArray
 box:Bool
 rules:Int
 entries:Int
 deriving DecidableEq,Inhabited
def Node.c(x:Node):List AV:=[.str x.name,.bool x.box,.int .i64 x.rules,.int .i64 x.entries]
def ACZ(x:Node):1<=FP x.c:=by
 have h1:1<=(.str x.name:AV).bulk:=by simp [AV.bulk]
 exact AK h1 (Fr (AB (i:=0) rfl))
def jI(x:Node):x.c.length=4:=rfl
def jJ(x:Node):x.c.map borrow1=x.c:=rfl
def jH(x:Node):x.c.any GB=false:=by
 rfl
def bQ(x:Node):x.c.take 4=x.c:=rfl
def Node.cf_pure(x:Node):FQ x.c=true:=by
 simp [Node.c,FQ,AV.pure]
def jL(x:Node):FQ x.c=true:=x.cf_pure
def TZ(k:Nat)(x:Node):Fj k x.c=true:=by
 simp [Node.c,Fj,AV.bnd]
def Node.c_bnd(k:Nat)(x:Node):Fj k x.c=true:=TZ k x
def bR{x:Node}{B:Nat}(h:FP x.c<=B):x.name.size<=B:=HB (AB (i:=0) rfl) h
def jK(x:Node):x.c[0]? =some (.str x.name)/\x.c[1]? =some (.bool x.box)/\x.c[2]? =some (.int .i64 x.rules)/\x.c[3]? =some (.int .i64 x.entries):=⟨rfl,rfl,rfl,rfl⟩
def Node.z:Node:=⟨.empty,false,0,0⟩
def Node.zero:Fg AA 128=some (.agg Node.z.c):=kr
def Node.ok(_:Node):Prop:=True
def Node.rd{a:AV}(h:Rd AA 128 a): ∃ x:Node,a = .agg x.c/\x.ok:=by
 obtain ⟨ps,rfl,hp⟩:=GG (ts:=[9,4,3,3]) kr h
 obtain ⟨a0,a1,a2,a3,rfl,g0,g1,g2,g3⟩:=LX hp
 obtain ⟨v0,rfl,k0⟩:=kV g0
 obtain ⟨v1,rfl,k1⟩:=WV (t:=4) kr g1
 obtain ⟨v2,rfl,k2⟩:=K8 g2
 obtain ⟨v3,rfl,k3⟩:=K8 g3
 exact ⟨⟨v0,v1,v2,v3⟩,rfl,trivial⟩
@[ext] structure Link where
 src:Int
 dst:Int
 capacity:Int
 deriving DecidableEq,Inhabited
def Link.c(x:Link):List AV:=[.int .i64 x.src,.int .i64 x.dst,.int .i64 x.capacity]
def ACc(x:Link):1<=FP x.c:=by
 have h1:1<=(.int .i64 x.src:AV).bulk:=by simp [AV.bulk]
 exact AK h1 (Fr (AB (i:=0) rfl))
def jN(x:Link):x.c.length=3:=rfl
def jO(x:Link):x.c.map borrow1=x.c:=rfl
def jM(x:Link):x.c.any GB=false:=by
 rfl
def bS(x:Link):x.c.take 3=x.c:=rfl
def Link.cf_pure(x:Link):FQ x.c=true:=by
 simp [Link.c,FQ,AV.pure]
def jQ(x:Link):FQ x.c=true:=x.cf_pure
def Ta(k:Nat)(x:Link):Fj k x.c=true:=by
 simp [Link.c,Fj,AV.bnd]
def Link.c_bnd(k:Nat)(x:Link):Fj k x.c=true:=Ta k x
def jP(x:Link):x.c[0]? =some (.int .i64 x.src)/\x.c[1]? =some (.int .i64 x.dst)/\x.c[2]? =some (.int .i64 x.capacity):=⟨rfl,rfl,rfl⟩
def Link.z:Link:=⟨0,0,0⟩
def Link.zero:Fg AA 191=some (.agg Link.z.c):=kr
def Link.ok(_:Link):Prop:=True
def Link.rd{a:AV}(h:Rd AA 191 a): ∃ x:Link,a = .agg x.c/\x.ok:=by
 obtain ⟨ps,rfl,hp⟩:=GG (ts:=[3,3,3]) kr h
 obtain ⟨a0,a1,a2,rfl,g0,g1,g2⟩:=I3 hp
 obtain ⟨v0,rfl,k0⟩:=K8 g0
 obtain ⟨v1,rfl,k1⟩:=K8 g1
 obtain ⟨v2,rfl,k2⟩:=K8 g2
 exact ⟨⟨v0,v1,v2⟩,rfl,trivial⟩
@[ext] structure Edge where
 name:ByteArray
 node:Int
 deriving DecidableEq,Inhabited
def Edge.c(x:Edge):List AV:=[.str x.name,.int .i64 x.node]
def ACg(x:Edge):1<=FP x.c:=by
 have h1:1<=(.str x.name:AV).bulk:=by simp [AV.bulk]
 exact AK h1 (Fr (AB (i:=0) rfl))
def je(x:Edge):x.c.length=2:=rfl
def jf(x:Edge):x.c.map borrow1=x.c:=rfl
def jd(x:Edge):x.c.any GB=false:=by
 rfl
def Edge.cf_pure(x:Edge):FQ x.c=true:=by
 simp [Edge.c,FQ,AV.pure]
def jh(x:Edge):FQ x.c=true:=x.cf_pure
def Td(k:Nat)(x:Edge):Fj k x.c=true:=by
 simp [Edge.c,Fj,AV.bnd]
def Edge.c_bnd(k:Nat)(x:Edge):Fj k x.c=true:=Td k x
def bc{x:Edge}{B:Nat}(h:FP x.c<=B):x.name.size<=B:=HB (AB (i:=0) rfl) h
def jg(x:Edge):x.c[0]? =some (.str x.name)/\x.c[1]? =some (.int .i64 x.node):=⟨rfl,rfl⟩
def Edge.z:Edge:=⟨.empty,0⟩
def Edge.ok(_:Edge):Prop:=True
def Edge.rd{a:AV}(h:Rd AA 92 a): ∃ x:Edge,a = .agg x.c/\x.ok:=by
 obtain ⟨ps,rfl,hp⟩:=GG (ts:=[9,3]) kr h
 obtain ⟨a0,a1,rfl,g0,g1⟩:=Hv hp
 obtain ⟨v0,rfl,k0⟩:=kV g0
 obtain ⟨v1,rfl,k1⟩:=K8 g1
 exact ⟨⟨v0,v1⟩,rfl,trivial⟩
def Jz(l:List Node):List AV:=l.map λx => .agg x.c
def rl(l:List Node):(Jz l).length=l.length:=by simp [Jz]
def Mq{l:List Node}{i:Nat}{x:Node}(h:l[i]? =some x):(Jz l)[i]? =some (.agg x.c):=by simp [Jz,h]
def rk{l:List Node}{x:Node}(h:x∈l): .agg x.c∈Jz l:=by rw [Jz];exact AO.2 ⟨x,h,rfl⟩
def QW(l:List Node):FQ (Jz l)=true:=by
 induction l with
 | nil=>rfl
 | cons x xs ih=>simpa [Jz,FQ,AV.pure] using ⟨jL x,ih⟩
def SV(k:Nat)(l:List Node):Fj k (Jz l)=true:=Hi λx=>Node.c_bnd k x
def z6{l:List Node}{B:Nat}(h:FP (Jz l)<=B){x:Node}(hx:x∈l):(.agg x.c:AV).bulk<=B:=AK (Fr (rk hx)) h
def eM{l:List Node}{B:Nat}(h:FP (Jz l)<=B):l.length<=B:=by
 refine AK ?_ h
 exact HG (f:=λ(x:Node) => .agg x.c) (λx=>by exact ACZ x) l
def zz(l:List Node):Prop:=l.length*40<=reachBytes /\ ∀ x∈l,x.ok
def li{a:AV}(h:Rd AA 22 a): ∃ l,a = .sl none (Jz l)/\zz l:=by
 obtain ⟨l,h1,h2,h3⟩:=IM (f:=λ(x:Node) => .agg x.c) (ok:=λ(x:Node)=>x.ok) (P:=AA) (t:=22) (e:=128) kr (λx hx=>Node.rd hx) h
 exact ⟨l,h1,by rw [show AA.bytesOf 128=40 by kernel_rfl] at h2;exact h2,h3⟩
def Mr(l:List Link):List AV:=l.map λx => .agg x.c
def rm(l:List Link):(Mr l).length=l.length:=by simp [Mr]
def SW{l:List Link}{i:Nat}{x:Link}(h:l[i]? =some x):(Mr l)[i]? =some (.agg x.c):=by simp [Mr,h]
def QX(l:List Link):FQ (Mr l)=true:=by
 induction l with
 | nil=>rfl
 | cons x xs ih=>simpa [Mr,FQ,AV.pure] using ⟨jQ x,ih⟩
def SX(k:Nat)(l:List Link):Fj k (Mr l)=true:=Hi λx=>Link.c_bnd k x
def z8{l:List Link}{B:Nat}(h:FP (Mr l)<=B):l.length<=B:=by
 refine AK ?_ h
 exact HG (f:=λ(x:Link) => .agg x.c) (λx=>by exact ACc x) l
def z7(l:List Link):Prop:=l.length*24<=reachBytes /\ ∀ x∈l,x.ok
def lj{a:AV}(h:Rd AA 23 a): ∃ l,a = .sl none (Mr l)/\z7 l:=by
 obtain ⟨l,h1,h2,h3⟩:=IM (f:=λ(x:Link) => .agg x.c) (ok:=λ(x:Link)=>x.ok) (P:=AA) (t:=23) (e:=191) kr (λx hx=>Link.rd hx) h
 exact ⟨l,h1,by rw [show AA.bytesOf 191=24 by kernel_rfl] at h2;exact h2,h3⟩
def J0(l:List Edge):List AV:=l.map λx => .agg x.c
def rx(l:List Edge):(J0 l).length=l.length:=by simp [J0]
def Mt{l:List Edge}{i:Nat}{x:Edge}(h:l[i]? =some x):(J0 l)[i]? =some (.agg x.c):=by simp [J0,h]
def rv{l:List Edge}{x:Edge}(h:x∈l): .agg x.c∈J0 l:=by rw [J0];exact AO.2 ⟨x,h,rfl⟩
def QY(l:List Edge):FQ (J0 l)=true:=by
 induction l with
 | nil=>rfl
 | cons x xs ih=>simpa [J0,FQ,AV.pure] using ⟨jh x,ih⟩
def SZ(k:Nat)(l:List Edge):Fj k (J0 l)=true:=Hi λx=>Edge.c_bnd k x
def AAB{l:List Edge}{B:Nat}(h:FP (J0 l)<=B){x:Edge}(hx:x∈l):(.agg x.c:AV).bulk<=B:=AK (Fr (rv hx)) h
def eR{l:List Edge}{B:Nat}(h:FP (J0 l)<=B):l.length<=B:=by
 refine AK ?_ h
 exact HG (f:=λ(x:Edge) => .agg x.c) (λx=>by exact ACg x) l
def AAA(l:List Edge):Prop:=l.length*24<=reachBytes /\ ∀ x∈l,x.ok
def lq{a:AV}(h:Rd AA 24 a): ∃ l,a = .sl none (J0 l)/\AAA l:=by
 obtain ⟨l,h1,h2,h3⟩:=IM (f:=λ(x:Edge) => .agg x.c) (ok:=λ(x:Edge)=>x.ok) (P:=AA) (t:=24) (e:=92) kr (λx hx=>Edge.rd hx) h
 exact ⟨l,h1,by rw [show AA.bytesOf 92=24 by kernel_rfl] at h2;exact h2,h3⟩
@[ext] structure Network where
 nodes:List Node
 links:List Link
 edges:List Edge
 deriving DecidableEq,Inhabited
def Network.cf(x:Network)(o0 o1 o2:Option Nat):List AV:=[.sl o0 (Jz x.nodes),.sl o1 (Mr x.links),.sl o2 (J0 x.edges)]
abbrev Network.c(x:Network):List AV:=x.cf none none none
def Wa(x:Network)(o0 o1 o2:Option Nat):(x.cf o0 o1 o2).length=3:=rfl
def Wb(x:Network)(o0 o1 o2:Option Nat):(x.cf o0 o1 o2).map borrow1=x.cf none none none:=rfl
def WZ(x:Network)(o0 o1 o2:Option Nat):(x.cf o0 o1 o2).any GB=(o0.isSome||o1.isSome||o2.isSome):=by
 cases o0<;>cases o1<;>cases o2<;>rfl
def T1(x:Network)(o0 o1 o2:Option Nat):(x.cf o0 o1 o2).take 3=x.cf o0 o1 o2:=rfl
def Network.cf_pure(x:Network)(o0 o1 o2:Option Nat):FQ (x.cf o0 o1 o2)=true:=by
 simp [Network.cf,FQ,AV.pure,QY,QX,QW]
def O9(k:Nat)(x:Network)(o0 o1 o2:Option Nat):Fj k (x.cf o0 o1 o2)=true:=by
 simp [Network.cf,Fj,AV.bnd,SZ,SX,SV]
def Network.c_bnd(k:Nat)(x:Network):Fj k x.c=true:=O9 k x none none none
def M7{x:Network}{B:Nat}(h:FP x.c<=B):FP (Jz x.nodes)<=B:=Gs (o:=none) (AB (i:=0) rfl) h
def Sw{x:Network}{B:Nat}(h:FP x.c<=B):FP (Mr x.links)<=B:=Gs (o:=none) (AB (i:=1) rfl) h
def M8{x:Network}{B:Nat}(h:FP x.c<=B):FP (J0 x.edges)<=B:=Gs (o:=none) (AB (i:=2) rfl) h
def Wc(x:Network)(o0 o1 o2:Option Nat):(x.cf o0 o1 o2)[0]? =some (.sl o0 (Jz x.nodes))/\(x.cf o0 o1 o2)[1]? =some (.sl o1 (Mr x.links))/\(x.cf o0 o1 o2)[2]? =some (.sl o2 (J0 x.edges)):=⟨rfl,rfl,rfl⟩
def Network.z:Network:=⟨[],[],[]⟩
def Network.ok(_:Network):Prop:=True
def Network.rd{a:AV}(h:Rd AA 26 a): ∃ x:Network,a = .agg x.c/\x.ok:=by
 obtain ⟨ps,rfl,hp⟩:=GG (ts:=[22,23,24]) kr h
 obtain ⟨a0,a1,a2,rfl,g0,g1,g2⟩:=I3 hp
 obtain ⟨v0,rfl,k0⟩:=li g0
 obtain ⟨v1,rfl,k1⟩:=lj g1
 obtain ⟨v2,rfl,k2⟩:=lq g2
 exact ⟨⟨v0,v1,v2⟩,rfl,trivial⟩
@[ext] structure Contract where
 src:ByteArray
 dst:ByteArray
 fromPort:Int
 toPort:Int
 pred:Pred
 via:Int
 capacity:Int
 price:Int
 deriving Inhabited
def Contract.cf(x:Contract)(o0:Option Nat):List AV:=[.str x.src,.str x.dst,.int .i64 x.fromPort,.int .i64 x.toPort,.int .i64 x.pred.kind,.str x.pred.field,.int .i64 x.pred.n,.int .i64 x.pred.m,.sl o0 (GE x.pred.args),.int .i64 x.via,.int .i64 x.capacity,.int .i64 x.price]
abbrev Contract.c(x:Contract):List AV:=x.cf none
def bk(x:Contract):1<=FP x.c:=by
 have h1:1<=(.str x.src:AV).bulk:=by simp [AV.bulk]
 exact AK h1 (Fr (AB (i:=0) rfl))
def UB(x:Contract)(o0:Option Nat):(x.cf o0).length=12:=rfl
def UC(x:Contract)(o0:Option Nat):(x.cf o0).map borrow1=x.cf none:=rfl
def UA(x:Contract)(o0:Option Nat):(x.cf o0).any GB=(o0.isSome):=by
 cases o0<;>rfl
def S0(x:Contract)(o0:Option Nat):(x.cf o0).take 12=x.cf o0:=rfl
def Contract.cf_pure(x:Contract)(o0:Option Nat):FQ (x.cf o0)=true:=by
 simp [Contract.cf,FQ,AV.pure,Jc]
def UE(x:Contract):FQ x.c=true:=x.cf_pure none
def Nz(k:Nat)(x:Contract)(o0:Option Nat):Fj k (x.cf o0)=true:=by
 simp [Contract.cf,Fj,AV.bnd,KT]
def Contract.c_bnd(k:Nat)(x:Contract):Fj k x.c=true:=Nz k x none
def S1{x:Contract}{B:Nat}(h:FP x.c<=B):FP x.pred.c<=B:=by
 have h1:=HY x.c 4 5
 rw [show (x.c.drop 4).take 5=x.pred.c from rfl] at h1
 omega
def UD(x:Contract)(o0:Option Nat):(x.cf o0)[0]? =some (.str x.src)/\(x.cf o0)[1]? =some (.str x.dst)/\(x.cf o0)[2]? =some (.int .i64 x.fromPort)/\(x.cf o0)[3]? =some (.int .i64 x.toPort)/\(x.cf o0)[9]? =some (.int .i64 x.via)/\(x.cf o0)[10]? =some (.int .i64 x.capacity)/\(x.cf o0)[11]? =some (.int .i64 x.price):=⟨rfl,rfl,rfl,rfl,rfl,rfl,rfl⟩
def OB(x:Contract)(o0:Option Nat):((x.cf o0).drop 4).take 5=x.pred.cf o0:=rfl
def Contract.z:Contract:=⟨.empty,.empty,0,0,⟨0,.empty,0,0,[]⟩,0,0,0⟩
def Contract.zero:Fg AA 76=some (.agg (Contract.z.cf (some 5))):=kr
def Contract.ok(_:Contract):Prop:=True
def Contract.rd{a:AV}(h:Rd AA 76 a): ∃ x:Contract,a = .agg x.c/\x.ok:=by
 obtain ⟨ps,rfl,hp⟩:=GG (ts:=[9,9,3,3,74,3,3,3]) kr h
 obtain ⟨a0,a1,a2,a3,a4,a5,a6,a7,rfl,g0,g1,g2,g3,g4,g5,g6,g7⟩:=bK hp
 obtain ⟨v0,rfl,k0⟩:=kV g0
 obtain ⟨v1,rfl,k1⟩:=kV g1
 obtain ⟨v2,rfl,k2⟩:=K8 g2
 obtain ⟨v3,rfl,k3⟩:=K8 g3
 obtain ⟨v4,rfl,k4⟩:=Pred.rd g4
 obtain ⟨v5,rfl,k5⟩:=K8 g5
 obtain ⟨v6,rfl,k6⟩:=K8 g6
 obtain ⟨v7,rfl,k7⟩:=K8 g7
 exact ⟨⟨v0,v1,v2,v3,v4,v5,v6,v7⟩,rfl,trivial⟩
def GL(l:List Fld):List AV:=l.map λx => .agg x.c
def RL(l:List Fld):(GL l).length=l.length:=by simp [GL]
def Gd{l:List Fld}{i:Nat}{x:Fld}(h:l[i]? =some x):(GL l)[i]? =some (.agg x.c):=by simp [GL,h]
def VS{l:List Fld}{x:Fld}(h:x∈l): .agg x.c∈GL l:=by rw [GL];exact AO.2 ⟨x,h,rfl⟩
def SY(l:List Fld):FQ (GL l)=true:=by
 induction l with
 | nil=>rfl
 | cons x xs ih=>simpa [GL,FQ,AV.pure] using ⟨oJ x,ih⟩
def VT(k:Nat)(l:List Fld):Fj k (GL l)=true:=Hi λx=>Fld.c_bnd k x
def AD4{l:List Fld}{B:Nat}(h:FP (GL l)<=B){x:Fld}(hx:x∈l):(.agg x.c:AV).bulk<=B:=AK (Fr (VS hx)) h
def Zn{l:List Fld}{B:Nat}(h:FP (GL l)<=B):l.length<=B:=by
 refine AK ?_ h
 exact HG (f:=λ(x:Fld) => .agg x.c) (λx=>by exact AFM x) l
def AD3(l:List Fld):Prop:=l.length*32<=reachBytes /\ ∀ x∈l,x.ok
def YV{a:AV}(h:Rd AA 27 a): ∃ l,a = .sl none (GL l)/\AD3 l:=by
 obtain ⟨l,h1,h2,h3⟩:=IM (f:=λ(x:Fld) => .agg x.c) (ok:=λ(x:Fld)=>x.ok) (P:=AA) (t:=27) (e:=126) kr (λx hx=>Fld.rd hx) h
 exact ⟨l,h1,by rw [show AA.bytesOf 126=32 by kernel_rfl] at h2;exact h2,h3⟩
def HT(l:List Tenant):List AV:=l.map λx => .agg x.c
def TF(l:List Tenant):(HT l).length=l.length:=by simp [HT]
def Fq{l:List Tenant}{i:Nat}{x:Tenant}(h:l[i]? =some x):(HT l)[i]? =some (.agg x.c):=by simp [HT,h]
def d6{l:List Tenant}{x:Tenant}(h:x∈l): .agg x.c∈HT l:=by rw [HT];exact AO.2 ⟨x,h,rfl⟩
def RJ(l:List Tenant):FQ (HT l)=true:=by
 induction l with
 | nil=>rfl
 | cons x xs ih=>simpa [HT,FQ,AV.pure] using ⟨Xd x,ih⟩
def TG(k:Nat)(l:List Tenant):Fj k (HT l)=true:=Hi λx=>Tenant.c_bnd k x
def QS{l:List Tenant}{B:Nat}(h:FP (HT l)<=B){x:Tenant}(hx:x∈l):(.agg x.c:AV).bulk<=B:=AK (Fr (d6 hx)) h
def lV{l:List Tenant}{B:Nat}(h:FP (HT l)<=B):l.length<=B:=by
 refine AK ?_ h
 exact HG (f:=λ(x:Tenant) => .agg x.c) (λx=>by exact nk x) l
def lU(l:List Tenant):Prop:=l.length*136<=reachBytes /\ ∀ x∈l,x.ok
def Zk{a:AV}(h:Rd AA 28 a): ∃ l,a = .sl none (HT l)/\lU l:=by
 obtain ⟨l,h1,h2,h3⟩:=IM (f:=λ(x:Tenant) => .agg x.c) (ok:=λ(x:Tenant)=>x.ok) (P:=AA) (t:=28) (e:=54) kr (λx hx=>Tenant.rd hx) h
 exact ⟨l,h1,by rw [show AA.bytesOf 54=136 by kernel_rfl] at h2;exact h2,h3⟩
def GW(l:List Contract):List AV:=l.map λx => .agg x.c
def Py(l:List Contract):(GW l).length=l.length:=by simp [GW]
def GT{l:List Contract}{i:Nat}{x:Contract}(h:l[i]? =some x):(GW l)[i]? =some (.agg x.c):=by simp [GW,h]
def XG{l:List Contract}{x:Contract}(h:x∈l): .agg x.c∈GW l:=by rw [GW];exact AO.2 ⟨x,h,rfl⟩
def OW(l:List Contract):FQ (GW l)=true:=by
 induction l with
 | nil=>rfl
 | cons x xs ih=>simpa [GW,FQ,AV.pure] using ⟨UE x,ih⟩
def Pz(k:Nat)(l:List Contract):Fj k (GW l)=true:=Hi λx=>Contract.c_bnd k x
def Zs{l:List Contract}{B:Nat}(h:FP (GW l)<=B){x:Contract}(hx:x∈l):(.agg x.c:AV).bulk<=B:=AK (Fr (XG hx)) h
def NU{l:List Contract}{B:Nat}(h:FP (GW l)<=B):l.length<=B:=by
 refine AK ?_ h
 exact HG (f:=λ(x:Contract) => .agg x.c) (λx=>by exact bk x) l
def Zr(l:List Contract):Prop:=l.length*136<=reachBytes /\ ∀ x∈l,x.ok
def VX{a:AV}(h:Rd AA 29 a): ∃ l,a = .sl none (GW l)/\Zr l:=by
 obtain ⟨l,h1,h2,h3⟩:=IM (f:=λ(x:Contract) => .agg x.c) (ok:=λ(x:Contract)=>x.ok) (P:=AA) (t:=29) (e:=76) kr (λx hx=>Contract.rd hx) h
 exact ⟨l,h1,by rw [show AA.bytesOf 76=136 by kernel_rfl] at h2;exact h2,h3⟩
@[ext] structure Setup where
 network:Network
 fields:List Fld
 tenants:List Tenant
 contracts:List Contract
 deriving Inhabited
def Setup.cf(x:Setup)(o0 o1 o2 o3 o4 o5:Option Nat):List AV:=[.sl o0 (Jz x.network.nodes),.sl o1 (Mr x.network.links),.sl o2 (J0 x.network.edges),.sl o3 (GL x.fields),.sl o4 (HT x.tenants),.sl o5 (GW x.contracts)]
abbrev Setup.c(x:Setup):List AV:=x.cf none none none none none none
def ay(x:Setup)(o0 o1 o2 o3 o4 o5:Option Nat):(x.cf o0 o1 o2 o3 o4 o5).length=6:=rfl
def az(x:Setup)(o0 o1 o2 o3 o4 o5:Option Nat):(x.cf o0 o1 o2 o3 o4 o5).map borrow1=x.cf none none none none none none:=rfl
def ax(x:Setup)(o0 o1 o2 o3 o4 o5:Option Nat):(x.cf o0 o1 o2 o3 o4 o5).any GB=(o0.isSome||o1.isSome||o2.isSome||o3.isSome||o4.isSome||o5.isSome):=by
 cases o0<;>cases o1<;>cases o2<;>cases o3<;>cases o4<;>cases o5<;>rfl
def Xg(x:Setup)(o0 o1 o2 o3 o4 o5:Option Nat):(x.cf o0 o1 o2 o3 o4 o5).take 6=x.cf o0 o1 o2 o3 o4 o5:=rfl
def Setup.cf_pure(x:Setup)(o0 o1 o2 o3 o4 o5:Option Nat):FQ (x.cf o0 o1 o2 o3 o4 o5)=true:=by
 simp [Setup.cf,FQ,AV.pure,OW,QY,SY,QX,QW,RJ]
def Rq(k:Nat)(x:Setup)(o0 o1 o2 o3 o4 o5:Option Nat):Fj k (x.cf o0 o1 o2 o3 o4 o5)=true:=by
 simp [Setup.cf,Fj,AV.bnd,Pz,SZ,VT,SX,SV,TG]
def Setup.c_bnd(k:Nat)(x:Setup):Fj k x.c=true:=Rq k x none none none none none none
def Rp{x:Setup}(h:HR x.c):x.tenants.length<=9223372036854775807:=by
 have h1:(AV.sl none (HT x.tenants)).fit:=Fv.1 h _ (AB (i:=4) rfl)
 have h2:=h1.1
 rwa [TF] at h2
def Pm{x:Setup}(h:HR x.c):x.contracts.length<=9223372036854775807:=by
 have h1:(AV.sl none (GW x.contracts)).fit:=Fv.1 h _ (AB (i:=5) rfl)
 have h2:=h1.1
 rwa [Py] at h2
def M6{x:Setup}{B:Nat}(h:FP x.c<=B):FP x.network.c<=B:=by
 have h1:=HY x.c 0 3
 rw [show (x.c.drop 0).take 3=x.network.c from rfl] at h1
 omega
def LB{x:Setup}{B:Nat}(h:FP x.c<=B):FP (GL x.fields)<=B:=Gs (o:=none) (AB (i:=3) rfl) h
def I2{x:Setup}{B:Nat}(h:FP x.c<=B):FP (HT x.tenants)<=B:=Gs (o:=none) (AB (i:=4) rfl) h
def IL{x:Setup}{B:Nat}(h:FP x.c<=B):FP (GW x.contracts)<=B:=Gs (o:=none) (AB (i:=5) rfl) h
def bA(x:Setup)(o0 o1 o2 o3 o4 o5:Option Nat):(x.cf o0 o1 o2 o3 o4 o5)[0]? =some (.sl o0 (Jz x.network.nodes))/\(x.cf o0 o1 o2 o3 o4 o5)[2]? =some (.sl o2 (J0 x.network.edges))/\(x.cf o0 o1 o2 o3 o4 o5)[3]? =some (.sl o3 (GL x.fields))/\(x.cf o0 o1 o2 o3 o4 o5)[4]? =some (.sl o4 (HT x.tenants))/\(x.cf o0 o1 o2 o3 o4 o5)[5]? =some (.sl o5 (GW x.contracts)):=⟨rfl,rfl,rfl,rfl,rfl⟩
def N8(x:Setup)(o0 o1 o2 o3 o4 o5:Option Nat):(x.cf o0 o1 o2 o3 o4 o5).take 3=x.network.cf o0 o1 o2:=rfl
def Setup.z:Setup:=⟨⟨[],[],[]⟩,[],[],[]⟩
def Setup.zero:Fg AA 31=some (.agg (Setup.z.cf (some 4) (some 3) (some 2) (some 3) (some 6) (some 12))):=kr
def Setup.ok(_:Setup):Prop:=True
def Setup.rd{a:AV}(h:Rd AA 31 a): ∃ x:Setup,a = .agg x.c/\x.ok:=by
 obtain ⟨ps,rfl,hp⟩:=GG (ts:=[26,27,28,29]) kr h
 obtain ⟨a0,a1,a2,a3,rfl,g0,g1,g2,g3⟩:=LX hp
 obtain ⟨v0,rfl,k0⟩:=Network.rd g0
 obtain ⟨v1,rfl,k1⟩:=YV g1
 obtain ⟨v2,rfl,k2⟩:=Zk g2
 obtain ⟨v3,rfl,k3⟩:=VX g3
 exact ⟨⟨v0,v1,v2,v3⟩,rfl,trivial⟩
def GH(l:List Int):List AV:=l.map λx => .int .i64 x
def HO(l:List Int):(GH l).length=l.length:=by simp [GH]
def GF{l:List Int}{i:Nat}{x:Int}(h:l[i]? =some x):(GH l)[i]? =some (.int .i64 x):=by simp [GH,h]
def VR(l:List Int): ∀ x∈GH l,x.cells.length=1:=by
 intro x hx;obtain ⟨y,_,rfl⟩:=AO.1 hx;rfl
def eN(l:List Int):(∀ x∈GH l,x.cells.length=1)=True:=eq_true (VR l)
def lk(l:List Int)(k:Nat):(GH l).take k=GH (l.take k):=by simp [GH]
def rq(a:List Int)(x:Int):GH a++[.int .i64 x]=GH (a++[x]):=by simp [GH]
def Jk(l:List Int):FQ (GH l)=true:=by
 induction l with
 | nil=>rfl
 | cons x xs ih=>simpa [GH,FQ,AV.pure] using ih
def Ms(k:Nat)(l:List Int):Fj k (GH l)=true:=Hi λx=>rfl
def AD1{l:List Int}{B:Nat}(h:FP (GH l)<=B):l.length<=B:=by
 refine AK ?_ h
 exact HG (f:=λ(x:Int) => .int .i64 x) (λx=>by simp [AV.bulk]) l
def AD0(l:List Int):Prop:=l.length*8<=reachBytes /\ ∀ x∈l,IntKind.i64.min<=x/\x<=IntKind.i64.max
def PN{a:AV}(h:Rd AA 61 a): ∃ l,a = .sl none (GH l)/\AD0 l:=by
 obtain ⟨l,h1,h2,h3⟩:=IM (f:=λ(x:Int) => .int .i64 x) (ok:=λ(x:Int)=>IntKind.i64.min<=x/\x<=IntKind.i64.max) (P:=AA) (t:=61) (e:=3) kr (λx hx=>K8 hx) h
 exact ⟨l,h1,by rw [show AA.bytesOf 3=8 by kernel_rfl] at h2;exact h2,h3⟩
@[ext] structure Variable where
 name:ByteArray
 family:Int
 widths:List Int
 n:Int
 m:Int
 deriving DecidableEq,Inhabited
def Variable.cf(x:Variable)(o0:Option Nat):List AV:=[.str x.name,.int .i64 x.family,.sl o0 (GH x.widths),.int .i64 x.n,.int .i64 x.m]
abbrev Variable.c(x:Variable):List AV:=x.cf none
def Tx(x:Variable)(o0:Option Nat):(x.cf o0).length=5:=rfl
def Ty(x:Variable)(o0:Option Nat):(x.cf o0).map borrow1=x.cf none:=rfl
def Tw(x:Variable)(o0:Option Nat):(x.cf o0).any GB=(o0.isSome):=by
 cases o0<;>rfl
def Sr(x:Variable)(o0:Option Nat):(x.cf o0).take 5=x.cf o0:=rfl
def Variable.cf_pure(x:Variable)(o0:Option Nat):FQ (x.cf o0)=true:=by
 simp [Variable.cf,FQ,AV.pure,Jk]
def T0(x:Variable):FQ x.c=true:=x.cf_pure none
def Nv(k:Nat)(x:Variable)(o0:Option Nat):Fj k (x.cf o0)=true:=by
 simp [Variable.cf,Fj,AV.bnd,Ms]
def Variable.c_bnd(k:Nat)(x:Variable):Fj k x.c=true:=Nv k x none
def Tz(x:Variable)(o0:Option Nat):(x.cf o0)[0]? =some (.str x.name)/\(x.cf o0)[1]? =some (.int .i64 x.family)/\(x.cf o0)[2]? =some (.sl o0 (GH x.widths))/\(x.cf o0)[3]? =some (.int .i64 x.n)/\(x.cf o0)[4]? =some (.int .i64 x.m):=⟨rfl,rfl,rfl,rfl,rfl⟩
def Variable.z:Variable:=⟨.empty,0,[],0,0⟩
def Variable.zero:Fg AA 267=some (.agg (Variable.z.cf (some 1))):=kr
def Variable.ok(_:Variable):Prop:=True
@[ext] structure Sizes where
 nodes:Int
 depth:Int
 deriving DecidableEq,Inhabited
def Sizes.c(x:Sizes):List AV:=[.int .i64 x.nodes,.int .i64 x.depth]
def aq(x:Sizes):x.c.length=2:=rfl
def au(x:Sizes):x.c.map borrow1=x.c:=rfl
def ap(x:Sizes):x.c.any GB=false:=by
 rfl
def Xf(x:Sizes):x.c.take 2=x.c:=rfl
def Sizes.cf_pure(x:Sizes):FQ x.c=true:=by
 simp [Sizes.c,FQ,AV.pure]
def Ro(k:Nat)(x:Sizes):Fj k x.c=true:=by
 simp [Sizes.c,Fj,AV.bnd]
def Sizes.c_bnd(k:Nat)(x:Sizes):Fj k x.c=true:=Ro k x
def aw(x:Sizes):x.c[0]? =some (.int .i64 x.nodes)/\x.c[1]? =some (.int .i64 x.depth):=⟨rfl,rfl⟩
def Pl(x:Sizes)(v:Int):Hl x.c [.int .i64 v]=({ x with nodes:=v }:Sizes).c:=rfl
def Qr(x:Sizes)(v:Int):splice x.c 1 [.int .i64 v]=({ x with depth:=v }:Sizes).c:=rfl
def Sizes.z:Sizes:=⟨0,0⟩
def Sizes.zero:Fg AA 253=some (.agg Sizes.z.c):=kr
def Sizes.ok(_:Sizes):Prop:=True
@[ext] structure Entry where
 var:ByteArray
 key:List Int
 n:Int
 at_:Int
 deriving DecidableEq,Inhabited
def Entry.cf(x:Entry)(o0:Option Nat):List AV:=[.str x.var,.sl o0 (GH x.key),.int .i64 x.n,.int .i64 x.at_]
abbrev Entry.c(x:Entry):List AV:=x.cf none
def xH(x:Entry):1<=FP x.c:=by
 have h1:1<=(.str x.var:AV).bulk:=by simp [AV.bulk]
 exact AK h1 (Fr (AB (i:=0) rfl))
def bX(x:Entry)(o0:Option Nat):(x.cf o0).length=4:=rfl
def bY(x:Entry)(o0:Option Nat):(x.cf o0).map borrow1=x.cf none:=rfl
def bW(x:Entry)(o0:Option Nat):(x.cf o0).any GB=(o0.isSome):=by
 cases o0<;>rfl
def Xr(x:Entry)(o0:Option Nat):(x.cf o0).take 4=x.cf o0:=rfl
def Entry.cf_pure(x:Entry)(o0:Option Nat):FQ (x.cf o0)=true:=by
 simp [Entry.cf,FQ,AV.pure,Jk]
def Ry(x:Entry):FQ x.c=true:=x.cf_pure none
def Rx(k:Nat)(x:Entry)(o0:Option Nat):Fj k (x.cf o0)=true:=by
 simp [Entry.cf,Fj,AV.bnd,Ms]
def Entry.c_bnd(k:Nat)(x:Entry):Fj k x.c=true:=Rx k x none
def ba{x:Entry}{B:Nat}(h:FP x.c<=B):FP (GH x.key)<=B:=Gs (o:=none) (AB (i:=1) rfl) h
def bZ(x:Entry)(o0:Option Nat):(x.cf o0)[0]? =some (.str x.var)/\(x.cf o0)[1]? =some (.sl o0 (GH x.key))/\(x.cf o0)[2]? =some (.int .i64 x.n)/\(x.cf o0)[3]? =some (.int .i64 x.at_):=⟨rfl,rfl,rfl,rfl⟩
def Rw(x:Entry)(v:ByteArray)(o0:Option Nat):Hl (x.cf o0) [.str v]=({ x with var:=v }:Entry).cf o0:=rfl
def Sy(x:Entry)(v:List Int)(o0:Option Nat)(p:Option Nat):splice (x.cf o0) 1 [.sl p (GH v)]=({ x with key:=v }:Entry).cf p:=rfl
def Entry.z:Entry:=⟨.empty,[],0,0⟩
def Entry.zero:Fg AA 119=some (.agg (Entry.z.cf (some 1))):=kr
def Entry.ok(_:Entry):Prop:=True
def Entry.rd{a:AV}(h:Rd AA 119 a): ∃ x:Entry,a = .agg x.c/\x.ok:=by
 obtain ⟨ps,rfl,hp⟩:=GG (ts:=[9,61,3,3]) kr h
 obtain ⟨a0,a1,a2,a3,rfl,g0,g1,g2,g3⟩:=LX hp
 obtain ⟨v0,rfl,k0⟩:=kV g0
 obtain ⟨v1,rfl,k1⟩:=PN g1
 obtain ⟨v2,rfl,k2⟩:=K8 g2
 obtain ⟨v3,rfl,k3⟩:=K8 g3
 exact ⟨⟨v0,v1,v2,v3⟩,rfl,trivial⟩
@[ext] structure Delivery where
 tenant:Int
 head:Head
 chain:List Int
 deriving DecidableEq,Inhabited
def Delivery.cf(x:Delivery)(o0:Option Nat):List AV:=[.int .i64 x.tenant,.int .i64 x.head.h0,.int .i64 x.head.h1,.int .i64 x.head.h2,.int .i64 x.head.h3,.int .i64 x.head.h4,.int .i64 x.head.h5,.int .i64 x.head.h6,.int .i64 x.head.h7,.int .i64 x.head.h8,.int .i64 x.head.h9,.sl o0 (GH x.chain)]
abbrev Delivery.c(x:Delivery):List AV:=x.cf none
def T6(x:Delivery)(o0:Option Nat):(x.cf o0).length=12:=rfl
def T7(x:Delivery)(o0:Option Nat):(x.cf o0).map borrow1=x.cf none:=rfl
def T5(x:Delivery)(o0:Option Nat):(x.cf o0).any GB=(o0.isSome):=by
 cases o0<;>rfl
def Sz(x:Delivery)(o0:Option Nat):(x.cf o0).take 12=x.cf o0:=rfl
def Delivery.cf_pure(x:Delivery)(o0:Option Nat):FQ (x.cf o0)=true:=by
 simp [Delivery.cf,FQ,AV.pure,Jk]
def T9(x:Delivery):FQ x.c=true:=x.cf_pure none
def Ny(k:Nat)(x:Delivery)(o0:Option Nat):Fj k (x.cf o0)=true:=by
 simp [Delivery.cf,Fj,AV.bnd,Ms]
def Delivery.c_bnd(k:Nat)(x:Delivery):Fj k x.c=true:=Ny k x none
def T8(x:Delivery)(o0:Option Nat):(x.cf o0)[0]? =some (.int .i64 x.tenant)/\(x.cf o0)[1]? =some (.int .i64 x.head.h0)/\(x.cf o0)[11]? =some (.sl o0 (GH x.chain)):=⟨rfl,rfl,rfl⟩
def M9(x:Delivery)(v:Int)(o0:Option Nat):Hl (x.cf o0) [.int .i64 v]=({ x with tenant:=v }:Delivery).cf o0:=rfl
def OA(x:Delivery)(o0:Option Nat):((x.cf o0).drop 1).take 10=x.head.c:=rfl
def PC(x:Delivery)(v:Head)(o0:Option Nat):splice (x.cf o0) 1 v.c=({ x with head:=v }:Delivery).cf o0:=rfl
def N9(x:Delivery)(v:List Int)(o0:Option Nat)(p:Option Nat):splice (x.cf o0) 11 [.sl p (GH v)]=({ x with chain:=v }:Delivery).cf p:=rfl
def Delivery.z:Delivery:=⟨0,⟨0,0,0,0,0,0,0,0,0,0⟩,[]⟩
def Delivery.zero:Fg AA 63=some (.agg (Delivery.z.cf (some 1))):=kr
def Delivery.ok(_:Delivery):Prop:=True
@[ext] structure Arrival where
 head:Head
 tick:Int
 deriving DecidableEq,Inhabited
def Arrival.c(x:Arrival):List AV:=[.int .i64 x.head.h0,.int .i64 x.head.h1,.int .i64 x.head.h2,.int .i64 x.head.h3,.int .i64 x.head.h4,.int .i64 x.head.h5,.int .i64 x.head.h6,.int .i64 x.head.h7,.int .i64 x.head.h8,.int .i64 x.head.h9,.int .i64 x.tick]
def Wk(x:Arrival):x.c.length=11:=rfl
def Wl(x:Arrival):x.c.map borrow1=x.c:=rfl
def Wj(x:Arrival):x.c.any GB=false:=by
 rfl
def UF(x:Arrival):x.c.take 11=x.c:=rfl
def Arrival.cf_pure(x:Arrival):FQ x.c=true:=by
 simp [Arrival.c,FQ,AV.pure]
def Wn(x:Arrival):FQ x.c=true:=x.cf_pure
def PE(k:Nat)(x:Arrival):Fj k x.c=true:=by
 simp [Arrival.c,Fj,AV.bnd]
def Arrival.c_bnd(k:Nat)(x:Arrival):Fj k x.c=true:=PE k x
def Wm(x:Arrival):x.c[9]? =some (.int .i64 x.head.h9)/\x.c[10]? =some (.int .i64 x.tick):=⟨rfl,rfl⟩
def PD(x:Arrival):x.c.take 10=x.head.c:=rfl
def Arrival.z:Arrival:=⟨⟨0,0,0,0,0,0,0,0,0,0⟩,0⟩
def Arrival.zero:Fg AA 36=some (.agg Arrival.z.c):=kr
def Arrival.ok(_:Arrival):Prop:=True
def Arrival.rd{a:AV}(h:Rd AA 36 a): ∃ x:Arrival,a = .agg x.c/\x.ok:=by
 obtain ⟨ps,rfl,hp⟩:=GG (ts:=[34,3]) kr h
 obtain ⟨a0,a1,rfl,g0,g1⟩:=Hv hp
 obtain ⟨v0,rfl,k0⟩:=Head.rd g0
 obtain ⟨v1,rfl,k1⟩:=K8 g1
 exact ⟨⟨v0,v1⟩,rfl,trivial⟩
def FX(l:List Entry):List AV:=l.map λx => .agg x.c
def Hw(l:List Entry):(FX l).length=l.length:=by simp [FX]
def F6{l:List Entry}{i:Nat}{x:Entry}(h:l[i]? =some x):(FX l)[i]? =some (.agg x.c):=by simp [FX,h]
def lp{l:List Entry}{x:Entry}(h:x∈l): .agg x.c∈FX l:=by rw [FX];exact AO.2 ⟨x,h,rfl⟩
def Zp(l:List Entry): ∀ x∈FX l,x.cells.length=4:=by
 intro x hx;obtain ⟨y,_,rfl⟩:=AO.1 hx;rfl
def XE(l:List Entry):(∀ x∈FX l,x.cells.length=4)=True:=eq_true (Zp l)
def lm:FX []=[]:=rfl
def Zo(l:List Entry)(k:Nat):(FX l).take k=FX (l.take k):=by simp [FX]
def Jl(l:List Entry):FQ (FX l)=true:=by
 induction l with
 | nil=>rfl
 | cons x xs ih=>simpa [FX,FQ,AV.pure] using ⟨Ry x,ih⟩
def VV(k:Nat)(l:List Entry):Fj k (FX l)=true:=Hi λx=>Entry.c_bnd k x
def ru{l:List Entry}{B:Nat}(h:FP (FX l)<=B){x:Entry}(hx:x∈l):(.agg x.c:AV).bulk<=B:=AK (Fr (lp hx)) h
def rr{l:List Entry}{B:Nat}(h:FP (FX l)<=B):l.length<=B:=by
 refine AK ?_ h
 exact HG (f:=λ(x:Entry) => .agg x.c) (λx=>by exact xH x) l
def YW(l:List Entry):Prop:=l.length*56<=reachBytes /\ ∀ x∈l,x.ok
def TL{a:AV}(h:Rd AA 58 a): ∃ l,a = .sl none (FX l)/\YW l:=by
 obtain ⟨l,h1,h2,h3⟩:=IM (f:=λ(x:Entry) => .agg x.c) (ok:=λ(x:Entry)=>x.ok) (P:=AA) (t:=58) (e:=119) kr (λx hx=>Entry.rd hx) h
 exact ⟨l,h1,by rw [show AA.bytesOf 119=56 by kernel_rfl] at h2;exact h2,h3⟩
@[ext] structure Doing where
 fields:List Fld
 step:Stp
 st:List Entry
 head:Head
 tick:Int
 entry:Entry
 is:Bool
 deriving DecidableEq,Inhabited
def Doing.cf(x:Doing)(o0 o1 o2 o3:Option Nat):List AV:=[.sl o0 (GL x.fields),.int .i64 x.step.kind,.str x.step.var,.sl o1 (G9 x.step.key),.str x.step.field,.int .i64 x.step.n,.int .i64 x.step.m,.sl o2 (FX x.st),.int .i64 x.head.h0,.int .i64 x.head.h1,.int .i64 x.head.h2,.int .i64 x.head.h3,.int .i64 x.head.h4,.int .i64 x.head.h5,.int .i64 x.head.h6,.int .i64 x.head.h7,.int .i64 x.head.h8,.int .i64 x.head.h9,.int .i64 x.tick,.str x.entry.var,.sl o3 (GH x.entry.key),.int .i64 x.entry.n,.int .i64 x.entry.at_,.bool x.is]
abbrev Doing.c(x:Doing):List AV:=x.cf none none none none
def be(x:Doing)(o0 o1 o2 o3:Option Nat):(x.cf o0 o1 o2 o3).length=24:=rfl
def bf(x:Doing)(o0 o1 o2 o3:Option Nat):(x.cf o0 o1 o2 o3).map borrow1=x.cf none none none none:=rfl
def bd(x:Doing)(o0 o1 o2 o3:Option Nat):(x.cf o0 o1 o2 o3).any GB=(o0.isSome||o1.isSome||o2.isSome||o3.isSome):=by
 cases o0<;>cases o1<;>cases o2<;>cases o3<;>rfl
def Doing.cf_pure(x:Doing)(o0 o1 o2 o3:Option Nat):FQ (x.cf o0 o1 o2 o3)=true:=by
 simp [Doing.cf,FQ,AV.pure,Jl,SY,Jk,PM]
def R2(k:Nat)(x:Doing)(o0 o1 o2 o3:Option Nat):Fj k (x.cf o0 o1 o2 o3)=true:=by
 simp [Doing.cf,Fj,AV.bnd,VV,VT,Ms,RK]
def Doing.c_bnd(k:Nat)(x:Doing):Fj k x.c=true:=R2 k x none none none none
def bg(x:Doing)(o0 o1 o2 o3:Option Nat):(x.cf o0 o1 o2 o3)[0]? =some (.sl o0 (GL x.fields))/\(x.cf o0 o1 o2 o3)[2]? =some (.str x.step.var)/\(x.cf o0 o1 o2 o3)[3]? =some (.sl o1 (G9 x.step.key))/\(x.cf o0 o1 o2 o3)[4]? =some (.str x.step.field)/\(x.cf o0 o1 o2 o3)[5]? =some (.int .i64 x.step.n)/\(x.cf o0 o1 o2 o3)[6]? =some (.int .i64 x.step.m)/\(x.cf o0 o1 o2 o3)[7]? =some (.sl o2 (FX x.st))/\(x.cf o0 o1 o2 o3)[18]? =some (.int .i64 x.tick)/\(x.cf o0 o1 o2 o3)[21]? =some (.int .i64 x.entry.n)/\(x.cf o0 o1 o2 o3)[22]? =some (.int .i64 x.entry.at_)/\(x.cf o0 o1 o2 o3)[23]? =some (.bool x.is):=⟨rfl,rfl,rfl,rfl,rfl,rfl,rfl,rfl,rfl,rfl,rfl⟩
def PB(x:Doing)(v:List Fld)(o0 o1 o2 o3:Option Nat)(p:Option Nat):Hl (x.cf o0 o1 o2 o3) [.sl p (GL v)]=({ x with fields:=v }:Doing).cf p o1 o2 o3:=rfl
def Qx(x:Doing)(o0 o1 o2 o3:Option Nat):((x.cf o0 o1 o2 o3).drop 1).take 6=x.step.cf o1:=rfl
def R0(x:Doing)(v:Stp)(o0 o1 o2 o3:Option Nat)(p0:Option Nat):splice (x.cf o0 o1 o2 o3) 1 (v.cf p0)=({ x with step:=v }:Doing).cf o0 p0 o2 o3:=rfl
def T3(x:Doing)(v:List Entry)(o0 o1 o2 o3:Option Nat)(p:Option Nat):splice (x.cf o0 o1 o2 o3) 7 [.sl p (FX v)]=({ x with st:=v }:Doing).cf o0 o1 p o3:=rfl
def Qy(x:Doing)(o0 o1 o2 o3:Option Nat):((x.cf o0 o1 o2 o3).drop 8).take 10=x.head.c:=rfl
def R1(x:Doing)(v:Head)(o0 o1 o2 o3:Option Nat):splice (x.cf o0 o1 o2 o3) 8 v.c=({ x with head:=v }:Doing).cf o0 o1 o2 o3:=rfl
def Rz(x:Doing)(v:Int)(o0 o1 o2 o3:Option Nat):splice (x.cf o0 o1 o2 o3) 18 [.int .i64 v]=({ x with tick:=v }:Doing).cf o0 o1 o2 o3:=rfl
def Pp(x:Doing)(o0 o1 o2 o3:Option Nat):((x.cf o0 o1 o2 o3).drop 19).take 4=x.entry.cf o3:=rfl
def Qw(x:Doing)(v:Entry)(o0 o1 o2 o3:Option Nat)(p0:Option Nat):splice (x.cf o0 o1 o2 o3) 19 (v.cf p0)=({ x with entry:=v }:Doing).cf o0 o1 o2 p0:=rfl
def PA(x:Doing)(v:Int)(o0 o1 o2 o3:Option Nat):splice (x.cf o0 o1 o2 o3) 21 [.int .i64 v]=({ x with entry:={ x.entry with n:=v } }:Doing).cf o0 o1 o2 o3:=rfl
def Ns(x:Doing)(v:Int)(o0 o1 o2 o3:Option Nat):splice (x.cf o0 o1 o2 o3) 22 [.int .i64 v]=({ x with entry:={ x.entry with at_:=v } }:Doing).cf o0 o1 o2 o3:=rfl
def T4(x:Doing)(v:Bool)(o0 o1 o2 o3:Option Nat):splice (x.cf o0 o1 o2 o3) 23 [.bool v]=({ x with is:=v }:Doing).cf o0 o1 o2 o3:=rfl
def Doing.z:Doing:=⟨[],⟨0,.empty,[],.empty,0,0⟩,[],⟨0,0,0,0,0,0,0,0,0,0⟩,0,⟨.empty,[],0,0⟩,false⟩
def Doing.zero:Fg AA 174=some (.agg (Doing.z.cf (some 3) (some 1) (some 4) (some 1))):=kr
def Doing.ok(_:Doing):Prop:=True
@[ext] structure Item where
 tenant:Int
 head:Head
 chain:List Int
 deriving DecidableEq,Inhabited
def Item.cf(x:Item)(o0:Option Nat):List AV:=[.int .i64 x.tenant,.int .i64 x.head.h0,.int .i64 x.head.h1,.int .i64 x.head.h2,.int .i64 x.head.h3,.int .i64 x.head.h4,.int .i64 x.head.h5,.int .i64 x.head.h6,.int .i64 x.head.h7,.int .i64 x.head.h8,.int .i64 x.head.h9,.sl o0 (GH x.chain)]
abbrev Item.c(x:Item):List AV:=x.cf none
def jT(x:Item)(o0:Option Nat):(x.cf o0).length=12:=rfl
def jU(x:Item)(o0:Option Nat):(x.cf o0).map borrow1=x.cf none:=rfl
def jS(x:Item)(o0:Option Nat):(x.cf o0).any GB=(o0.isSome):=by
 cases o0<;>rfl
def bU(x:Item)(o0:Option Nat):(x.cf o0).take 12=x.cf o0:=rfl
def Item.cf_pure(x:Item)(o0:Option Nat):FQ (x.cf o0)=true:=by
 simp [Item.cf,FQ,AV.pure,Jk]
def Tb(k:Nat)(x:Item)(o0:Option Nat):Fj k (x.cf o0)=true:=by
 simp [Item.cf,Fj,AV.bnd,Ms]
def Item.c_bnd(k:Nat)(x:Item):Fj k x.c=true:=Tb k x none
def jV(x:Item)(o0:Option Nat):(x.cf o0)[0]? =some (.int .i64 x.tenant):=rfl
def Po(x:Item)(v:Int)(o0:Option Nat):Hl (x.cf o0) [.int .i64 v]=({ x with tenant:=v }:Item).cf o0:=rfl
def Rv(x:Item)(o0:Option Nat):((x.cf o0).drop 1).take 10=x.head.c:=rfl
def Sx(x:Item)(v:Head)(o0:Option Nat):splice (x.cf o0) 1 v.c=({ x with head:=v }:Item).cf o0:=rfl
def Ru(x:Item)(v:List Int)(o0:Option Nat)(p:Option Nat):splice (x.cf o0) 11 [.sl p (GH v)]=({ x with chain:=v }:Item).cf p:=rfl
def Item.z:Item:=⟨0,⟨0,0,0,0,0,0,0,0,0,0⟩,[]⟩
def Item.zero:Fg AA 95=some (.agg (Item.z.cf (some 1))):=kr
def Item.ok(_:Item):Prop:=True
attribute [go_sem] jX jY jW bV Head.cf_pure Tc jZ T2 Wf We Head.zero ACe oG oH oF jb Fld.cf_pure Wh oI Fld.zero iz jA iy bN Port.cf_pure TW jB Port.zero ia ib iZ ae Wire.cf_pure TU ic Wire.zero Jc KT Mp Zm rh eC eD ri iv iw iu bM Pred.cf_pure TV ix Pred.zero NT OU TK VQ eI XB XC eJ Xo Xp Xn WX Policy.cf_pure P9 Xq Pn Policy.zero OT QT VM bH bI bG Xj Regex.cf_pure Rs bJ Regex.zero Ln d7 zu lX rV PM RK np nq no ik Stp.cf_pure WU nr Stp.zero al am ak Xe Stage.cf_pure Rn an O4 O3 Qq Rm Stage.zero bC bD bB Route.cf_pure Rr Qs Qt Xt Xu Xs Wi Demand.cf_pure QA Xv Demand.zero YT VP YU rS VG YS NS XA lf TH VI VJ TI VK eU RM TM Xa Xb XZ WS Tenant.cf_pure P6 Xc Tenant.zero jI jJ jH bQ Node.cf_pure TZ jK Node.zero jN jO jM bS Link.cf_pure Ta jP Link.zero je jf jd Edge.cf_pure Td jg rl QW SV rm QX SX rx QY SZ Wa Wb WZ T1 Network.cf_pure O9 Wc UB UC UA S0 Contract.cf_pure Nz UD OB Contract.zero RL SY VT TF RJ TG Py OW Pz ay az ax Xg Setup.cf_pure Rq bA N8 Setup.zero HO eN lk rq Jk Ms Tx Ty Tw Sr Variable.cf_pure Nv Tz Variable.zero aq au ap Xf Sizes.cf_pure Ro aw Pl Qr Sizes.zero bX bY bW Xr Entry.cf_pure Rx bZ Rw Sy Entry.zero T6 T7 T5 Sz Delivery.cf_pure Ny T8 M9 OA PC N9 Delivery.zero Wk Wl Wj UF Arrival.cf_pure PE Wm PD Arrival.zero Hw XE lm Zo Jl VV be bf bd Doing.cf_pure R2 bg PB Qx R0 T3 Qy R1 Rz Pp Qw PA Ns T4 Doing.zero jT jU jS bU Item.cf_pure Tb jV Po Rv Sx Ru Item.zero
end Go.AI
