/- Data of the laws as the model holds them: cells in order;and how data are read as them. Printed by gendata.py. -/
import Derived.Test.YtnbekihfchfioaaGreatDoorLi
import Derived.Test.YtnbekihfchfioaaGreatDoorProg
import Derived.KernelRfl
set_option linter.unusedSimpArgs false
set_option linter.unusedVariables false
open Array renaming toList_inj->Cp
open Bool renaming eq_iff_iff->BA
open List renaming length_map->Aq,mem_cons->AZ,mem_map->AO,mem_of_getElem?->AB,sizeOf_lt_of_mem->DD
open Nat renaming le_refl->AU,le_trans->AK,lt_of_lt_of_le->BR
open Go.Proofs.Tryz renaming prog->AA
namespace Go.AI
open Go.Proofs
theorem KG{a:AV}(h:Rd AA 3 a): ∃ n,a = .int .i64 n/\(IntKind.i64.min<=n/\n<=IntKind.i64.max):=wL kr h
theorem lT{a:AV}(h:Rd AA 9 a): ∃ s,a = .str s/\s.size<=reachBytes:=wK kr h
theorem Ge{P:Program}{t0 t1:TypeId}{ps:List AV}(h:FQ P [t0,t1] ps): ∃ a0 a1,ps=[a0,a1]/\Rd P t0 a0/\Rd P t1 a1:=by
 match ps,h with
 | [a0,a1],h=>exact ⟨a0,a1,rfl,h.1,h.2.1⟩
theorem Hr{P:Program}{t0 t1 t2:TypeId}{ps:List AV}(h:FQ P [t0,t1,t2] ps): ∃ a0 a1 a2,ps=[a0,a1,a2]/\Rd P t0 a0/\Rd P t1 a1/\Rd P t2 a2:=by
 match ps,h with
 | [a0,a1,a2],h=>exact ⟨a0,a1,a2,rfl,h.1,h.2.1,h.2.2.1⟩
theorem Kf{P:Program}{t0 t1 t2 t3:TypeId}{ps:List AV}(h:FQ P [t0,t1,t2,t3] ps): ∃ a0 a1 a2 a3,ps=[a0,a1,a2,a3]/\Rd P t0 a0/\Rd P t1 a1/\Rd P t2 a2/\Rd P t3 a3:=by
 match ps,h with
 | [a0,a1,a2,a3],h=>exact ⟨a0,a1,a2,a3,rfl,h.1,h.2.1,h.2.2.1,h.2.2.2.1⟩
theorem M5{P:Program}{t0 t1 t2 t3 t4:TypeId}{ps:List AV}(h:FQ P [t0,t1,t2,t3,t4] ps): ∃ a0 a1 a2 a3 a4,ps=[a0,a1,a2,a3,a4]/\Rd P t0 a0/\Rd P t1 a1/\Rd P t2 a2/\Rd P t3 a3/\Rd P t4 a4:=by
 match ps,h with
 | [a0,a1,a2,a3,a4],h=>exact ⟨a0,a1,a2,a3,a4,rfl,h.1,h.2.1,h.2.2.1,h.2.2.2.1,h.2.2.2.2.1⟩
theorem RQ{P:Program}{t0 t1 t2 t3 t4 t5:TypeId}{ps:List AV}(h:FQ P [t0,t1,t2,t3,t4,t5] ps): ∃ a0 a1 a2 a3 a4 a5,ps=[a0,a1,a2,a3,a4,a5]/\Rd P t0 a0/\Rd P t1 a1/\Rd P t2 a2/\Rd P t3 a3/\Rd P t4 a4/\Rd P t5 a5:=by
 match ps,h with
 | [a0,a1,a2,a3,a4,a5],h=>exact ⟨a0,a1,a2,a3,a4,a5,rfl,h.1,h.2.1,h.2.2.1,h.2.2.2.1,h.2.2.2.2.1,h.2.2.2.2.2.1⟩
theorem bv{P:Program}{t0 t1 t2 t3 t4 t5 t6:TypeId}{ps:List AV}(h:FQ P [t0,t1,t2,t3,t4,t5,t6] ps): ∃ a0 a1 a2 a3 a4 a5 a6,ps=[a0,a1,a2,a3,a4,a5,a6]/\Rd P t0 a0/\Rd P t1 a1/\Rd P t2 a2/\Rd P t3 a3/\Rd P t4 a4/\Rd P t5 a5/\Rd P t6 a6:=by
 match ps,h with
 | [a0,a1,a2,a3,a4,a5,a6],h=>exact ⟨a0,a1,a2,a3,a4,a5,a6,rfl,h.1,h.2.1,h.2.2.1,h.2.2.2.1,h.2.2.2.2.1,h.2.2.2.2.2.1,h.2.2.2.2.2.2.1⟩
theorem bu{P:Program}{t0 t1 t2 t3 t4 t5 t6 t7:TypeId}{ps:List AV}(h:FQ P [t0,t1,t2,t3,t4,t5,t6,t7] ps): ∃ a0 a1 a2 a3 a4 a5 a6 a7,ps=[a0,a1,a2,a3,a4,a5,a6,a7]/\Rd P t0 a0/\Rd P t1 a1/\Rd P t2 a2/\Rd P t3 a3/\Rd P t4 a4/\Rd P t5 a5/\Rd P t6 a6/\Rd P t7 a7:=by
 match ps,h with
 | [a0,a1,a2,a3,a4,a5,a6,a7],h=>exact ⟨a0,a1,a2,a3,a4,a5,a6,a7,rfl,h.1,h.2.1,h.2.2.1,h.2.2.2.1,h.2.2.2.2.1,h.2.2.2.2.2.1,h.2.2.2.2.2.2.1,h.2.2.2.2.2.2.2.1⟩
theorem X9{P:Program}{t0 t1 t2 t3 t4 t5 t6 t7 t8 t9:TypeId}{ps:List AV}(h:FQ P [t0,t1,t2,t3,t4,t5,t6,t7,t8,t9] ps): ∃ a0 a1 a2 a3 a4 a5 a6 a7 a8 a9,ps=[a0,a1,a2,a3,a4,a5,a6,a7,a8,a9]/\Rd P t0 a0/\Rd P t1 a1/\Rd P t2 a2/\Rd P t3 a3/\Rd P t4 a4/\Rd P t5 a5/\Rd P t6 a6/\Rd P t7 a7/\Rd P t8 a8/\Rd P t9 a9:=by
 match ps,h with
 | [a0,a1,a2,a3,a4,a5,a6,a7,a8,a9],h=>exact ⟨a0,a1,a2,a3,a4,a5,a6,a7,a8,a9,rfl,h.1,h.2.1,h.2.2.1,h.2.2.2.1,h.2.2.2.2.1,h.2.2.2.2.2.1,h.2.2.2.2.2.2.1,h.2.2.2.2.2.2.2.1,h.2.2.2.2.2.2.2.2.1,h.2.2.2.2.2.2.2.2.2.1⟩
@[ext] structure Head where
 h0:Int
 h1:Int
 h2:Int
 h3:Int
 h4:Int
 h5:Int
 h6:Int
 h7:Int
 h8:Int
 h9:Int
 deriving DecidableEq,Inhabited
def Head.c(x:Head):List AV:=[.int .i64 x.h0,.int .i64 x.h1,.int .i64 x.h2,.int .i64 x.h3,.int .i64 x.h4,.int .i64 x.h5,.int .i64 x.h6,.int .i64 x.h7,.int .i64 x.h8,.int .i64 x.h9]
theorem kM(x:Head):x.c.length=10:=rfl
theorem kN(x:Head):x.c.map borrow1=x.c:=rfl
theorem kL(x:Head):x.c.any Ew=false:=by
 rfl
theorem cD(x:Head):x.c.take 10=x.c:=rfl
theorem Head.cf_pure(x:Head):DY x.c=true:=by
 simp [Head.c,DY,AV.pure]
theorem kP(x:Head):DY x.c=true:=x.cf_pure
theorem TP(k:Nat)(x:Head):EZ k x.c=true:=by
 simp [Head.c,EZ,AV.bnd]
theorem Head.c_bnd(k:Nat)(x:Head):EZ k x.c=true:=TP k x
theorem kO(x:Head):x.c[0]? =some (.int .i64 x.h0):=rfl
theorem T2(x:Head)(v:Int):GT x.c [.int .i64 v]=({ x with h0:=v }:Head).c:=rfl
theorem Wm(x:Head)(v:Int):splice x.c 1 [.int .i64 v]=({ x with h1:=v }:Head).c:=rfl
theorem Wl(x:Head)(v:Int):splice x.c 9 [.int .i64 v]=({ x with h9:=v }:Head).c:=rfl
def Head.z:Head:=⟨0,0,0,0,0,0,0,0,0,0⟩
theorem Head.zero:EW AA 34=some (.agg Head.z.c):=kr
def Head.ok(x:Head):Prop:=(IntKind.i64.min<=x.h0/\x.h0<=IntKind.i64.max)/\(IntKind.i64.min<=x.h1/\x.h1<=IntKind.i64.max)/\(IntKind.i64.min<=x.h2/\x.h2<=IntKind.i64.max)/\(IntKind.i64.min<=x.h3/\x.h3<=IntKind.i64.max)/\(IntKind.i64.min<=x.h4/\x.h4<=IntKind.i64.max)/\(IntKind.i64.min<=x.h5/\x.h5<=IntKind.i64.max)/\(IntKind.i64.min<=x.h6/\x.h6<=IntKind.i64.max)/\(IntKind.i64.min<=x.h7/\x.h7<=IntKind.i64.max)/\(IntKind.i64.min<=x.h8/\x.h8<=IntKind.i64.max)/\(IntKind.i64.min<=x.h9/\x.h9<=IntKind.i64.max)
theorem Head.rd{a:AV}(h:Rd AA 34 a): ∃ x:Head,a = .agg x.c/\x.ok:=by
 obtain ⟨ps,rfl,hp⟩:=E3 (ts:=[3,3,3,3,3,3,3,3,3,3]) kr h
 obtain ⟨a0,a1,a2,a3,a4,a5,a6,a7,a8,a9,rfl,g0,g1,g2,g3,g4,g5,g6,g7,g8,g9⟩:=X9 hp
 obtain ⟨v0,rfl,k0⟩:=KG g0
 obtain ⟨v1,rfl,k1⟩:=KG g1
 obtain ⟨v2,rfl,k2⟩:=KG g2
 obtain ⟨v3,rfl,k3⟩:=KG g3
 obtain ⟨v4,rfl,k4⟩:=KG g4
 obtain ⟨v5,rfl,k5⟩:=KG g5
 obtain ⟨v6,rfl,k6⟩:=KG g6
 obtain ⟨v7,rfl,k7⟩:=KG g7
 obtain ⟨v8,rfl,k8⟩:=KG g8
 obtain ⟨v9,rfl,k9⟩:=KG g9
 exact ⟨⟨v0,v1,v2,v3,v4,v5,v6,v7,v8,v9⟩,rfl,⟨k0,k1,k2,k3,k4,k5,k6,k7,k8,k9⟩⟩
theorem Head.eq(x y:Head):JE AA 34 (.agg x.c) (.agg y.c)=some (decide (x=y)):=by
 have e:JE AA 34 (.agg x.c) (.agg y.c)=some ((x.h0==y.h0)&&((x.h1==y.h1)&&((x.h2==y.h2)&&((x.h3==y.h3)&&((x.h4==y.h4)&&((x.h5==y.h5)&&((x.h6==y.h6)&&((x.h7==y.h7)&&((x.h8==y.h8)&&((x.h9==y.h9)&&true)))))))))):=kr
 rw [e,Option.some.injEq,BA]
 simp [Head.ext_iff]
theorem ABs(x y:Head){d:Tmp}{K:Kt}{e:Ee}{H:DM}:HS AA .neq 34 (.agg x.c) (.agg y.c) d K e H=K ((d,.bool !(decide (x=y)))::e) H:=vZ (Head.eq x y)
@[ext] structure Fld where
 name:ByteArray
 at_:Int
 width:Int
 deriving DecidableEq,Inhabited
def Fld.c(x:Fld):List AV:=[.str x.name,.int .i64 x.at_,.int .i64 x.width]
theorem AEb(x:Fld):1<=DT x.c:=by
 have h1:1<=(.str x.name:AV).bulk:=by simp [AV.bulk]
 exact AK h1 (Eg (AB (i:=0) rfl))
theorem qZ(x:Fld):x.c.length=3:=rfl
theorem qa(x:Fld):x.c.map borrow1=x.c:=rfl
theorem qY(x:Fld):x.c.any Ew=false:=by
 rfl
theorem kQ(x:Fld):x.c.take 3=x.c:=rfl
theorem Fld.cf_pure(x:Fld):DY x.c=true:=by
 simp [Fld.c,DY,AV.pure]
theorem qc(x:Fld):DY x.c=true:=x.cf_pure
theorem Wo(k:Nat)(x:Fld):EZ k x.c=true:=by
 simp [Fld.c,EZ,AV.bnd]
theorem Fld.c_bnd(k:Nat)(x:Fld):EZ k x.c=true:=Wo k x
theorem kR{x:Fld}{B:Nat}(h:DT x.c<=B):x.name.size<=B:=Fs (AB (i:=0) rfl) h
theorem qb(x:Fld):x.c[0]? =some (.str x.name)/\x.c[1]? =some (.int .i64 x.at_)/\x.c[2]? =some (.int .i64 x.width):=⟨rfl,rfl,rfl⟩
def Fld.z:Fld:=⟨.empty,0,0⟩
theorem Fld.zero:EW AA 126=some (.agg Fld.z.c):=kr
def Fld.ok(x:Fld):Prop:=(x.name.size<=reachBytes)/\(IntKind.i64.min<=x.at_/\x.at_<=IntKind.i64.max)/\(IntKind.i64.min<=x.width/\x.width<=IntKind.i64.max)
theorem Fld.rd{a:AV}(h:Rd AA 126 a): ∃ x:Fld,a = .agg x.c/\x.ok:=by
 obtain ⟨ps,rfl,hp⟩:=E3 (ts:=[9,3,3]) kr h
 obtain ⟨a0,a1,a2,rfl,g0,g1,g2⟩:=Hr hp
 obtain ⟨v0,rfl,k0⟩:=lT g0
 obtain ⟨v1,rfl,k1⟩:=KG g1
 obtain ⟨v2,rfl,k2⟩:=KG g2
 exact ⟨⟨v0,v1,v2⟩,rfl,⟨k0,k1,k2⟩⟩
theorem Fld.eq(x y:Fld):JE AA 126 (.agg x.c) (.agg y.c)=some (decide (x=y)):=by
 have e:JE AA 126 (.agg x.c) (.agg y.c)=some ((x.name.toList==y.name.toList)&&((x.at_==y.at_)&&((x.width==y.width)&&true))):=kr
 rw [e,Option.some.injEq,BA]
 simp [Fld.ext_iff,ByteArray.toList_eq,Cp,ByteArray.ext_iff]
@[ext] structure Port where
 name:ByteArray
 edge:Int
 deriving DecidableEq,Inhabited
def Port.c(x:Port):List AV:=[.str x.name,.int .i64 x.edge]
theorem ABk(x:Port):1<=DT x.c:=by
 have h1:1<=(.str x.name:AV).bulk:=by simp [AV.bulk]
 exact AK h1 (Eg (AB (i:=0) rfl))
theorem jn(x:Port):x.c.length=2:=rfl
theorem jo(x:Port):x.c.map borrow1=x.c:=rfl
theorem jm(x:Port):x.c.any Ew=false:=by
 rfl
theorem b5(x:Port):x.c.take 2=x.c:=rfl
theorem Port.cf_pure(x:Port):DY x.c=true:=by
 simp [Port.c,DY,AV.pure]
theorem js(x:Port):DY x.c=true:=x.cf_pure
theorem TJ(k:Nat)(x:Port):EZ k x.c=true:=by
 simp [Port.c,EZ,AV.bnd]
theorem Port.c_bnd(k:Nat)(x:Port):EZ k x.c=true:=TJ k x
theorem b6{x:Port}{B:Nat}(h:DT x.c<=B):x.name.size<=B:=Fs (AB (i:=0) rfl) h
theorem jq(x:Port):x.c[0]? =some (.str x.name)/\x.c[1]? =some (.int .i64 x.edge):=⟨rfl,rfl⟩
def Port.z:Port:=⟨.empty,0⟩
theorem Port.zero:EW AA 130=some (.agg Port.z.c):=kr
def Port.ok(x:Port):Prop:=(x.name.size<=reachBytes)/\(IntKind.i64.min<=x.edge/\x.edge<=IntKind.i64.max)
theorem Port.rd{a:AV}(h:Rd AA 130 a): ∃ x:Port,a = .agg x.c/\x.ok:=by
 obtain ⟨ps,rfl,hp⟩:=E3 (ts:=[9,3]) kr h
 obtain ⟨a0,a1,rfl,g0,g1⟩:=Ge hp
 obtain ⟨v0,rfl,k0⟩:=lT g0
 obtain ⟨v1,rfl,k1⟩:=KG g1
 exact ⟨⟨v0,v1⟩,rfl,⟨k0,k1⟩⟩
theorem Port.eq(x y:Port):JE AA 130 (.agg x.c) (.agg y.c)=some (decide (x=y)):=by
 have e:JE AA 130 (.agg x.c) (.agg y.c)=some ((x.name.toList==y.name.toList)&&((x.edge==y.edge)&&true)):=kr
 rw [e,Option.some.injEq,BA]
 simp [Port.ext_iff,ByteArray.toList_eq,Cp,ByteArray.ext_iff]
@[ext] structure Wire where
 src:Int
 dst:Int
 deriving DecidableEq,Inhabited
def Wire.c(x:Wire):List AV:=[.int .i64 x.src,.int .i64 x.dst]
theorem ABe(x:Wire):1<=DT x.c:=by
 have h1:1<=(.int .i64 x.src:AV).bulk:=by simp [AV.bulk]
 exact AK h1 (Eg (AB (i:=0) rfl))
theorem jW(x:Wire):x.c.length=2:=rfl
theorem jX(x:Wire):x.c.map borrow1=x.c:=rfl
theorem jV(x:Wire):x.c.any Ew=false:=by
 rfl
theorem bO(x:Wire):x.c.take 2=x.c:=rfl
theorem Wire.cf_pure(x:Wire):DY x.c=true:=by
 simp [Wire.c,DY,AV.pure]
theorem jZ(x:Wire):DY x.c=true:=x.cf_pure
theorem TH(k:Nat)(x:Wire):EZ k x.c=true:=by
 simp [Wire.c,EZ,AV.bnd]
theorem Wire.c_bnd(k:Nat)(x:Wire):EZ k x.c=true:=TH k x
theorem jY(x:Wire):x.c[0]? =some (.int .i64 x.src)/\x.c[1]? =some (.int .i64 x.dst):=⟨rfl,rfl⟩
def Wire.z:Wire:=⟨0,0⟩
theorem Wire.zero:EW AA 210=some (.agg Wire.z.c):=kr
def Wire.ok(x:Wire):Prop:=(IntKind.i64.min<=x.src/\x.src<=IntKind.i64.max)/\(IntKind.i64.min<=x.dst/\x.dst<=IntKind.i64.max)
theorem Wire.rd{a:AV}(h:Rd AA 210 a): ∃ x:Wire,a = .agg x.c/\x.ok:=by
 obtain ⟨ps,rfl,hp⟩:=E3 (ts:=[3,3]) kr h
 obtain ⟨a0,a1,rfl,g0,g1⟩:=Ge hp
 obtain ⟨v0,rfl,k0⟩:=KG g0
 obtain ⟨v1,rfl,k1⟩:=KG g1
 exact ⟨⟨v0,v1⟩,rfl,⟨k0,k1⟩⟩
theorem Wire.eq(x y:Wire):JE AA 210 (.agg x.c) (.agg y.c)=some (decide (x=y)):=by
 have e:JE AA 210 (.agg x.c) (.agg y.c)=some ((x.src==y.src)&&((x.dst==y.dst)&&true)):=kr
 rw [e,Option.some.injEq,BA]
 simp [Wire.ext_iff]
structure Pred where
 kind:Int
 field:ByteArray
 n:Int
 m:Int
 args:List Pred
instance:Inhabited Pred:=⟨⟨default,default,default,default,default⟩⟩
mutual
def Pred.e:Pred->AV
 | ⟨v0,v1,v2,v3,v4⟩ => .agg [.int .i64 v0,.str v1,.int .i64 v2,.int .i64 v3,.sl none (Pred.es v4)]
def Pred.es:List Pred->List AV
 | []=>[]
 | x::l=>Pred.e x::Pred.es l
end
abbrev Ez:List Pred->List AV:=Pred.es
mutual
theorem jh : ∀ x:Pred,(x.e).pure=true
 | ⟨v0,v1,v2,v3,v4⟩=>by simp [Pred.e,AV.pure,DY,M6 v4]
theorem M6 : ∀ l:List Pred,DY (Pred.es l)=true
 | []=>rfl
 | x::l=>by simp [Pred.es,DY,jh x,M6 l]
end
mutual
theorem qR(k:Nat): ∀ x:Pred,(x.e).bnd k=true
 | ⟨v0,v1,v2,v3,v4⟩=>by simp [Pred.e,AV.bnd,EZ,OM k v4]
theorem OM(k:Nat): ∀ l:List Pred,EZ k (Pred.es l)=true
 | []=>rfl
 | x::l=>by simp [Pred.es,EZ,qR k x,OM k l]
end
theorem IX(l:List Pred):DY (Ez l)=true:=M6 l
theorem JW(k:Nat)(l:List Pred):EZ k (Ez l)=true:=OM k l
theorem IK(p:Pred->Prop)(h : ∀ x:Pred,(∀ y∈x.args,p y)->p x): ∀ x,p x :=
 λx=>Pred.rec (motive_1:=p) (motive_2:=λl => ∀ y∈l,p y) (λv0 v1 v2 v3 v4 ih=>h ⟨v0,v1,v2,v3,v4⟩ ih) (λy hy=>by cases hy) (λx l h1 h2 y hy=>by
  rcases AZ.1 hy with rfl|hy
  ·exact h1
  ·exact h2 y hy) x
def Pred.cf(x:Pred)(o0:Option Nat):List AV:=[.int .i64 x.kind,.str x.field,.int .i64 x.n,.int .i64 x.m,.sl o0 (Ez x.args)]
abbrev Pred.c(x:Pred):List AV:=x.cf none
theorem ABj(x:Pred):1<=DT x.c:=by
 have h1:1<=(.int .i64 x.kind:AV).bulk:=by simp [AV.bulk]
 exact AK h1 (Eg (AB (i:=0) rfl))
theorem wM(x:Pred):x.e = .agg x.c:=by cases x;rfl
theorem GG(l:List Pred):Ez l=l.map λx => .agg x.c:=by
 induction l with
 | nil=>rfl
 | cons x l ih=>show x.e::Pred.es l=_;rw [show Pred.es l=_ from ih,wM];rfl
theorem L0(l:List Pred):(Ez l).length=l.length:=by simp [GG]
theorem Ea{l:List Pred}{i:Nat}{x:Pred}(h:l[i]? =some x):(Ez l)[i]? =some (.agg x.c):=by simp [GG,h]
theorem Lz{l:List Pred}{x:Pred}(h:x∈l): .agg x.c∈Ez l:=by rw [GG];exact AO.2 ⟨x,h,rfl⟩
theorem fN(l:List Pred): ∀ x∈Ez l,x.cells.length=5:=by
 intro x hx;rw [GG] at hx;obtain ⟨y,_,rfl⟩:=AO.1 hx;rfl
theorem Z8(l:List Pred):(∀ x∈Ez l,x.cells.length=5)=True:=eq_true (fN l)
theorem uA:Ez []=[]:=rfl
theorem fI(l:List Pred)(k:Nat):(Ez l).take k=Ez (l.take k):=by simp [GG]
theorem fM(l:List Pred)(k:Nat):(Ez l).drop k=Ez (l.drop k):=by simp [GG]
theorem uB(a b:List Pred):Ez a++Ez b=Ez (a++b):=by simp [GG]
theorem VP{l:List Pred}{B:Nat}(h:DT (Ez l)<=B){x:Pred}(hx:x∈l):(.agg x.c:AV).bulk<=B:=AK (Eg (Lz hx)) h
theorem VO{l:List Pred}{B:Nat}(h:DT (Ez l)<=B):l.length<=B:=by
 refine AK ?_ h
 rw [GG];exact Fy (f:=λ(x:Pred) => .agg x.c) (λx=>by exact ABj x) l
theorem jj(x:Pred)(o0:Option Nat):(x.cf o0).length=5:=rfl
theorem jk(x:Pred)(o0:Option Nat):(x.cf o0).map borrow1=x.cf none:=rfl
theorem ji(x:Pred)(o0:Option Nat):(x.cf o0).any Ew=(o0.isSome):=by
 cases o0<;>rfl
theorem bx(x:Pred)(o0:Option Nat):(x.cf o0).take 5=x.cf o0:=rfl
theorem Pred.cf_pure(x:Pred)(o0:Option Nat):DY (x.cf o0)=true:=by
 simp [Pred.cf,DY,AV.pure,IX]
theorem TI(k:Nat)(x:Pred)(o0:Option Nat):EZ k (x.cf o0)=true:=by
 simp [Pred.cf,EZ,AV.bnd,JW]
theorem Pred.c_bnd(k:Nat)(x:Pred):EZ k x.c=true:=TI k x none
theorem Jv{x:Pred}(h:F8 x.c):x.args.length<=9223372036854775807:=by
 have h1:(AV.sl none (Ez x.args)).fit:=Ej.1 h _ (AB (i:=4) rfl)
 have h2:=h1.1
 rwa [L0] at h2
theorem PS{x:Pred}{B:Nat}(h:DT x.c<=B):x.field.size<=B:=Fs (AB (i:=1) rfl) h
theorem Hs{x:Pred}{B:Nat}(h:DT x.c<=B):DT (Ez x.args)<=B:=Fd (o:=none) (AB (i:=4) rfl) h
theorem jl(x:Pred)(o0:Option Nat):(x.cf o0)[0]? =some (.int .i64 x.kind)/\(x.cf o0)[1]? =some (.str x.field)/\(x.cf o0)[2]? =some (.int .i64 x.n)/\(x.cf o0)[3]? =some (.int .i64 x.m)/\(x.cf o0)[4]? =some (.sl o0 (Ez x.args)):=⟨rfl,rfl,rfl,rfl,rfl⟩
def Pred.z:Pred:=⟨0,.empty,0,0,[]⟩
theorem Pred.zero:EW AA 74=some (.agg (Pred.z.cf (some 5))):=kr
mutual
def Pred.ok:Pred->Prop
 | ⟨v0,v1,v2,v3,v4⟩=>(IntKind.i64.min<=v0/\v0<=IntKind.i64.max)/\(v1.size<=reachBytes)/\(IntKind.i64.min<=v2/\v2<=IntKind.i64.max)/\(IntKind.i64.min<=v3/\v3<=IntKind.i64.max)/\(v4.length*64<=reachBytes/\OL v4)
def OL:List Pred->Prop
 | []=>True
 | x::l=>Pred.ok x/\OL l
end
theorem bw(l:List Pred):OL l ↔ ∀ x∈l,x.ok:=by
 induction l with
 | nil=>simp [OL]
 | cons x l ih=>simp [OL,ih]
def fJ(l:List Pred):Prop:=l.length*64<=reachBytes /\ ∀ x∈l,x.ok
theorem jg(x:Pred):x.ok↔(IntKind.i64.min<=x.kind/\x.kind<=IntKind.i64.max)/\(x.field.size<=reachBytes)/\(IntKind.i64.min<=x.n/\x.n<=IntKind.i64.max)/\(IntKind.i64.min<=x.m/\x.m<=IntKind.i64.max)/\(fJ x.args):=by
 cases x
 simp only [Pred.ok,fJ,bw]
theorem jf : ∀ (n:Nat) {a:AV},SizeOf.sizeOf a<=n->Rd AA 74 a -> ∃ x:Pred,a = .agg x.c/\x.ok
 | 0,a,hn,h=>by cases a<;>simp at hn
 | n+1,a,hn,h=>by
  obtain ⟨ps,rfl,hp⟩:=E3 (ts:=[3,9,3,3,72]) kr h
  obtain ⟨a0,a1,a2,a3,a4,rfl,g0,g1,g2,g3,g4⟩:=M5 hp
  obtain ⟨v0,rfl,k0⟩:=KG g0
  obtain ⟨v1,rfl,k1⟩:=lT g1
  obtain ⟨v2,rfl,k2⟩:=KG g2
  obtain ⟨v3,rfl,k3⟩:=KG g3
  obtain ⟨es,rfl,hb,he⟩:=OJ (e:=74) kr g4
  obtain ⟨v4,rfl,hok⟩:=Z1 (f:=λx:Pred => .agg x.c) (ok:=Pred.ok) λx hx=>jf n (by
   have h1:=DD hx
   have h2:=BR (Zd (o:=none) (es:=es) (by simp [F4,AV.cells])) hn
   omega) (he x hx)
  rw [Aq,show Tryz.prog.bytesOf 74=64 by kernel_rfl] at hb
  refine ⟨⟨v0,v1,v2,v3,v4⟩, ?_,(jg _).2 ⟨k0,k1,k2,k3,⟨hb,hok⟩⟩⟩
  rw [<- GG];rfl
theorem Pred.rd{a:AV}(h:Rd AA 74 a): ∃ x:Pred,a = .agg x.c/\x.ok:=jf _ (AU _) h
structure Policy where
 kind:Int
 pred:Pred
 field:ByteArray
 n:Int
 args:List Policy
instance:Inhabited Policy:=⟨⟨default,default,default,default,default⟩⟩
mutual
def Policy.e:Policy->AV
 | ⟨v0,v1,v2,v3,v4⟩ => .agg [.int .i64 v0,.int .i64 v1.kind,.str v1.field,.int .i64 v1.n,.int .i64 v1.m,.sl none (Ez v1.args),.str v2,.int .i64 v3,.sl none (Policy.es v4)]
def Policy.es:List Policy->List AV
 | []=>[]
 | x::l=>Policy.e x::Policy.es l
end
abbrev Em:List Policy->List AV:=Policy.es
mutual
theorem YB : ∀ x:Policy,(x.e).pure=true
 | ⟨v0,v1,v2,v3,v4⟩=>by simp [Policy.e,AV.pure,DY,LA v4,IX]
theorem LA : ∀ l:List Policy,DY (Policy.es l)=true
 | []=>rfl
 | x::l=>by simp [Policy.es,DY,YB x,LA l]
end
mutual
theorem b7(k:Nat): ∀ x:Policy,(x.e).bnd k=true
 | ⟨v0,v1,v2,v3,v4⟩=>by simp [Policy.e,AV.bnd,EZ,Lh k v4,JW]
theorem Lh(k:Nat): ∀ l:List Policy,EZ k (Policy.es l)=true
 | []=>rfl
 | x::l=>by simp [Policy.es,EZ,b7 k x,Lh k l]
end
theorem Mg(l:List Policy):DY (Em l)=true:=LA l
theorem Nl(k:Nat)(l:List Policy):EZ k (Em l)=true:=Lh k l
theorem GR(p:Policy->Prop)(h : ∀ x:Policy,(∀ y∈x.args,p y)->p x): ∀ x,p x :=
 λx=>Policy.rec (motive_1:=p) (motive_2:=λl => ∀ y∈l,p y) (λv0 v1 v2 v3 v4 ih=>h ⟨v0,v1,v2,v3,v4⟩ ih) (λy hy=>by cases hy) (λx l h1 h2 y hy=>by
  rcases AZ.1 hy with rfl|hy
  ·exact h1
  ·exact h2 y hy) x
def Policy.cf(x:Policy)(o0 o1:Option Nat):List AV:=[.int .i64 x.kind,.int .i64 x.pred.kind,.str x.pred.field,.int .i64 x.pred.n,.int .i64 x.pred.m,.sl o0 (Ez x.pred.args),.str x.field,.int .i64 x.n,.sl o1 (Em x.args)]
abbrev Policy.c(x:Policy):List AV:=x.cf none none
theorem qU(x:Policy):1<=DT x.c:=by
 have h1:1<=(.int .i64 x.kind:AV).bulk:=by simp [AV.bulk]
 exact AK h1 (Eg (AB (i:=0) rfl))
theorem ju(x:Policy):x.e = .agg x.c:=by cases x;rfl
theorem FO(l:List Policy):Em l=l.map λx => .agg x.c:=by
 induction l with
 | nil=>rfl
 | cons x l ih=>show x.e::Policy.es l=_;rw [show Policy.es l=_ from ih,ju];rfl
theorem S7(l:List Policy):(Em l).length=l.length:=by simp [FO]
theorem EQ{l:List Policy}{i:Nat}{x:Policy}(h:l[i]? =some x):(Em l)[i]? =some (.agg x.c):=by simp [FO,h]
theorem S6{l:List Policy}{x:Policy}(h:x∈l): .agg x.c∈Em l:=by rw [FO];exact AO.2 ⟨x,h,rfl⟩
theorem XO(l:List Policy): ∀ x∈Em l,x.cells.length=9:=by
 intro x hx;rw [FO] at hx;obtain ⟨y,_,rfl⟩:=AO.1 hx;rfl
theorem VS(l:List Policy):(∀ x∈Em l,x.cells.length=9)=True:=eq_true (XO l)
theorem fR:Em []=[]:=rfl
theorem XM(l:List Policy)(k:Nat):(Em l).take k=Em (l.take k):=by simp [FO]
theorem XN(l:List Policy)(k:Nat):(Em l).drop k=Em (l.drop k):=by simp [FO]
theorem fT(a b:List Policy):Em a++Em b=Em (a++b):=by simp [FO]
theorem Po{l:List Policy}{B:Nat}(h:DT (Em l)<=B){x:Policy}(hx:x∈l):(.agg x.c:AV).bulk<=B:=AK (Eg (S6 hx)) h
theorem Pn{l:List Policy}{B:Nat}(h:DT (Em l)<=B):l.length<=B:=by
 refine AK ?_ h
 rw [FO];exact Fy (f:=λ(x:Policy) => .agg x.c) (λx=>by exact qU x) l
theorem YD(x:Policy)(o0 o1:Option Nat):(x.cf o0 o1).length=9:=rfl
theorem YE(x:Policy)(o0 o1:Option Nat):(x.cf o0 o1).map borrow1=x.cf none none:=rfl
theorem YC(x:Policy)(o0 o1:Option Nat):(x.cf o0 o1).any Ew=(o0.isSome||o1.isSome):=by
 cases o0<;>cases o1<;>rfl
theorem We(x:Policy)(o0 o1:Option Nat):(x.cf o0 o1).take 9=x.cf o0 o1:=rfl
theorem Policy.cf_pure(x:Policy)(o0 o1:Option Nat):DY (x.cf o0 o1)=true:=by
 simp [Policy.cf,DY,AV.pure,Mg,IX]
theorem PT(k:Nat)(x:Policy)(o0 o1:Option Nat):EZ k (x.cf o0 o1)=true:=by
 simp [Policy.cf,EZ,AV.bnd,Nl,JW]
theorem Policy.c_bnd(k:Nat)(x:Policy):EZ k x.c=true:=PT k x none none
theorem IR{x:Policy}(h:F8 x.c):x.args.length<=9223372036854775807:=by
 have h1:(AV.sl none (Em x.args)).fit:=Ej.1 h _ (AB (i:=8) rfl)
 have h2:=h1.1
 rwa [S7] at h2
theorem LB{x:Policy}{B:Nat}(h:DT x.c<=B):DT x.pred.c<=B:=by
 have h1:=GF x.c 1 5
 rw [show (x.c.drop 1).take 5=x.pred.c from rfl] at h1
 omega
theorem NC{x:Policy}{B:Nat}(h:DT x.c<=B):x.field.size<=B:=Fs (AB (i:=6) rfl) h
theorem Gt{x:Policy}{B:Nat}(h:DT x.c<=B):DT (Em x.args)<=B:=Fd (o:=none) (AB (i:=8) rfl) h
theorem YF(x:Policy)(o0 o1:Option Nat):(x.cf o0 o1)[0]? =some (.int .i64 x.kind)/\(x.cf o0 o1)[6]? =some (.str x.field)/\(x.cf o0 o1)[7]? =some (.int .i64 x.n)/\(x.cf o0 o1)[8]? =some (.sl o1 (Em x.args)):=⟨rfl,rfl,rfl,rfl⟩
theorem O7(x:Policy)(o0 o1:Option Nat):((x.cf o0 o1).drop 1).take 5=x.pred.cf o0:=rfl
def Policy.z:Policy:=⟨0,⟨0,.empty,0,0,[]⟩,.empty,0,[]⟩
theorem Policy.zero:EW AA 105=some (.agg (Policy.z.cf (some 5) (some 9))):=kr
mutual
def Policy.ok:Policy->Prop
 | ⟨v0,v1,v2,v3,v4⟩=>(IntKind.i64.min<=v0/\v0<=IntKind.i64.max)/\(v1.ok)/\(v2.size<=reachBytes)/\(IntKind.i64.min<=v3/\v3<=IntKind.i64.max)/\(v4.length*120<=reachBytes/\K9 v4)
def K9:List Policy->Prop
 | []=>True
 | x::l=>Policy.ok x/\K9 l
end
theorem Wd(l:List Policy):K9 l ↔ ∀ x∈l,x.ok:=by
 induction l with
 | nil=>simp [K9]
 | cons x l ih=>simp [K9,ih]
def VR(l:List Policy):Prop:=l.length*120<=reachBytes /\ ∀ x∈l,x.ok
theorem YA(x:Policy):x.ok↔(IntKind.i64.min<=x.kind/\x.kind<=IntKind.i64.max)/\(x.pred.ok)/\(x.field.size<=reachBytes)/\(IntKind.i64.min<=x.n/\x.n<=IntKind.i64.max)/\(VR x.args):=by
 cases x
 simp only [Policy.ok,VR,Wd]
theorem Wc : ∀ (n:Nat) {a:AV},SizeOf.sizeOf a<=n->Rd AA 105 a -> ∃ x:Policy,a = .agg x.c/\x.ok
 | 0,a,hn,h=>by cases a<;>simp at hn
 | n+1,a,hn,h=>by
  obtain ⟨ps,rfl,hp⟩:=E3 (ts:=[3,74,9,3,103]) kr h
  obtain ⟨a0,a1,a2,a3,a4,rfl,g0,g1,g2,g3,g4⟩:=M5 hp
  obtain ⟨v0,rfl,k0⟩:=KG g0
  obtain ⟨v1,rfl,k1⟩:=Pred.rd g1
  obtain ⟨v2,rfl,k2⟩:=lT g2
  obtain ⟨v3,rfl,k3⟩:=KG g3
  obtain ⟨es,rfl,hb,he⟩:=OJ (e:=105) kr g4
  obtain ⟨v4,rfl,hok⟩:=Z1 (f:=λx:Policy => .agg x.c) (ok:=Policy.ok) λx hx=>Wc n (by
   have h1:=DD hx
   have h2:=BR (Zd (o:=none) (es:=es) (by simp [F4,AV.cells])) hn
   omega) (he x hx)
  rw [Aq,show Tryz.prog.bytesOf 105=120 by kernel_rfl] at hb
  refine ⟨⟨v0,v1,v2,v3,v4⟩, ?_,(YA _).2 ⟨k0,k1,k2,k3,⟨hb,hok⟩⟩⟩
  rw [<- FO];rfl
theorem Policy.rd{a:AV}(h:Rd AA 105 a): ∃ x:Policy,a = .agg x.c/\x.ok:=Wc _ (AU _) h
structure Regex where
 kind:Int
 node:ByteArray
 args:List Regex
instance:Inhabited Regex:=⟨⟨default,default,default⟩⟩
mutual
def Regex.e:Regex->AV
 | ⟨v0,v1,v2⟩ => .agg [.int .i64 v0,.str v1,.sl none (Regex.es v2)]
def Regex.es:List Regex->List AV
 | []=>[]
 | x::l=>Regex.e x::Regex.es l
end
abbrev Iu:List Regex->List AV:=Regex.es
mutual
theorem bo : ∀ x:Regex,(x.e).pure=true
 | ⟨v0,v1,v2⟩=>by simp [Regex.e,AV.pure,DY,Lg v2]
theorem Lg : ∀ l:List Regex,DY (Regex.es l)=true
 | []=>rfl
 | x::l=>by simp [Regex.es,DY,bo x,Lg l]
end
mutual
theorem jd(k:Nat): ∀ x:Regex,(x.e).bnd k=true
 | ⟨v0,v1,v2⟩=>by simp [Regex.e,AV.bnd,EZ,M4 k v2]
theorem M4(k:Nat): ∀ l:List Regex,EZ k (Regex.es l)=true
 | []=>rfl
 | x::l=>by simp [Regex.es,EZ,jd k x,M4 k l]
end
theorem Nk(l:List Regex):DY (Iu l)=true:=Lg l
theorem Pm(k:Nat)(l:List Regex):EZ k (Iu l)=true:=M4 k l
theorem Sg(p:Regex->Prop)(h : ∀ x:Regex,(∀ y∈x.args,p y)->p x): ∀ x,p x :=
 λx=>Regex.rec (motive_1:=p) (motive_2:=λl => ∀ y∈l,p y) (λv0 v1 v2 ih=>h ⟨v0,v1,v2⟩ ih) (λy hy=>by cases hy) (λx l h1 h2 y hy=>by
  rcases AZ.1 hy with rfl|hy
  ·exact h1
  ·exact h2 y hy) x
def Regex.cf(x:Regex)(o0:Option Nat):List AV:=[.int .i64 x.kind,.str x.node,.sl o0 (Iu x.args)]
abbrev Regex.c(x:Regex):List AV:=x.cf none
theorem wJ(x:Regex):1<=DT x.c:=by
 have h1:1<=(.int .i64 x.kind:AV).bulk:=by simp [AV.bulk]
 exact AK h1 (Eg (AB (i:=0) rfl))
theorem qP(x:Regex):x.e = .agg x.c:=by cases x;rfl
theorem Ly(l:List Regex):Iu l=l.map λx => .agg x.c:=by
 induction l with
 | nil=>rfl
 | cons x l ih=>show x.e::Regex.es l=_;rw [show Regex.es l=_ from ih,qP];rfl
theorem VN(l:List Regex):(Iu l).length=l.length:=by simp [Ly]
theorem G5{l:List Regex}{i:Nat}{x:Regex}(h:l[i]? =some x):(Iu l)[i]? =some (.agg x.c):=by simp [Ly,h]
theorem VM{l:List Regex}{x:Regex}(h:x∈l): .agg x.c∈Iu l:=by rw [Ly];exact AO.2 ⟨x,h,rfl⟩
theorem tz{l:List Regex}{B:Nat}(h:DT (Iu l)<=B){x:Regex}(hx:x∈l):(.agg x.c:AV).bulk<=B:=AK (Eg (VM hx)) h
theorem tx{l:List Regex}{B:Nat}(h:DT (Iu l)<=B):l.length<=B:=by
 refine AK ?_ h
 rw [Ly];exact Fy (f:=λ(x:Regex) => .agg x.c) (λx=>by exact wJ x) l
theorem bq(x:Regex)(o0:Option Nat):(x.cf o0).length=3:=rfl
theorem br(x:Regex)(o0:Option Nat):(x.cf o0).map borrow1=x.cf none:=rfl
theorem bp(x:Regex)(o0:Option Nat):(x.cf o0).any Ew=(o0.isSome):=by
 cases o0<;>rfl
theorem X7(x:Regex)(o0:Option Nat):(x.cf o0).take 3=x.cf o0:=rfl
theorem Regex.cf_pure(x:Regex)(o0:Option Nat):DY (x.cf o0)=true:=by
 simp [Regex.cf,DY,AV.pure,Nk]
theorem RP(k:Nat)(x:Regex)(o0:Option Nat):EZ k (x.cf o0)=true:=by
 simp [Regex.cf,EZ,AV.bnd,Pm]
theorem Regex.c_bnd(k:Nat)(x:Regex):EZ k x.c=true:=RP k x none
theorem OI{x:Regex}(h:F8 x.c):x.args.length<=9223372036854775807:=by
 have h1:(AV.sl none (Iu x.args)).fit:=Ej.1 h _ (AB (i:=2) rfl)
 have h2:=h1.1
 rwa [VN] at h2
theorem X8{x:Regex}{B:Nat}(h:DT x.c<=B):x.node.size<=B:=Fs (AB (i:=1) rfl) h
theorem PR{x:Regex}{B:Nat}(h:DT x.c<=B):DT (Iu x.args)<=B:=Fd (o:=none) (AB (i:=2) rfl) h
theorem bt(x:Regex)(o0:Option Nat):(x.cf o0)[0]? =some (.int .i64 x.kind)/\(x.cf o0)[1]? =some (.str x.node)/\(x.cf o0)[2]? =some (.sl o0 (Iu x.args)):=⟨rfl,rfl,rfl⟩
def Regex.z:Regex:=⟨0,.empty,[]⟩
theorem Regex.zero:EW AA 248=some (.agg (Regex.z.cf (some 3))):=kr
mutual
def Regex.ok:Regex->Prop
 | ⟨v0,v1,v2⟩=>(IntKind.i64.min<=v0/\v0<=IntKind.i64.max)/\(v1.size<=reachBytes)/\(v2.length*48<=reachBytes/\MJ v2)
def MJ:List Regex->Prop
 | []=>True
 | x::l=>Regex.ok x/\MJ l
end
theorem X6(l:List Regex):MJ l ↔ ∀ x∈l,x.ok:=by
 induction l with
 | nil=>simp [MJ]
 | cons x l ih=>simp [MJ,ih]
def Yp(l:List Regex):Prop:=l.length*48<=reachBytes /\ ∀ x∈l,x.ok
theorem bn(x:Regex):x.ok↔(IntKind.i64.min<=x.kind/\x.kind<=IntKind.i64.max)/\(x.node.size<=reachBytes)/\(Yp x.args):=by
 cases x
 simp only [Regex.ok,Yp,X6]
theorem ZP : ∀ (n:Nat) {a:AV},SizeOf.sizeOf a<=n->Rd AA 248 a -> ∃ x:Regex,a = .agg x.c/\x.ok
 | 0,a,hn,h=>by cases a<;>simp at hn
 | n+1,a,hn,h=>by
  obtain ⟨ps,rfl,hp⟩:=E3 (ts:=[3,9,246]) kr h
  obtain ⟨a0,a1,a2,rfl,g0,g1,g2⟩:=Hr hp
  obtain ⟨v0,rfl,k0⟩:=KG g0
  obtain ⟨v1,rfl,k1⟩:=lT g1
  obtain ⟨es,rfl,hb,he⟩:=OJ (e:=248) kr g2
  obtain ⟨v2,rfl,hok⟩:=Z1 (f:=λx:Regex => .agg x.c) (ok:=Regex.ok) λx hx=>ZP n (by
   have h1:=DD hx
   have h2:=BR (Zd (o:=none) (es:=es) (by simp [F4,AV.cells])) hn
   omega) (he x hx)
  rw [Aq,show Tryz.prog.bytesOf 248=48 by kernel_rfl] at hb
  refine ⟨⟨v0,v1,v2⟩, ?_,(bn _).2 ⟨k0,k1,⟨hb,hok⟩⟩⟩
  rw [<- Ly];rfl
theorem Regex.rd{a:AV}(h:Rd AA 248 a): ∃ x:Regex,a = .agg x.c/\x.ok:=ZP _ (AU _) h
def Fq(l:List ByteArray):List AV:=l.map λx => .str x
theorem Kw(l:List ByteArray):(Fq l).length=l.length:=by simp [Fq]
theorem Ei{l:List ByteArray}{i:Nat}{x:ByteArray}(h:l[i]? =some x):(Fq l)[i]? =some (.str x):=by simp [Fq,h]
theorem y6{l:List ByteArray}{x:ByteArray}(h:x∈l): .str x∈Fq l:=by rw [Fq];exact AO.2 ⟨x,h,rfl⟩
theorem mR(l:List ByteArray): ∀ x∈Fq l,x.cells.length=1:=by
 intro x hx;obtain ⟨y,_,rfl⟩:=AO.1 hx;rfl
theorem fE(l:List ByteArray):(∀ x∈Fq l,x.cells.length=1)=True:=eq_true (mR l)
theorem y5:Fq []=[]:=rfl
theorem mP(l:List ByteArray)(k:Nat):(Fq l).take k=Fq (l.take k):=by simp [Fq]
theorem tq(a:List ByteArray)(x:ByteArray):Fq a++[.str x]=Fq (a++[x]):=by simp [Fq]
theorem Oa(l:List ByteArray):DY (Fq l)=true:=by
 induction l with
 | nil=>rfl
 | cons x xs ih=>simpa [Fq,DY,AV.pure] using ih
theorem Qd(k:Nat)(l:List ByteArray):EZ k (Fq l)=true:=GQ λx=>rfl
theorem ADD{l:List ByteArray}{B:Nat}(h:DT (Fq l)<=B){x:ByteArray}(hx:x∈l):(.str x:AV).bulk<=B:=AK (Eg (y6 hx)) h
theorem UN{l:List ByteArray}{B:Nat}(h:DT (Fq l)<=B):l.length<=B:=by
 refine AK ?_ h
 exact Fy (f:=λ(x:ByteArray) => .str x) (λx=>by simp [AV.bulk]) l
def rG(l:List ByteArray):Prop:=l.length*16<=reachBytes /\ ∀ x∈l,x.size<=reachBytes
theorem mQ{a:AV}(h:Rd AA 106 a): ∃ l,a = .sl none (Fq l)/\rG l:=by
 obtain ⟨l,h1,h2,h3⟩:=HA (f:=λ(x:ByteArray) => .str x) (ok:=λ(x:ByteArray)=>x.size<=reachBytes) (P:=AA) (t:=106) (e:=9) kr (λx hx=>lT hx) h
 exact ⟨l,h1,by rw [show Tryz.prog.bytesOf 9=16 by kernel_rfl] at h2;exact h2,h3⟩
@[ext] structure Stp where
 kind:Int
 var:ByteArray
 key:List ByteArray
 field:ByteArray
 n:Int
 m:Int
 deriving DecidableEq,Inhabited
def Stp.cf(x:Stp)(o0:Option Nat):List AV:=[.int .i64 x.kind,.str x.var,.sl o0 (Fq x.key),.str x.field,.int .i64 x.n,.int .i64 x.m]
abbrev Stp.c(x:Stp):List AV:=x.cf none
theorem qI(x:Stp)(o0:Option Nat):(x.cf o0).length=6:=rfl
theorem qJ(x:Stp)(o0:Option Nat):(x.cf o0).map borrow1=x.cf none:=rfl
theorem qH(x:Stp)(o0:Option Nat):(x.cf o0).any Ew=(o0.isSome):=by
 cases o0<;>rfl
theorem jc(x:Stp)(o0:Option Nat):(x.cf o0).take 6=x.cf o0:=rfl
theorem Stp.cf_pure(x:Stp)(o0:Option Nat):DY (x.cf o0)=true:=by
 simp [Stp.cf,DY,AV.pure,Oa]
theorem Wa(k:Nat)(x:Stp)(o0:Option Nat):EZ k (x.cf o0)=true:=by
 simp [Stp.cf,EZ,AV.bnd,Qd]
theorem Stp.c_bnd(k:Nat)(x:Stp):EZ k x.c=true:=Wa k x none
theorem jb{x:Stp}(h:F8 x.c):x.key.length<=9223372036854775807:=by
 have h1:(AV.sl none (Fq x.key)).fit:=Ej.1 h _ (AB (i:=2) rfl)
 have h2:=h1.1
 rwa [Kw] at h2
theorem qL{x:Stp}{B:Nat}(h:DT x.c<=B):x.var.size<=B:=Fs (AB (i:=1) rfl) h
theorem K8{x:Stp}{B:Nat}(h:DT x.c<=B):DT (Fq x.key)<=B:=Fd (o:=none) (AB (i:=2) rfl) h
theorem bR{x:Stp}{B:Nat}(h:DT x.c<=B):x.field.size<=B:=Fs (AB (i:=3) rfl) h
theorem qK(x:Stp)(o0:Option Nat):(x.cf o0)[0]? =some (.int .i64 x.kind)/\(x.cf o0)[1]? =some (.str x.var)/\(x.cf o0)[2]? =some (.sl o0 (Fq x.key))/\(x.cf o0)[3]? =some (.str x.field)/\(x.cf o0)[4]? =some (.int .i64 x.n)/\(x.cf o0)[5]? =some (.int .i64 x.m):=⟨rfl,rfl,rfl,rfl,rfl,rfl⟩
def Stp.z:Stp:=⟨0,.empty,[],.empty,0,0⟩
theorem Stp.zero:EW AA 108=some (.agg (Stp.z.cf (some 1))):=kr
def Stp.ok(x:Stp):Prop:=(IntKind.i64.min<=x.kind/\x.kind<=IntKind.i64.max)/\(x.var.size<=reachBytes)/\(rG x.key)/\(x.field.size<=reachBytes)/\(IntKind.i64.min<=x.n/\x.n<=IntKind.i64.max)/\(IntKind.i64.min<=x.m/\x.m<=IntKind.i64.max)
theorem Stp.rd{a:AV}(h:Rd AA 108 a): ∃ x:Stp,a = .agg x.c/\x.ok:=by
 obtain ⟨ps,rfl,hp⟩:=E3 (ts:=[3,9,106,9,3,3]) kr h
 obtain ⟨a0,a1,a2,a3,a4,a5,rfl,g0,g1,g2,g3,g4,g5⟩:=RQ hp
 obtain ⟨v0,rfl,k0⟩:=KG g0
 obtain ⟨v1,rfl,k1⟩:=lT g1
 obtain ⟨v2,rfl,k2⟩:=mQ g2
 obtain ⟨v3,rfl,k3⟩:=lT g3
 obtain ⟨v4,rfl,k4⟩:=KG g4
 obtain ⟨v5,rfl,k5⟩:=KG g5
 exact ⟨⟨v0,v1,v2,v3,v4,v5⟩,rfl,⟨k0,k1,k2,k3,k4,k5⟩⟩
@[ext] structure Stage where
 policy:Policy
 step:Stp
 deriving Inhabited
def Stage.cf(x:Stage)(o0 o1 o2:Option Nat):List AV:=[.int .i64 x.policy.kind,.int .i64 x.policy.pred.kind,.str x.policy.pred.field,.int .i64 x.policy.pred.n,.int .i64 x.policy.pred.m,.sl o0 (Ez x.policy.pred.args),.str x.policy.field,.int .i64 x.policy.n,.sl o1 (Em x.policy.args),.int .i64 x.step.kind,.str x.step.var,.sl o2 (Fq x.step.key),.str x.step.field,.int .i64 x.step.n,.int .i64 x.step.m]
abbrev Stage.c(x:Stage):List AV:=x.cf none none none
theorem wH(x:Stage):1<=DT x.c:=by
 have h1:1<=(.int .i64 x.policy.kind:AV).bulk:=by simp [AV.bulk]
 exact AK h1 (Eg (AB (i:=0) rfl))
theorem bT(x:Stage)(o0 o1 o2:Option Nat):(x.cf o0 o1 o2).length=15:=rfl
theorem bU(x:Stage)(o0 o1 o2:Option Nat):(x.cf o0 o1 o2).map borrow1=x.cf none none none:=rfl
theorem bS(x:Stage)(o0 o1 o2:Option Nat):(x.cf o0 o1 o2).any Ew=(o0.isSome||o1.isSome||o2.isSome):=by
 cases o0<;>cases o1<;>cases o2<;>rfl
theorem Xw(x:Stage)(o0 o1 o2:Option Nat):(x.cf o0 o1 o2).take 15=x.cf o0 o1 o2:=rfl
theorem Stage.cf_pure(x:Stage)(o0 o1 o2:Option Nat):DY (x.cf o0 o1 o2)=true:=by
 simp [Stage.cf,DY,AV.pure,Mg,IX,Oa]
theorem bW(x:Stage):DY x.c=true:=x.cf_pure none none none
theorem RK(k:Nat)(x:Stage)(o0 o1 o2:Option Nat):EZ k (x.cf o0 o1 o2)=true:=by
 simp [Stage.cf,EZ,AV.bnd,Nl,JW,Qd]
theorem Stage.c_bnd(k:Nat)(x:Stage):EZ k x.c=true:=RK k x none none none
theorem GW{x:Stage}{B:Nat}(h:DT x.c<=B):DT x.policy.c<=B:=by
 have h1:=GF x.c 0 9
 rw [show (x.c.drop 0).take 9=x.policy.c from rfl] at h1
 omega
theorem Ju{x:Stage}{B:Nat}(h:DT x.c<=B):DT x.step.c<=B:=by
 have h1:=GF x.c 9 6
 rw [show (x.c.drop 9).take 6=x.step.c from rfl] at h1
 omega
theorem bV(x:Stage)(o0 o1 o2:Option Nat):(x.cf o0 o1 o2)[9]? =some (.int .i64 x.step.kind)/\(x.cf o0 o1 o2)[10]? =some (.str x.step.var)/\(x.cf o0 o1 o2)[11]? =some (.sl o2 (Fq x.step.key)):=⟨rfl,rfl,rfl⟩
theorem OH(x:Stage)(o0 o1 o2:Option Nat):(x.cf o0 o1 o2).take 9=x.policy.cf o0 o1:=rfl
theorem OG(x:Stage)(v:Policy)(o0 o1 o2:Option Nat)(p0 p1:Option Nat):GT (x.cf o0 o1 o2) (v.cf p0 p1)=({ x with policy:=v }:Stage).cf p0 p1 o2:=rfl
theorem P7(x:Stage)(o0 o1 o2:Option Nat):((x.cf o0 o1 o2).drop 9).take 6=x.step.cf o2:=rfl
theorem RJ(x:Stage)(v:Stp)(o0 o1 o2:Option Nat)(p0:Option Nat):splice (x.cf o0 o1 o2) 9 (v.cf p0)=({ x with step:=v }:Stage).cf o0 o1 p0:=rfl
def Stage.z:Stage:=⟨⟨0,⟨0,.empty,0,0,[]⟩,.empty,0,[]⟩,⟨0,.empty,[],.empty,0,0⟩⟩
theorem Stage.zero:EW AA 110=some (.agg (Stage.z.cf (some 5) (some 9) (some 1))):=kr
def Stage.ok(x:Stage):Prop:=(x.policy.ok)/\(x.step.ok)
theorem Stage.rd{a:AV}(h:Rd AA 110 a): ∃ x:Stage,a = .agg x.c/\x.ok:=by
 obtain ⟨ps,rfl,hp⟩:=E3 (ts:=[105,108]) kr h
 obtain ⟨a0,a1,rfl,g0,g1⟩:=Ge hp
 obtain ⟨v0,rfl,k0⟩:=Policy.rd g0
 obtain ⟨v1,rfl,k1⟩:=Stp.rd g1
 exact ⟨⟨v0,v1⟩,rfl,⟨k0,k1⟩⟩
@[ext] structure Route where
 pred:Pred
 path:Regex
 deriving Inhabited
def Route.cf(x:Route)(o0 o1:Option Nat):List AV:=[.int .i64 x.pred.kind,.str x.pred.field,.int .i64 x.pred.n,.int .i64 x.pred.m,.sl o0 (Ez x.pred.args),.int .i64 x.path.kind,.str x.path.node,.sl o1 (Iu x.path.args)]
abbrev Route.c(x:Route):List AV:=x.cf none none
theorem wI(x:Route):1<=DT x.c:=by
 have h1:1<=(.int .i64 x.pred.kind:AV).bulk:=by simp [AV.bulk]
 exact AK h1 (Eg (AB (i:=0) rfl))
theorem bi(x:Route)(o0 o1:Option Nat):(x.cf o0 o1).length=8:=rfl
theorem bj(x:Route)(o0 o1:Option Nat):(x.cf o0 o1).map borrow1=x.cf none none:=rfl
theorem bg(x:Route)(o0 o1:Option Nat):(x.cf o0 o1).any Ew=(o0.isSome||o1.isSome):=by
 cases o0<;>cases o1<;>rfl
theorem Route.cf_pure(x:Route)(o0 o1:Option Nat):DY (x.cf o0 o1)=true:=by
 simp [Route.cf,DY,AV.pure,IX,Nk]
theorem bk(x:Route):DY x.c=true:=x.cf_pure none none
theorem RO(k:Nat)(x:Route)(o0 o1:Option Nat):EZ k (x.cf o0 o1)=true:=by
 simp [Route.cf,EZ,AV.bnd,JW,Pm]
theorem Route.c_bnd(k:Nat)(x:Route):EZ k x.c=true:=RO k x none none
theorem Xz{x:Route}{B:Nat}(h:DT x.c<=B):DT x.pred.c<=B:=by
 have h1:=GF x.c 0 5
 rw [show (x.c.drop 0).take 5=x.pred.c from rfl] at h1
 omega
theorem X5{x:Route}{B:Nat}(h:DT x.c<=B):DT x.path.c<=B:=by
 have h1:=GF x.c 5 3
 rw [show (x.c.drop 5).take 3=x.path.c from rfl] at h1
 omega
theorem P9(x:Route)(o0 o1:Option Nat):(x.cf o0 o1).take 5=x.pred.cf o0:=rfl
theorem QA(x:Route)(o0 o1:Option Nat):((x.cf o0 o1).drop 5).take 3=x.path.cf o1:=rfl
def Route.z:Route:=⟨⟨0,.empty,0,0,[]⟩,⟨0,.empty,[]⟩⟩
def Route.ok(x:Route):Prop:=(x.pred.ok)/\(x.path.ok)
theorem Route.rd{a:AV}(h:Rd AA 250 a): ∃ x:Route,a = .agg x.c/\x.ok:=by
 obtain ⟨ps,rfl,hp⟩:=E3 (ts:=[74,248]) kr h
 obtain ⟨a0,a1,rfl,g0,g1⟩:=Ge hp
 obtain ⟨v0,rfl,k0⟩:=Pred.rd g0
 obtain ⟨v1,rfl,k1⟩:=Regex.rd g1
 exact ⟨⟨v0,v1⟩,rfl,⟨k0,k1⟩⟩
@[ext] structure Demand where
 src:Int
 dst:Int
 floor:Int
 ceiling:Int
 deriving DecidableEq,Inhabited
def Demand.c(x:Demand):List AV:=[.int .i64 x.src,.int .i64 x.dst,.int .i64 x.floor,.int .i64 x.ceiling]
theorem qe(x:Demand):1<=DT x.c:=by
 have h1:1<=(.int .i64 x.src:AV).bulk:=by simp [AV.bulk]
 exact AK h1 (Eg (AB (i:=0) rfl))
theorem YI(x:Demand):x.c.length=4:=rfl
theorem YJ(x:Demand):x.c.map borrow1=x.c:=rfl
theorem YH(x:Demand):x.c.any Ew=false:=by
 rfl
theorem Wp(x:Demand):x.c.take 4=x.c:=rfl
theorem Demand.cf_pure(x:Demand):DY x.c=true:=by
 simp [Demand.c,DY,AV.pure]
theorem YL(x:Demand):DY x.c=true:=x.cf_pure
theorem PU(k:Nat)(x:Demand):EZ k x.c=true:=by
 simp [Demand.c,EZ,AV.bnd]
theorem Demand.c_bnd(k:Nat)(x:Demand):EZ k x.c=true:=PU k x
theorem YK(x:Demand):x.c[0]? =some (.int .i64 x.src)/\x.c[1]? =some (.int .i64 x.dst)/\x.c[2]? =some (.int .i64 x.floor)/\x.c[3]? =some (.int .i64 x.ceiling):=⟨rfl,rfl,rfl,rfl⟩
def Demand.z:Demand:=⟨0,0,0,0⟩
theorem Demand.zero:EW AA 280=some (.agg Demand.z.c):=kr
def Demand.ok(x:Demand):Prop:=(IntKind.i64.min<=x.src/\x.src<=IntKind.i64.max)/\(IntKind.i64.min<=x.dst/\x.dst<=IntKind.i64.max)/\(IntKind.i64.min<=x.floor/\x.floor<=IntKind.i64.max)/\(IntKind.i64.min<=x.ceiling/\x.ceiling<=IntKind.i64.max)
theorem Demand.rd{a:AV}(h:Rd AA 280 a): ∃ x:Demand,a = .agg x.c/\x.ok:=by
 obtain ⟨ps,rfl,hp⟩:=E3 (ts:=[3,3,3,3]) kr h
 obtain ⟨a0,a1,a2,a3,rfl,g0,g1,g2,g3⟩:=Kf hp
 obtain ⟨v0,rfl,k0⟩:=KG g0
 obtain ⟨v1,rfl,k1⟩:=KG g1
 obtain ⟨v2,rfl,k2⟩:=KG g2
 obtain ⟨v3,rfl,k3⟩:=KG g3
 exact ⟨⟨v0,v1,v2,v3⟩,rfl,⟨k0,k1,k2,k3⟩⟩
theorem Demand.eq(x y:Demand):JE AA 280 (.agg x.c) (.agg y.c)=some (decide (x=y)):=by
 have e:JE AA 280 (.agg x.c) (.agg y.c)=some ((x.src==y.src)&&((x.dst==y.dst)&&((x.floor==y.floor)&&((x.ceiling==y.ceiling)&&true)))):=kr
 rw [e,Option.some.injEq,BA]
 simp [Demand.ext_iff]
def JG(l:List Port):List AV:=l.map λx => .agg x.c
theorem Yq(l:List Port):(JG l).length=l.length:=by simp [JG]
theorem FD{l:List Port}{i:Nat}{x:Port}(h:l[i]? =some x):(JG l)[i]? =some (.agg x.c):=by simp [JG,h]
theorem uC{l:List Port}{x:Port}(h:x∈l): .agg x.c∈JG l:=by rw [JG];exact AO.2 ⟨x,h,rfl⟩
theorem VQ(l:List Port):DY (JG l)=true:=by
 induction l with
 | nil=>rfl
 | cons x xs ih=>simpa [JG,DY,AV.pure] using ⟨js x,ih⟩
theorem Yr(k:Nat)(l:List Port):EZ k (JG l)=true:=GQ λx=>Port.c_bnd k x
theorem zA{l:List Port}{B:Nat}(h:DT (JG l)<=B){x:Port}(hx:x∈l):(.agg x.c:AV).bulk<=B:=AK (Eg (uC hx)) h
theorem fQ{l:List Port}{B:Nat}(h:DT (JG l)<=B):l.length<=B:=by
 refine AK ?_ h
 exact Fy (f:=λ(x:Port) => .agg x.c) (λx=>by exact ABk x) l
def fP(l:List Port):Prop:=l.length*24<=reachBytes /\ ∀ x∈l,x.ok
theorem mV{a:AV}(h:Rd AA 47 a): ∃ l,a = .sl none (JG l)/\fP l:=by
 obtain ⟨l,h1,h2,h3⟩:=HA (f:=λ(x:Port) => .agg x.c) (ok:=λ(x:Port)=>x.ok) (P:=AA) (t:=47) (e:=130) kr (λx hx=>Port.rd hx) h
 exact ⟨l,h1,by rw [show Tryz.prog.bytesOf 130=24 by kernel_rfl] at h2;exact h2,h3⟩
def LL(l:List Wire):List AV:=l.map λx => .agg x.c
theorem tl(l:List Wire):(LL l).length=l.length:=by simp [LL]
theorem FZ{l:List Wire}{i:Nat}{x:Wire}(h:l[i]? =some x):(LL l)[i]? =some (.agg x.c):=by simp [LL,h]
theorem VG(l:List Wire):DY (LL l)=true:=by
 induction l with
 | nil=>rfl
 | cons x xs ih=>simpa [LL,DY,AV.pure] using ⟨jZ x,ih⟩
theorem Ym(k:Nat)(l:List Wire):EZ k (LL l)=true:=GQ λx=>Wire.c_bnd k x
theorem Nj{l:List Wire}{B:Nat}(h:DT (LL l)<=B):l.length<=B:=by
 refine AK ?_ h
 exact Fy (f:=λ(x:Wire) => .agg x.c) (λx=>by exact ABe x) l
def fB(l:List Wire):Prop:=l.length*16<=reachBytes /\ ∀ x∈l,x.ok
theorem mM{a:AV}(h:Rd AA 48 a): ∃ l,a = .sl none (LL l)/\fB l:=by
 obtain ⟨l,h1,h2,h3⟩:=HA (f:=λ(x:Wire) => .agg x.c) (ok:=λ(x:Wire)=>x.ok) (P:=AA) (t:=48) (e:=210) kr (λx hx=>Wire.rd hx) h
 exact ⟨l,h1,by rw [show Tryz.prog.bytesOf 210=16 by kernel_rfl] at h2;exact h2,h3⟩
def Es(l:List Stage):List AV:=l.map λx => .agg x.c
theorem Mf(l:List Stage):(Es l).length=l.length:=by simp [Es]
theorem EU{l:List Stage}{i:Nat}{x:Stage}(h:l[i]? =some x):(Es l)[i]? =some (.agg x.c):=by simp [Es,h]
theorem mS{l:List Stage}{x:Stage}(h:x∈l): .agg x.c∈Es l:=by rw [Es];exact AO.2 ⟨x,h,rfl⟩
theorem Z7(l:List Stage): ∀ x∈Es l,x.cells.length=15:=by
 intro x hx;obtain ⟨y,_,rfl⟩:=AO.1 hx;rfl
theorem XL(l:List Stage):(∀ x∈Es l,x.cells.length=15)=True:=eq_true (Z7 l)
theorem mT(a b:List Stage):Es a++Es b=Es (a++b):=by simp [Es]
theorem S4(l:List Stage):DY (Es l)=true:=by
 induction l with
 | nil=>rfl
 | cons x xs ih=>simpa [Es,DY,AV.pure] using ⟨bW x,ih⟩
theorem VJ(k:Nat)(l:List Stage):EZ k (Es l)=true:=GQ λx=>Stage.c_bnd k x
theorem JU{l:List Stage}{B:Nat}(h:DT (Es l)<=B){x:Stage}(hx:x∈l):(.agg x.c:AV).bulk<=B:=AK (Eg (mS hx)) h
theorem Lx{l:List Stage}{B:Nat}(h:DT (Es l)<=B):l.length<=B:=by
 refine AK ?_ h
 exact Fy (f:=λ(x:Stage) => .agg x.c) (λx=>by exact wH x) l
def Yn(l:List Stage):Prop:=l.length*200<=reachBytes /\ ∀ x∈l,x.ok
theorem fF{a:AV}(h:Rd AA 50 a): ∃ l,a = .sl none (Es l)/\Yn l:=by
 obtain ⟨l,h1,h2,h3⟩:=HA (f:=λ(x:Stage) => .agg x.c) (ok:=λ(x:Stage)=>x.ok) (P:=AA) (t:=50) (e:=110) kr (λx hx=>Stage.rd hx) h
 exact ⟨l,h1,by rw [show Tryz.prog.bytesOf 110=200 by kernel_rfl] at h2;exact h2,h3⟩
def Hy(l:List Route):List AV:=l.map λx => .agg x.c
theorem VK(l:List Route):(Hy l).length=l.length:=by simp [Hy]
theorem JV{l:List Route}{i:Nat}{x:Route}(h:l[i]? =some x):(Hy l)[i]? =some (.agg x.c):=by simp [Hy,h]
theorem mU{l:List Route}{x:Route}(h:x∈l): .agg x.c∈Hy l:=by rw [Hy];exact AO.2 ⟨x,h,rfl⟩
theorem S5(l:List Route):DY (Hy l)=true:=by
 induction l with
 | nil=>rfl
 | cons x xs ih=>simpa [Hy,DY,AV.pure] using ⟨bk x,ih⟩
theorem VL(k:Nat)(l:List Route):EZ k (Hy l)=true:=GQ λx=>Route.c_bnd k x
theorem tw{l:List Route}{B:Nat}(h:DT (Hy l)<=B){x:Route}(hx:x∈l):(.agg x.c:AV).bulk<=B:=AK (Eg (mU hx)) h
theorem tt{l:List Route}{B:Nat}(h:DT (Hy l)<=B):l.length<=B:=by
 refine AK ?_ h
 exact Fy (f:=λ(x:Route) => .agg x.c) (λx=>by exact wI x) l
def Yo(l:List Route):Prop:=l.length*112<=reachBytes /\ ∀ x∈l,x.ok
theorem fH{a:AV}(h:Rd AA 51 a): ∃ l,a = .sl none (Hy l)/\Yo l:=by
 obtain ⟨l,h1,h2,h3⟩:=HA (f:=λ(x:Route) => .agg x.c) (ok:=λ(x:Route)=>x.ok) (P:=AA) (t:=51) (e:=250) kr (λx hx=>Route.rd hx) h
 exact ⟨l,h1,by rw [show Tryz.prog.bytesOf 250=112 by kernel_rfl] at h2;exact h2,h3⟩
def IN(l:List Demand):List AV:=l.map λx => .agg x.c
theorem ff(l:List Demand):(IN l).length=l.length:=by simp [IN]
theorem HW{l:List Demand}{i:Nat}{x:Demand}(h:l[i]? =some x):(IN l)[i]? =some (.agg x.c):=by simp [IN,h]
theorem Qg(l:List Demand):DY (IN l)=true:=by
 induction l with
 | nil=>rfl
 | cons x xs ih=>simpa [IN,DY,AV.pure] using ⟨YL x,ih⟩
theorem S9(k:Nat)(l:List Demand):EZ k (IN l)=true:=GQ λx=>Demand.c_bnd k x
theorem me{l:List Demand}{B:Nat}(h:DT (IN l)<=B):l.length<=B:=by
 refine AK ?_ h
 exact Fy (f:=λ(x:Demand) => .agg x.c) (λx=>by exact qe x) l
def VY(l:List Demand):Prop:=l.length*32<=reachBytes /\ ∀ x∈l,x.ok
theorem aE{a:AV}(h:Rd AA 52 a): ∃ l,a = .sl none (IN l)/\VY l:=by
 obtain ⟨l,h1,h2,h3⟩:=HA (f:=λ(x:Demand) => .agg x.c) (ok:=λ(x:Demand)=>x.ok) (P:=AA) (t:=52) (e:=280) kr (λx hx=>Demand.rd hx) h
 exact ⟨l,h1,by rw [show Tryz.prog.bytesOf 280=32 by kernel_rfl] at h2;exact h2,h3⟩
@[ext] structure Tenant where
 name:ByteArray
 ports:List Port
 wires:List Wire
 program:List Stage
 routes:List Route
 demands:List Demand
 deriving Inhabited
def Tenant.cf(x:Tenant)(o0 o1 o2 o3 o4:Option Nat):List AV:=[.str x.name,.sl o0 (JG x.ports),.sl o1 (LL x.wires),.sl o2 (Es x.program),.sl o3 (Hy x.routes),.sl o4 (IN x.demands)]
abbrev Tenant.c(x:Tenant):List AV:=x.cf none none none none none
theorem qG(x:Tenant):1<=DT x.c:=by
 have h1:1<=(.str x.name:AV).bulk:=by simp [AV.bulk]
 exact AK h1 (Eg (AB (i:=0) rfl))
theorem Xs(x:Tenant)(o0 o1 o2 o3 o4:Option Nat):(x.cf o0 o1 o2 o3 o4).length=6:=rfl
theorem Xt(x:Tenant)(o0 o1 o2 o3 o4:Option Nat):(x.cf o0 o1 o2 o3 o4).map borrow1=x.cf none none none none none:=rfl
theorem Xr(x:Tenant)(o0 o1 o2 o3 o4:Option Nat):(x.cf o0 o1 o2 o3 o4).any Ew=(o0.isSome||o1.isSome||o2.isSome||o3.isSome||o4.isSome):=by
 cases o0<;>cases o1<;>cases o2<;>cases o3<;>cases o4<;>rfl
theorem WY(x:Tenant)(o0 o1 o2 o3 o4:Option Nat):(x.cf o0 o1 o2 o3 o4).take 6=x.cf o0 o1 o2 o3 o4:=rfl
theorem Tenant.cf_pure(x:Tenant)(o0 o1 o2 o3 o4:Option Nat):DY (x.cf o0 o1 o2 o3 o4)=true:=by
 simp [Tenant.cf,DY,AV.pure,Qg,VQ,S5,S4,VG]
theorem Xv(x:Tenant):DY x.c=true:=x.cf_pure none none none none none
theorem PQ(k:Nat)(x:Tenant)(o0 o1 o2 o3 o4:Option Nat):EZ k (x.cf o0 o1 o2 o3 o4)=true:=by
 simp [Tenant.cf,EZ,AV.bnd,S9,Yr,VL,VJ,Ym]
theorem Tenant.c_bnd(k:Nat)(x:Tenant):EZ k x.c=true:=PQ k x none none none none none
theorem MG{x:Tenant}(h:F8 x.c):x.ports.length<=9223372036854775807:=by
 have h1:(AV.sl none (JG x.ports)).fit:=Ej.1 h _ (AB (i:=1) rfl)
 have h2:=h1.1
 rwa [Yq] at h2
theorem P6{x:Tenant}(h:F8 x.c):x.program.length<=9223372036854775807:=by
 have h1:(AV.sl none (Es x.program)).fit:=Ej.1 h _ (AB (i:=3) rfl)
 have h2:=h1.1
 rwa [Mf] at h2
theorem RH{x:Tenant}(h:F8 x.c):x.routes.length<=9223372036854775807:=by
 have h1:(AV.sl none (Hy x.routes)).fit:=Ej.1 h _ (AB (i:=4) rfl)
 have h2:=h1.1
 rwa [VK] at h2
theorem WZ{x:Tenant}{B:Nat}(h:DT x.c<=B):x.name.size<=B:=Fs (AB (i:=0) rfl) h
theorem NB{x:Tenant}{B:Nat}(h:DT x.c<=B):DT (JG x.ports)<=B:=Fd (o:=none) (AB (i:=1) rfl) h
theorem HL{x:Tenant}{B:Nat}(h:DT x.c<=B):DT (LL x.wires)<=B:=Fd (o:=none) (AB (i:=2) rfl) h
theorem GC{x:Tenant}{B:Nat}(h:DT x.c<=B):DT (Es x.program)<=B:=Fd (o:=none) (AB (i:=3) rfl) h
theorem Sf{x:Tenant}{B:Nat}(h:DT x.c<=B):DT (Hy x.routes)<=B:=Fd (o:=none) (AB (i:=4) rfl) h
theorem RI{x:Tenant}{B:Nat}(h:DT x.c<=B):DT (IN x.demands)<=B:=Fd (o:=none) (AB (i:=5) rfl) h
theorem Xu(x:Tenant)(o0 o1 o2 o3 o4:Option Nat):(x.cf o0 o1 o2 o3 o4)[0]? =some (.str x.name)/\(x.cf o0 o1 o2 o3 o4)[1]? =some (.sl o0 (JG x.ports))/\(x.cf o0 o1 o2 o3 o4)[2]? =some (.sl o1 (LL x.wires))/\(x.cf o0 o1 o2 o3 o4)[3]? =some (.sl o2 (Es x.program))/\(x.cf o0 o1 o2 o3 o4)[4]? =some (.sl o3 (Hy x.routes))/\(x.cf o0 o1 o2 o3 o4)[5]? =some (.sl o4 (IN x.demands)):=⟨rfl,rfl,rfl,rfl,rfl,rfl⟩
def Tenant.z:Tenant:=⟨.empty,[],[],[],[],[]⟩
theorem Tenant.zero:EW AA 54=some (.agg (Tenant.z.cf (some 2) (some 2) (some 15) (some 8) (some 4))):=kr
def Tenant.ok(x:Tenant):Prop:=(x.name.size<=reachBytes)/\(fP x.ports)/\(fB x.wires)/\(Yn x.program)/\(Yo x.routes)/\(VY x.demands)
theorem Tenant.rd{a:AV}(h:Rd AA 54 a): ∃ x:Tenant,a = .agg x.c/\x.ok:=by
 obtain ⟨ps,rfl,hp⟩:=E3 (ts:=[9,47,48,50,51,52]) kr h
 obtain ⟨a0,a1,a2,a3,a4,a5,rfl,g0,g1,g2,g3,g4,g5⟩:=RQ hp
 obtain ⟨v0,rfl,k0⟩:=lT g0
 obtain ⟨v1,rfl,k1⟩:=mV g1
 obtain ⟨v2,rfl,k2⟩:=mM g2
 obtain ⟨v3,rfl,k3⟩:=fF g3
 obtain ⟨v4,rfl,k4⟩:=fH g4
 obtain ⟨v5,rfl,k5⟩:=aE g5
 exact ⟨⟨v0,v1,v2,v3,v4,v5⟩,rfl,⟨k0,k1,k2,k3,k4,k5⟩⟩
@[ext] structure Node where
 name:ByteArray
 box:Bool
 rules:Int
 entries:Int
 deriving DecidableEq,Inhabited
def Node.c(x:Node):List AV:=[.str x.name,.bool x.box,.int .i64 x.rules,.int .i64 x.entries]
theorem ABn(x:Node):1<=DT x.c:=by
 have h1:1<=(.str x.name:AV).bulk:=by simp [AV.bulk]
 exact AK h1 (Eg (AB (i:=0) rfl))
theorem jy(x:Node):x.c.length=4:=rfl
theorem jz(x:Node):x.c.map borrow1=x.c:=rfl
theorem jx(x:Node):x.c.any Ew=false:=by
 rfl
theorem b8(x:Node):x.c.take 4=x.c:=rfl
theorem Node.cf_pure(x:Node):DY x.c=true:=by
 simp [Node.c,DY,AV.pure]
theorem kA(x:Node):DY x.c=true:=x.cf_pure
theorem TM(k:Nat)(x:Node):EZ k x.c=true:=by
 simp [Node.c,EZ,AV.bnd]
theorem Node.c_bnd(k:Nat)(x:Node):EZ k x.c=true:=TM k x
theorem b9{x:Node}{B:Nat}(h:DT x.c<=B):x.name.size<=B:=Fs (AB (i:=0) rfl) h
theorem j3(x:Node):x.c[0]? =some (.str x.name)/\x.c[1]? =some (.bool x.box)/\x.c[2]? =some (.int .i64 x.rules)/\x.c[3]? =some (.int .i64 x.entries):=⟨rfl,rfl,rfl,rfl⟩
def Node.z:Node:=⟨.empty,false,0,0⟩
theorem Node.zero:EW AA 128=some (.agg Node.z.c):=kr
def Node.ok(x:Node):Prop:=(x.name.size<=reachBytes)/\(True)/\(IntKind.i64.min<=x.rules/\x.rules<=IntKind.i64.max)/\(IntKind.i64.min<=x.entries/\x.entries<=IntKind.i64.max)
theorem Node.rd{a:AV}(h:Rd AA 128 a): ∃ x:Node,a = .agg x.c/\x.ok:=by
 obtain ⟨ps,rfl,hp⟩:=E3 (ts:=[9,4,3,3]) kr h
 obtain ⟨a0,a1,a2,a3,rfl,g0,g1,g2,g3⟩:=Kf hp
 obtain ⟨v0,rfl,k0⟩:=lT g0
 obtain ⟨v1,rfl,k1⟩:=Wb (t:=4) kr g1
 obtain ⟨v2,rfl,k2⟩:=KG g2
 obtain ⟨v3,rfl,k3⟩:=KG g3
 exact ⟨⟨v0,v1,v2,v3⟩,rfl,⟨k0,k1,k2,k3⟩⟩
theorem Node.eq(x y:Node):JE AA 128 (.agg x.c) (.agg y.c)=some (decide (x=y)):=by
 have e:JE AA 128 (.agg x.c) (.agg y.c)=some ((x.name.toList==y.name.toList)&&((x.box==y.box)&&((x.rules==y.rules)&&((x.entries==y.entries)&&true)))):=kr
 rw [e,Option.some.injEq,BA]
 simp [Node.ext_iff,ByteArray.toList_eq,Cp,ByteArray.ext_iff]
@[ext] structure Link where
 src:Int
 dst:Int
 capacity:Int
 deriving DecidableEq,Inhabited
def Link.c(x:Link):List AV:=[.int .i64 x.src,.int .i64 x.dst,.int .i64 x.capacity]
theorem ABq(x:Link):1<=DT x.c:=by
 have h1:1<=(.int .i64 x.src:AV).bulk:=by simp [AV.bulk]
 exact AK h1 (Eg (AB (i:=0) rfl))
theorem kC(x:Link):x.c.length=3:=rfl
theorem kD(x:Link):x.c.map borrow1=x.c:=rfl
theorem kB(x:Link):x.c.any Ew=false:=by
 rfl
theorem cA(x:Link):x.c.take 3=x.c:=rfl
theorem Link.cf_pure(x:Link):DY x.c=true:=by
 simp [Link.c,DY,AV.pure]
theorem kF(x:Link):DY x.c=true:=x.cf_pure
theorem TN(k:Nat)(x:Link):EZ k x.c=true:=by
 simp [Link.c,EZ,AV.bnd]
theorem Link.c_bnd(k:Nat)(x:Link):EZ k x.c=true:=TN k x
theorem kE(x:Link):x.c[0]? =some (.int .i64 x.src)/\x.c[1]? =some (.int .i64 x.dst)/\x.c[2]? =some (.int .i64 x.capacity):=⟨rfl,rfl,rfl⟩
def Link.z:Link:=⟨0,0,0⟩
theorem Link.zero:EW AA 191=some (.agg Link.z.c):=kr
def Link.ok(x:Link):Prop:=(IntKind.i64.min<=x.src/\x.src<=IntKind.i64.max)/\(IntKind.i64.min<=x.dst/\x.dst<=IntKind.i64.max)/\(IntKind.i64.min<=x.capacity/\x.capacity<=IntKind.i64.max)
theorem Link.rd{a:AV}(h:Rd AA 191 a): ∃ x:Link,a = .agg x.c/\x.ok:=by
 obtain ⟨ps,rfl,hp⟩:=E3 (ts:=[3,3,3]) kr h
 obtain ⟨a0,a1,a2,rfl,g0,g1,g2⟩:=Hr hp
 obtain ⟨v0,rfl,k0⟩:=KG g0
 obtain ⟨v1,rfl,k1⟩:=KG g1
 obtain ⟨v2,rfl,k2⟩:=KG g2
 exact ⟨⟨v0,v1,v2⟩,rfl,⟨k0,k1,k2⟩⟩
theorem Link.eq(x y:Link):JE AA 191 (.agg x.c) (.agg y.c)=some (decide (x=y)):=by
 have e:JE AA 191 (.agg x.c) (.agg y.c)=some ((x.src==y.src)&&((x.dst==y.dst)&&((x.capacity==y.capacity)&&true))):=kr
 rw [e,Option.some.injEq,BA]
 simp [Link.ext_iff]
@[ext] structure Edge where
 name:ByteArray
 node:Int
 deriving DecidableEq,Inhabited
def Edge.c(x:Edge):List AV:=[.str x.name,.int .i64 x.node]
theorem ABu(x:Edge):1<=DT x.c:=by
 have h1:1<=(.str x.name:AV).bulk:=by simp [AV.bulk]
 exact AK h1 (Eg (AB (i:=0) rfl))
theorem kT(x:Edge):x.c.length=2:=rfl
theorem kU(x:Edge):x.c.map borrow1=x.c:=rfl
theorem kS(x:Edge):x.c.any Ew=false:=by
 rfl
theorem Edge.cf_pure(x:Edge):DY x.c=true:=by
 simp [Edge.c,DY,AV.pure]
theorem kW(x:Edge):DY x.c=true:=x.cf_pure
theorem TQ(k:Nat)(x:Edge):EZ k x.c=true:=by
 simp [Edge.c,EZ,AV.bnd]
theorem Edge.c_bnd(k:Nat)(x:Edge):EZ k x.c=true:=TQ k x
theorem cJ{x:Edge}{B:Nat}(h:DT x.c<=B):x.name.size<=B:=Fs (AB (i:=0) rfl) h
theorem kV(x:Edge):x.c[0]? =some (.str x.name)/\x.c[1]? =some (.int .i64 x.node):=⟨rfl,rfl⟩
def Edge.z:Edge:=⟨.empty,0⟩
def Edge.ok(x:Edge):Prop:=(x.name.size<=reachBytes)/\(IntKind.i64.min<=x.node/\x.node<=IntKind.i64.max)
theorem Edge.rd{a:AV}(h:Rd AA 92 a): ∃ x:Edge,a = .agg x.c/\x.ok:=by
 obtain ⟨ps,rfl,hp⟩:=E3 (ts:=[9,3]) kr h
 obtain ⟨a0,a1,rfl,g0,g1⟩:=Ge hp
 obtain ⟨v0,rfl,k0⟩:=lT g0
 obtain ⟨v1,rfl,k1⟩:=KG g1
 exact ⟨⟨v0,v1⟩,rfl,⟨k0,k1⟩⟩
theorem Edge.eq(x y:Edge):JE AA 92 (.agg x.c) (.agg y.c)=some (decide (x=y)):=by
 have e:JE AA 92 (.agg x.c) (.agg y.c)=some ((x.name.toList==y.name.toList)&&((x.node==y.node)&&true)):=kr
 rw [e,Option.some.injEq,BA]
 simp [Edge.ext_iff,ByteArray.toList_eq,Cp,ByteArray.ext_iff]
def Iw(l:List Node):List AV:=l.map λx => .agg x.c
theorem uE(l:List Node):(Iw l).length=l.length:=by simp [Iw]
theorem L1{l:List Node}{i:Nat}{x:Node}(h:l[i]? =some x):(Iw l)[i]? =some (.agg x.c):=by simp [Iw,h]
theorem uD{l:List Node}{x:Node}(h:x∈l): .agg x.c∈Iw l:=by rw [Iw];exact AO.2 ⟨x,h,rfl⟩
theorem Pp(l:List Node):DY (Iw l)=true:=by
 induction l with
 | nil=>rfl
 | cons x xs ih=>simpa [Iw,DY,AV.pure] using ⟨kA x,ih⟩
theorem R5(k:Nat)(l:List Node):EZ k (Iw l)=true:=GQ λx=>Node.c_bnd k x
theorem zB{l:List Node}{B:Nat}(h:DT (Iw l)<=B){x:Node}(hx:x∈l):(.agg x.c:AV).bulk<=B:=AK (Eg (uD hx)) h
theorem fV{l:List Node}{B:Nat}(h:DT (Iw l)<=B):l.length<=B:=by
 refine AK ?_ h
 exact Fy (f:=λ(x:Node) => .agg x.c) (λx=>by exact ABn x) l
def fU(l:List Node):Prop:=l.length*40<=reachBytes /\ ∀ x∈l,x.ok
theorem mW{a:AV}(h:Rd AA 22 a): ∃ l,a = .sl none (Iw l)/\fU l:=by
 obtain ⟨l,h1,h2,h3⟩:=HA (f:=λ(x:Node) => .agg x.c) (ok:=λ(x:Node)=>x.ok) (P:=AA) (t:=22) (e:=128) kr (λx hx=>Node.rd hx) h
 exact ⟨l,h1,by rw [show Tryz.prog.bytesOf 128=40 by kernel_rfl] at h2;exact h2,h3⟩
def L3(l:List Link):List AV:=l.map λx => .agg x.c
theorem uF(l:List Link):(L3 l).length=l.length:=by simp [L3]
theorem R6{l:List Link}{i:Nat}{x:Link}(h:l[i]? =some x):(L3 l)[i]? =some (.agg x.c):=by simp [L3,h]
theorem Pq(l:List Link):DY (L3 l)=true:=by
 induction l with
 | nil=>rfl
 | cons x xs ih=>simpa [L3,DY,AV.pure] using ⟨kF x,ih⟩
theorem R7(k:Nat)(l:List Link):EZ k (L3 l)=true:=GQ λx=>Link.c_bnd k x
theorem zC{l:List Link}{B:Nat}(h:DT (L3 l)<=B):l.length<=B:=by
 refine AK ?_ h
 exact Fy (f:=λ(x:Link) => .agg x.c) (λx=>by exact ABq x) l
def fX(l:List Link):Prop:=l.length*24<=reachBytes /\ ∀ x∈l,x.ok
theorem mX{a:AV}(h:Rd AA 23 a): ∃ l,a = .sl none (L3 l)/\fX l:=by
 obtain ⟨l,h1,h2,h3⟩:=HA (f:=λ(x:Link) => .agg x.c) (ok:=λ(x:Link)=>x.ok) (P:=AA) (t:=23) (e:=191) kr (λx hx=>Link.rd hx) h
 exact ⟨l,h1,by rw [show Tryz.prog.bytesOf 191=24 by kernel_rfl] at h2;exact h2,h3⟩
def Ix(l:List Edge):List AV:=l.map λx => .agg x.c
theorem uL(l:List Edge):(Ix l).length=l.length:=by simp [Ix]
theorem L5{l:List Edge}{i:Nat}{x:Edge}(h:l[i]? =some x):(Ix l)[i]? =some (.agg x.c):=by simp [Ix,h]
theorem uK{l:List Edge}{x:Edge}(h:x∈l): .agg x.c∈Ix l:=by rw [Ix];exact AO.2 ⟨x,h,rfl⟩
theorem Pr(l:List Edge):DY (Ix l)=true:=by
 induction l with
 | nil=>rfl
 | cons x xs ih=>simpa [Ix,DY,AV.pure] using ⟨kW x,ih⟩
theorem SA(k:Nat)(l:List Edge):EZ k (Ix l)=true:=GQ λx=>Edge.c_bnd k x
theorem zD{l:List Edge}{B:Nat}(h:DT (Ix l)<=B){x:Edge}(hx:x∈l):(.agg x.c:AV).bulk<=B:=AK (Eg (uK hx)) h
theorem fe{l:List Edge}{B:Nat}(h:DT (Ix l)<=B):l.length<=B:=by
 refine AK ?_ h
 exact Fy (f:=λ(x:Edge) => .agg x.c) (λx=>by exact ABu x) l
def fc(l:List Edge):Prop:=l.length*24<=reachBytes /\ ∀ x∈l,x.ok
theorem md{a:AV}(h:Rd AA 24 a): ∃ l,a = .sl none (Ix l)/\fc l:=by
 obtain ⟨l,h1,h2,h3⟩:=HA (f:=λ(x:Edge) => .agg x.c) (ok:=λ(x:Edge)=>x.ok) (P:=AA) (t:=24) (e:=92) kr (λx hx=>Edge.rd hx) h
 exact ⟨l,h1,by rw [show Tryz.prog.bytesOf 92=24 by kernel_rfl] at h2;exact h2,h3⟩
@[ext] structure Network where
 nodes:List Node
 links:List Link
 edges:List Edge
 deriving DecidableEq,Inhabited
def Network.cf(x:Network)(o0 o1 o2:Option Nat):List AV:=[.sl o0 (Iw x.nodes),.sl o1 (L3 x.links),.sl o2 (Ix x.edges)]
abbrev Network.c(x:Network):List AV:=x.cf none none none
theorem Wh(x:Network)(o0 o1 o2:Option Nat):(x.cf o0 o1 o2).length=3:=rfl
theorem Wi(x:Network)(o0 o1 o2:Option Nat):(x.cf o0 o1 o2).map borrow1=x.cf none none none:=rfl
theorem Wg(x:Network)(o0 o1 o2:Option Nat):(x.cf o0 o1 o2).any Ew=(o0.isSome||o1.isSome||o2.isSome):=by
 cases o0<;>cases o1<;>cases o2<;>rfl
theorem T1(x:Network)(o0 o1 o2:Option Nat):(x.cf o0 o1 o2).take 3=x.cf o0 o1 o2:=rfl
theorem Network.cf_pure(x:Network)(o0 o1 o2:Option Nat):DY (x.cf o0 o1 o2)=true:=by
 simp [Network.cf,DY,AV.pure,Pr,Pq,Pp]
theorem ON(k:Nat)(x:Network)(o0 o1 o2:Option Nat):EZ k (x.cf o0 o1 o2)=true:=by
 simp [Network.cf,EZ,AV.bnd,SA,R7,R5]
theorem Network.c_bnd(k:Nat)(x:Network):EZ k x.c=true:=ON k x none none none
theorem MK{x:Network}{B:Nat}(h:DT x.c<=B):DT (Iw x.nodes)<=B:=Fd (o:=none) (AB (i:=0) rfl) h
theorem Si{x:Network}{B:Nat}(h:DT x.c<=B):DT (L3 x.links)<=B:=Fd (o:=none) (AB (i:=1) rfl) h
theorem ML{x:Network}{B:Nat}(h:DT x.c<=B):DT (Ix x.edges)<=B:=Fd (o:=none) (AB (i:=2) rfl) h
theorem Wj(x:Network)(o0 o1 o2:Option Nat):(x.cf o0 o1 o2)[0]? =some (.sl o0 (Iw x.nodes))/\(x.cf o0 o1 o2)[1]? =some (.sl o1 (L3 x.links))/\(x.cf o0 o1 o2)[2]? =some (.sl o2 (Ix x.edges)):=⟨rfl,rfl,rfl⟩
def Network.z:Network:=⟨[],[],[]⟩
def Network.ok(x:Network):Prop:=(fU x.nodes)/\(fX x.links)/\(fc x.edges)
theorem Network.rd{a:AV}(h:Rd AA 26 a): ∃ x:Network,a = .agg x.c/\x.ok:=by
 obtain ⟨ps,rfl,hp⟩:=E3 (ts:=[22,23,24]) kr h
 obtain ⟨a0,a1,a2,rfl,g0,g1,g2⟩:=Hr hp
 obtain ⟨v0,rfl,k0⟩:=mW g0
 obtain ⟨v1,rfl,k1⟩:=mX g1
 obtain ⟨v2,rfl,k2⟩:=md g2
 exact ⟨⟨v0,v1,v2⟩,rfl,⟨k0,k1,k2⟩⟩
@[ext] structure Contract where
 src:ByteArray
 dst:ByteArray
 fromPort:Int
 toPort:Int
 pred:Pred
 via:Int
 capacity:Int
 price:Int
 deriving Inhabited
def Contract.cf(x:Contract)(o0:Option Nat):List AV:=[.str x.src,.str x.dst,.int .i64 x.fromPort,.int .i64 x.toPort,.int .i64 x.pred.kind,.str x.pred.field,.int .i64 x.pred.n,.int .i64 x.pred.m,.sl o0 (Ez x.pred.args),.int .i64 x.via,.int .i64 x.capacity,.int .i64 x.price]
abbrev Contract.c(x:Contract):List AV:=x.cf none
theorem cQ(x:Contract):1<=DT x.c:=by
 have h1:1<=(.str x.src:AV).bulk:=by simp [AV.bulk]
 exact AK h1 (Eg (AB (i:=0) rfl))
theorem UB(x:Contract)(o0:Option Nat):(x.cf o0).length=12:=rfl
theorem UC(x:Contract)(o0:Option Nat):(x.cf o0).map borrow1=x.cf none:=rfl
theorem UA(x:Contract)(o0:Option Nat):(x.cf o0).any Ew=(o0.isSome):=by
 cases o0<;>rfl
theorem Sm(x:Contract)(o0:Option Nat):(x.cf o0).take 12=x.cf o0:=rfl
theorem Contract.cf_pure(x:Contract)(o0:Option Nat):DY (x.cf o0)=true:=by
 simp [Contract.cf,DY,AV.pure,IX]
theorem UE(x:Contract):DY x.c=true:=x.cf_pure none
theorem NE(k:Nat)(x:Contract)(o0:Option Nat):EZ k (x.cf o0)=true:=by
 simp [Contract.cf,EZ,AV.bnd,JW]
theorem Contract.c_bnd(k:Nat)(x:Contract):EZ k x.c=true:=NE k x none
theorem Sn{x:Contract}{B:Nat}(h:DT x.c<=B):DT x.pred.c<=B:=by
 have h1:=GF x.c 4 5
 rw [show (x.c.drop 4).take 5=x.pred.c from rfl] at h1
 omega
theorem UD(x:Contract)(o0:Option Nat):(x.cf o0)[0]? =some (.str x.src)/\(x.cf o0)[1]? =some (.str x.dst)/\(x.cf o0)[2]? =some (.int .i64 x.fromPort)/\(x.cf o0)[3]? =some (.int .i64 x.toPort)/\(x.cf o0)[9]? =some (.int .i64 x.via)/\(x.cf o0)[10]? =some (.int .i64 x.capacity)/\(x.cf o0)[11]? =some (.int .i64 x.price):=⟨rfl,rfl,rfl,rfl,rfl,rfl,rfl⟩
theorem NR(x:Contract)(o0:Option Nat):((x.cf o0).drop 4).take 5=x.pred.cf o0:=rfl
def Contract.z:Contract:=⟨.empty,.empty,0,0,⟨0,.empty,0,0,[]⟩,0,0,0⟩
theorem Contract.zero:EW AA 76=some (.agg (Contract.z.cf (some 5))):=kr
def Contract.ok(x:Contract):Prop:=(x.src.size<=reachBytes)/\(x.dst.size<=reachBytes)/\(IntKind.i64.min<=x.fromPort/\x.fromPort<=IntKind.i64.max)/\(IntKind.i64.min<=x.toPort/\x.toPort<=IntKind.i64.max)/\(x.pred.ok)/\(IntKind.i64.min<=x.via/\x.via<=IntKind.i64.max)/\(IntKind.i64.min<=x.capacity/\x.capacity<=IntKind.i64.max)/\(IntKind.i64.min<=x.price/\x.price<=IntKind.i64.max)
theorem Contract.rd{a:AV}(h:Rd AA 76 a): ∃ x:Contract,a = .agg x.c/\x.ok:=by
 obtain ⟨ps,rfl,hp⟩:=E3 (ts:=[9,9,3,3,74,3,3,3]) kr h
 obtain ⟨a0,a1,a2,a3,a4,a5,a6,a7,rfl,g0,g1,g2,g3,g4,g5,g6,g7⟩:=bu hp
 obtain ⟨v0,rfl,k0⟩:=lT g0
 obtain ⟨v1,rfl,k1⟩:=lT g1
 obtain ⟨v2,rfl,k2⟩:=KG g2
 obtain ⟨v3,rfl,k3⟩:=KG g3
 obtain ⟨v4,rfl,k4⟩:=Pred.rd g4
 obtain ⟨v5,rfl,k5⟩:=KG g5
 obtain ⟨v6,rfl,k6⟩:=KG g6
 obtain ⟨v7,rfl,k7⟩:=KG g7
 exact ⟨⟨v0,v1,v2,v3,v4,v5,v6,v7⟩,rfl,⟨k0,k1,k2,k3,k4,k5,k6,k7⟩⟩
def E8(l:List Fld):List AV:=l.map λx => .agg x.c
theorem Qf(l:List Fld):(E8 l).length=l.length:=by simp [E8]
theorem FP{l:List Fld}{i:Nat}{x:Fld}(h:l[i]? =some x):(E8 l)[i]? =some (.agg x.c):=by simp [E8,h]
theorem VU{l:List Fld}{x:Fld}(h:x∈l): .agg x.c∈E8 l:=by rw [E8];exact AO.2 ⟨x,h,rfl⟩
theorem R8(l:List Fld):DY (E8 l)=true:=by
 induction l with
 | nil=>rfl
 | cons x xs ih=>simpa [E8,DY,AV.pure] using ⟨qc x,ih⟩
theorem VV(k:Nat)(l:List Fld):EZ k (E8 l)=true:=GQ λx=>Fld.c_bnd k x
theorem ADG{l:List Fld}{B:Nat}(h:DT (E8 l)<=B){x:Fld}(hx:x∈l):(.agg x.c:AV).bulk<=B:=AK (Eg (VU hx)) h
theorem aA{l:List Fld}{B:Nat}(h:DT (E8 l)<=B):l.length<=B:=by
 refine AK ?_ h
 exact Fy (f:=λ(x:Fld) => .agg x.c) (λx=>by exact AEb x) l
def Z9(l:List Fld):Prop:=l.length*32<=reachBytes /\ ∀ x∈l,x.ok
theorem Ys{a:AV}(h:Rd AA 27 a): ∃ l,a = .sl none (E8 l)/\Z9 l:=by
 obtain ⟨l,h1,h2,h3⟩:=HA (f:=λ(x:Fld) => .agg x.c) (ok:=λ(x:Fld)=>x.ok) (P:=AA) (t:=27) (e:=126) kr (λx hx=>Fld.rd hx) h
 exact ⟨l,h1,by rw [show Tryz.prog.bytesOf 126=32 by kernel_rfl] at h2;exact h2,h3⟩
def GA(l:List Tenant):List AV:=l.map λx => .agg x.c
theorem S2(l:List Tenant):(GA l).length=l.length:=by simp [GA]
theorem Ef{l:List Tenant}{i:Nat}{x:Tenant}(h:l[i]? =some x):(GA l)[i]? =some (.agg x.c):=by simp [GA,h]
theorem fD{l:List Tenant}{x:Tenant}(h:x∈l): .agg x.c∈GA l:=by rw [GA];exact AO.2 ⟨x,h,rfl⟩
theorem Qc(l:List Tenant):DY (GA l)=true:=by
 induction l with
 | nil=>rfl
 | cons x xs ih=>simpa [GA,DY,AV.pure] using ⟨Xv x,ih⟩
theorem S3(k:Nat)(l:List Tenant):EZ k (GA l)=true:=GQ λx=>Tenant.c_bnd k x
theorem Pl{l:List Tenant}{B:Nat}(h:DT (GA l)<=B){x:Tenant}(hx:x∈l):(.agg x.c:AV).bulk<=B:=AK (Eg (fD hx)) h
theorem mN{l:List Tenant}{B:Nat}(h:DT (GA l)<=B):l.length<=B:=by
 refine AK ?_ h
 exact Fy (f:=λ(x:Tenant) => .agg x.c) (λx=>by exact qG x) l
def VI(l:List Tenant):Prop:=l.length*136<=reachBytes /\ ∀ x∈l,x.ok
theorem Z6{a:AV}(h:Rd AA 28 a): ∃ l,a = .sl none (GA l)/\VI l:=by
 obtain ⟨l,h1,h2,h3⟩:=HA (f:=λ(x:Tenant) => .agg x.c) (ok:=λ(x:Tenant)=>x.ok) (P:=AA) (t:=28) (e:=54) kr (λx hx=>Tenant.rd hx) h
 exact ⟨l,h1,by rw [show Tryz.prog.bytesOf 54=136 by kernel_rfl] at h2;exact h2,h3⟩
def FI(l:List Contract):List AV:=l.map λx => .agg x.c
theorem PI(l:List Contract):(FI l).length=l.length:=by simp [FI]
theorem FF{l:List Contract}{i:Nat}{x:Contract}(h:l[i]? =some x):(FI l)[i]? =some (.agg x.c):=by simp [FI,h]
theorem XR{l:List Contract}{x:Contract}(h:x∈l): .agg x.c∈FI l:=by rw [FI];exact AO.2 ⟨x,h,rfl⟩
theorem Nn(l:List Contract):DY (FI l)=true:=by
 induction l with
 | nil=>rfl
 | cons x xs ih=>simpa [FI,DY,AV.pure] using ⟨UE x,ih⟩
theorem PJ(k:Nat)(l:List Contract):EZ k (FI l)=true:=GQ λx=>Contract.c_bnd k x
theorem aF{l:List Contract}{B:Nat}(h:DT (FI l)<=B){x:Contract}(hx:x∈l):(.agg x.c:AV).bulk<=B:=AK (Eg (XR hx)) h
theorem Mh{l:List Contract}{B:Nat}(h:DT (FI l)<=B):l.length<=B:=by
 refine AK ?_ h
 exact Fy (f:=λ(x:Contract) => .agg x.c) (λx=>by exact cQ x) l
def Qh(l:List Contract):Prop:=l.length*136<=reachBytes /\ ∀ x∈l,x.ok
theorem Va{a:AV}(h:Rd AA 29 a): ∃ l,a = .sl none (FI l)/\Qh l:=by
 obtain ⟨l,h1,h2,h3⟩:=HA (f:=λ(x:Contract) => .agg x.c) (ok:=λ(x:Contract)=>x.ok) (P:=AA) (t:=29) (e:=76) kr (λx hx=>Contract.rd hx) h
 exact ⟨l,h1,by rw [show Tryz.prog.bytesOf 76=136 by kernel_rfl] at h2;exact h2,h3⟩
@[ext] structure Setup where
 network:Network
 fields:List Fld
 tenants:List Tenant
 contracts:List Contract
 deriving Inhabited
def Setup.cf(x:Setup)(o0 o1 o2 o3 o4 o5:Option Nat):List AV:=[.sl o0 (Iw x.network.nodes),.sl o1 (L3 x.network.links),.sl o2 (Ix x.network.edges),.sl o3 (E8 x.fields),.sl o4 (GA x.tenants),.sl o5 (FI x.contracts)]
abbrev Setup.c(x:Setup):List AV:=x.cf none none none none none none
theorem bd(x:Setup)(o0 o1 o2 o3 o4 o5:Option Nat):(x.cf o0 o1 o2 o3 o4 o5).length=6:=rfl
theorem be(x:Setup)(o0 o1 o2 o3 o4 o5:Option Nat):(x.cf o0 o1 o2 o3 o4 o5).map borrow1=x.cf none none none none none none:=rfl
theorem bc(x:Setup)(o0 o1 o2 o3 o4 o5:Option Nat):(x.cf o0 o1 o2 o3 o4 o5).any Ew=(o0.isSome||o1.isSome||o2.isSome||o3.isSome||o4.isSome||o5.isSome):=by
 cases o0<;>cases o1<;>cases o2<;>cases o3<;>cases o4<;>cases o5<;>rfl
theorem Xy(x:Setup)(o0 o1 o2 o3 o4 o5:Option Nat):(x.cf o0 o1 o2 o3 o4 o5).take 6=x.cf o0 o1 o2 o3 o4 o5:=rfl
theorem Setup.cf_pure(x:Setup)(o0 o1 o2 o3 o4 o5:Option Nat):DY (x.cf o0 o1 o2 o3 o4 o5)=true:=by
 simp [Setup.cf,DY,AV.pure,Nn,Pr,R8,Pq,Pp,Qc]
theorem RN(k:Nat)(x:Setup)(o0 o1 o2 o3 o4 o5:Option Nat):EZ k (x.cf o0 o1 o2 o3 o4 o5)=true:=by
 simp [Setup.cf,EZ,AV.bnd,PJ,SA,VV,R7,R5,S3]
theorem Setup.c_bnd(k:Nat)(x:Setup):EZ k x.c=true:=RN k x none none none none none none
theorem Setup.fit_fields{x:Setup}(h:F8 x.c):x.fields.length<=9223372036854775807:=by
 have h1:(AV.sl none (E8 x.fields)).fit:=Ej.1 h _ (AB (i:=3) rfl)
 have h2:=h1.1
 rwa [Qf] at h2
theorem RM{x:Setup}(h:F8 x.c):x.tenants.length<=9223372036854775807:=by
 have h1:(AV.sl none (GA x.tenants)).fit:=Ej.1 h _ (AB (i:=4) rfl)
 have h2:=h1.1
 rwa [S2] at h2
theorem O6{x:Setup}(h:F8 x.c):x.contracts.length<=9223372036854775807:=by
 have h1:(AV.sl none (FI x.contracts)).fit:=Ej.1 h _ (AB (i:=5) rfl)
 have h2:=h1.1
 rwa [PI] at h2
theorem MH{x:Setup}{B:Nat}(h:DT x.c<=B):DT x.network.c<=B:=by
 have h1:=GF x.c 0 3
 rw [show (x.c.drop 0).take 3=x.network.c from rfl] at h1
 omega
theorem KL{x:Setup}{B:Nat}(h:DT x.c<=B):DT (E8 x.fields)<=B:=Fd (o:=none) (AB (i:=3) rfl) h
theorem Hq{x:Setup}{B:Nat}(h:DT x.c<=B):DT (GA x.tenants)<=B:=Fd (o:=none) (AB (i:=4) rfl) h
theorem G9{x:Setup}{B:Nat}(h:DT x.c<=B):DT (FI x.contracts)<=B:=Fd (o:=none) (AB (i:=5) rfl) h
theorem bf(x:Setup)(o0 o1 o2 o3 o4 o5:Option Nat):(x.cf o0 o1 o2 o3 o4 o5)[0]? =some (.sl o0 (Iw x.network.nodes))/\(x.cf o0 o1 o2 o3 o4 o5)[2]? =some (.sl o2 (Ix x.network.edges))/\(x.cf o0 o1 o2 o3 o4 o5)[3]? =some (.sl o3 (E8 x.fields))/\(x.cf o0 o1 o2 o3 o4 o5)[4]? =some (.sl o4 (GA x.tenants))/\(x.cf o0 o1 o2 o3 o4 o5)[5]? =some (.sl o5 (FI x.contracts)):=⟨rfl,rfl,rfl,rfl,rfl⟩
theorem NO(x:Setup)(o0 o1 o2 o3 o4 o5:Option Nat):(x.cf o0 o1 o2 o3 o4 o5).take 3=x.network.cf o0 o1 o2:=rfl
def Setup.z:Setup:=⟨⟨[],[],[]⟩,[],[],[]⟩
theorem Setup.zero:EW AA 31=some (.agg (Setup.z.cf (some 4) (some 3) (some 2) (some 3) (some 6) (some 12))):=kr
def Setup.ok(x:Setup):Prop:=(x.network.ok)/\(Z9 x.fields)/\(VI x.tenants)/\(Qh x.contracts)
theorem Setup.rd{a:AV}(h:Rd AA 31 a): ∃ x:Setup,a = .agg x.c/\x.ok:=by
 obtain ⟨ps,rfl,hp⟩:=E3 (ts:=[26,27,28,29]) kr h
 obtain ⟨a0,a1,a2,a3,rfl,g0,g1,g2,g3⟩:=Kf hp
 obtain ⟨v0,rfl,k0⟩:=Network.rd g0
 obtain ⟨v1,rfl,k1⟩:=Ys g1
 obtain ⟨v2,rfl,k2⟩:=Z6 g2
 obtain ⟨v3,rfl,k3⟩:=Va g3
 exact ⟨⟨v0,v1,v2,v3⟩,rfl,⟨k0,k1,k2,k3⟩⟩
def E4(l:List Int):List AV:=l.map λx => .int .i64 x
theorem F6(l:List Int):(E4 l).length=l.length:=by simp [E4]
theorem E1{l:List Int}{i:Nat}{x:Int}(h:l[i]? =some x):(E4 l)[i]? =some (.int .i64 x):=by simp [E4,h]
theorem VT(l:List Int): ∀ x∈E4 l,x.cells.length=1:=by
 intro x hx;obtain ⟨y,_,rfl⟩:=AO.1 hx;rfl
theorem fY(l:List Int):(∀ x∈E4 l,x.cells.length=1)=True:=eq_true (VT l)
theorem mY(l:List Int)(k:Nat):(E4 l).take k=E4 (l.take k):=by simp [E4]
theorem uH(a:List Int)(x:Int):E4 a++[.int .i64 x]=E4 (a++[x]):=by simp [E4]
theorem If(l:List Int):DY (E4 l)=true:=by
 induction l with
 | nil=>rfl
 | cons x xs ih=>simpa [E4,DY,AV.pure] using ih
theorem L4(k:Nat)(l:List Int):EZ k (E4 l)=true:=GQ λx=>rfl
theorem ADE{l:List Int}{B:Nat}(h:DT (E4 l)<=B):l.length<=B:=by
 refine AK ?_ h
 exact Fy (f:=λ(x:Int) => .int .i64 x) (λx=>by simp [AV.bulk]) l
def Qe(l:List Int):Prop:=l.length*8<=reachBytes /\ ∀ x∈l,IntKind.i64.min<=x/\x<=IntKind.i64.max
theorem Ob{a:AV}(h:Rd AA 61 a): ∃ l,a = .sl none (E4 l)/\Qe l:=by
 obtain ⟨l,h1,h2,h3⟩:=HA (f:=λ(x:Int) => .int .i64 x) (ok:=λ(x:Int)=>IntKind.i64.min<=x/\x<=IntKind.i64.max) (P:=AA) (t:=61) (e:=3) kr (λx hx=>KG hx) h
 exact ⟨l,h1,by rw [show Tryz.prog.bytesOf 3=8 by kernel_rfl] at h2;exact h2,h3⟩
@[ext] structure Variable where
 name:ByteArray
 family:Int
 widths:List Int
 n:Int
 m:Int
 deriving DecidableEq,Inhabited
def Variable.cf(x:Variable)(o0:Option Nat):List AV:=[.str x.name,.int .i64 x.family,.sl o0 (E4 x.widths),.int .i64 x.n,.int .i64 x.m]
abbrev Variable.c(x:Variable):List AV:=x.cf none
theorem Tx(x:Variable)(o0:Option Nat):(x.cf o0).length=5:=rfl
theorem Ty(x:Variable)(o0:Option Nat):(x.cf o0).map borrow1=x.cf none:=rfl
theorem Tw(x:Variable)(o0:Option Nat):(x.cf o0).any Ew=(o0.isSome):=by
 cases o0<;>rfl
theorem Se(x:Variable)(o0:Option Nat):(x.cf o0).take 5=x.cf o0:=rfl
theorem Variable.cf_pure(x:Variable)(o0:Option Nat):DY (x.cf o0)=true:=by
 simp [Variable.cf,DY,AV.pure,If]
theorem T0(x:Variable):DY x.c=true:=x.cf_pure none
theorem NA(k:Nat)(x:Variable)(o0:Option Nat):EZ k (x.cf o0)=true:=by
 simp [Variable.cf,EZ,AV.bnd,L4]
theorem Variable.c_bnd(k:Nat)(x:Variable):EZ k x.c=true:=NA k x none
theorem Tz(x:Variable)(o0:Option Nat):(x.cf o0)[0]? =some (.str x.name)/\(x.cf o0)[1]? =some (.int .i64 x.family)/\(x.cf o0)[2]? =some (.sl o0 (E4 x.widths))/\(x.cf o0)[3]? =some (.int .i64 x.n)/\(x.cf o0)[4]? =some (.int .i64 x.m):=⟨rfl,rfl,rfl,rfl,rfl⟩
def Variable.z:Variable:=⟨.empty,0,[],0,0⟩
theorem Variable.zero:EW AA 267=some (.agg (Variable.z.cf (some 1))):=kr
def Variable.ok(x:Variable):Prop:=(x.name.size<=reachBytes)/\(IntKind.i64.min<=x.family/\x.family<=IntKind.i64.max)/\(Qe x.widths)/\(IntKind.i64.min<=x.n/\x.n<=IntKind.i64.max)/\(IntKind.i64.min<=x.m/\x.m<=IntKind.i64.max)
theorem Variable.rd{a:AV}(h:Rd AA 267 a): ∃ x:Variable,a = .agg x.c/\x.ok:=by
 obtain ⟨ps,rfl,hp⟩:=E3 (ts:=[9,3,61,3,3]) kr h
 obtain ⟨a0,a1,a2,a3,a4,rfl,g0,g1,g2,g3,g4⟩:=M5 hp
 obtain ⟨v0,rfl,k0⟩:=lT g0
 obtain ⟨v1,rfl,k1⟩:=KG g1
 obtain ⟨v2,rfl,k2⟩:=Ob g2
 obtain ⟨v3,rfl,k3⟩:=KG g3
 obtain ⟨v4,rfl,k4⟩:=KG g4
 exact ⟨⟨v0,v1,v2,v3,v4⟩,rfl,⟨k0,k1,k2,k3,k4⟩⟩
@[ext] structure Sizes where
 nodes:Int
 depth:Int
 deriving DecidableEq,Inhabited
def Sizes.c(x:Sizes):List AV:=[.int .i64 x.nodes,.int .i64 x.depth]
theorem bY(x:Sizes):x.c.length=2:=rfl
theorem bZ(x:Sizes):x.c.map borrow1=x.c:=rfl
theorem bX(x:Sizes):x.c.any Ew=false:=by
 rfl
theorem Xx(x:Sizes):x.c.take 2=x.c:=rfl
theorem Sizes.cf_pure(x:Sizes):DY x.c=true:=by
 simp [Sizes.c,DY,AV.pure]
theorem RL(k:Nat)(x:Sizes):EZ k x.c=true:=by
 simp [Sizes.c,EZ,AV.bnd]
theorem Sizes.c_bnd(k:Nat)(x:Sizes):EZ k x.c=true:=RL k x
theorem ba(x:Sizes):x.c[0]? =some (.int .i64 x.nodes)/\x.c[1]? =some (.int .i64 x.depth):=⟨rfl,rfl⟩
theorem O5(x:Sizes)(v:Int):GT x.c [.int .i64 v]=({ x with nodes:=v }:Sizes).c:=rfl
theorem P8(x:Sizes)(v:Int):splice x.c 1 [.int .i64 v]=({ x with depth:=v }:Sizes).c:=rfl
def Sizes.z:Sizes:=⟨0,0⟩
theorem Sizes.zero:EW AA 253=some (.agg Sizes.z.c):=kr
def Sizes.ok(x:Sizes):Prop:=(IntKind.i64.min<=x.nodes/\x.nodes<=IntKind.i64.max)/\(IntKind.i64.min<=x.depth/\x.depth<=IntKind.i64.max)
theorem Sizes.rd{a:AV}(h:Rd AA 253 a): ∃ x:Sizes,a = .agg x.c/\x.ok:=by
 obtain ⟨ps,rfl,hp⟩:=E3 (ts:=[3,3]) kr h
 obtain ⟨a0,a1,rfl,g0,g1⟩:=Ge hp
 obtain ⟨v0,rfl,k0⟩:=KG g0
 obtain ⟨v1,rfl,k1⟩:=KG g1
 exact ⟨⟨v0,v1⟩,rfl,⟨k0,k1⟩⟩
@[ext] structure Entry where
 var:ByteArray
 key:List Int
 n:Int
 at_:Int
 deriving DecidableEq,Inhabited
def Entry.cf(x:Entry)(o0:Option Nat):List AV:=[.str x.var,.sl o0 (E4 x.key),.int .i64 x.n,.int .i64 x.at_]
abbrev Entry.c(x:Entry):List AV:=x.cf none
theorem wQ(x:Entry):1<=DT x.c:=by
 have h1:1<=(.str x.var:AV).bulk:=by simp [AV.bulk]
 exact AK h1 (Eg (AB (i:=0) rfl))
theorem cF(x:Entry)(o0:Option Nat):(x.cf o0).length=4:=rfl
theorem cG(x:Entry)(o0:Option Nat):(x.cf o0).map borrow1=x.cf none:=rfl
theorem cE(x:Entry)(o0:Option Nat):(x.cf o0).any Ew=(o0.isSome):=by
 cases o0<;>rfl
theorem YG(x:Entry)(o0:Option Nat):(x.cf o0).take 4=x.cf o0:=rfl
theorem Entry.cf_pure(x:Entry)(o0:Option Nat):DY (x.cf o0)=true:=by
 simp [Entry.cf,DY,AV.pure,If]
theorem RW(x:Entry):DY x.c=true:=x.cf_pure none
theorem RV(k:Nat)(x:Entry)(o0:Option Nat):EZ k (x.cf o0)=true:=by
 simp [Entry.cf,EZ,AV.bnd,L4]
theorem Entry.c_bnd(k:Nat)(x:Entry):EZ k x.c=true:=RV k x none
theorem cI{x:Entry}{B:Nat}(h:DT x.c<=B):DT (E4 x.key)<=B:=Fd (o:=none) (AB (i:=1) rfl) h
theorem cH(x:Entry)(o0:Option Nat):(x.cf o0)[0]? =some (.str x.var)/\(x.cf o0)[1]? =some (.sl o0 (E4 x.key))/\(x.cf o0)[2]? =some (.int .i64 x.n)/\(x.cf o0)[3]? =some (.int .i64 x.at_):=⟨rfl,rfl,rfl,rfl⟩
theorem RU(x:Entry)(v:ByteArray)(o0:Option Nat):GT (x.cf o0) [.str v]=({ x with var:=v }:Entry).cf o0:=rfl
theorem Sk(x:Entry)(v:List Int)(o0:Option Nat)(p:Option Nat):splice (x.cf o0) 1 [.sl p (E4 v)]=({ x with key:=v }:Entry).cf p:=rfl
def Entry.z:Entry:=⟨.empty,[],0,0⟩
theorem Entry.zero:EW AA 119=some (.agg (Entry.z.cf (some 1))):=kr
def Entry.ok(x:Entry):Prop:=(x.var.size<=reachBytes)/\(Qe x.key)/\(IntKind.i64.min<=x.n/\x.n<=IntKind.i64.max)/\(IntKind.i64.min<=x.at_/\x.at_<=IntKind.i64.max)
theorem Entry.rd{a:AV}(h:Rd AA 119 a): ∃ x:Entry,a = .agg x.c/\x.ok:=by
 obtain ⟨ps,rfl,hp⟩:=E3 (ts:=[9,61,3,3]) kr h
 obtain ⟨a0,a1,a2,a3,rfl,g0,g1,g2,g3⟩:=Kf hp
 obtain ⟨v0,rfl,k0⟩:=lT g0
 obtain ⟨v1,rfl,k1⟩:=Ob g1
 obtain ⟨v2,rfl,k2⟩:=KG g2
 obtain ⟨v3,rfl,k3⟩:=KG g3
 exact ⟨⟨v0,v1,v2,v3⟩,rfl,⟨k0,k1,k2,k3⟩⟩
@[ext] structure Delivery where
 tenant:Int
 head:Head
 chain:List Int
 deriving DecidableEq,Inhabited
def Delivery.cf(x:Delivery)(o0:Option Nat):List AV:=[.int .i64 x.tenant,.int .i64 x.head.h0,.int .i64 x.head.h1,.int .i64 x.head.h2,.int .i64 x.head.h3,.int .i64 x.head.h4,.int .i64 x.head.h5,.int .i64 x.head.h6,.int .i64 x.head.h7,.int .i64 x.head.h8,.int .i64 x.head.h9,.sl o0 (E4 x.chain)]
abbrev Delivery.c(x:Delivery):List AV:=x.cf none
theorem T6(x:Delivery)(o0:Option Nat):(x.cf o0).length=12:=rfl
theorem T7(x:Delivery)(o0:Option Nat):(x.cf o0).map borrow1=x.cf none:=rfl
theorem T5(x:Delivery)(o0:Option Nat):(x.cf o0).any Ew=(o0.isSome):=by
 cases o0<;>rfl
theorem Sl(x:Delivery)(o0:Option Nat):(x.cf o0).take 12=x.cf o0:=rfl
theorem Delivery.cf_pure(x:Delivery)(o0:Option Nat):DY (x.cf o0)=true:=by
 simp [Delivery.cf,DY,AV.pure,If]
theorem T9(x:Delivery):DY x.c=true:=x.cf_pure none
theorem ND(k:Nat)(x:Delivery)(o0:Option Nat):EZ k (x.cf o0)=true:=by
 simp [Delivery.cf,EZ,AV.bnd,L4]
theorem Delivery.c_bnd(k:Nat)(x:Delivery):EZ k x.c=true:=ND k x none
theorem T8(x:Delivery)(o0:Option Nat):(x.cf o0)[0]? =some (.int .i64 x.tenant)/\(x.cf o0)[1]? =some (.int .i64 x.head.h0)/\(x.cf o0)[11]? =some (.sl o0 (E4 x.chain)):=⟨rfl,rfl,rfl⟩
theorem MM(x:Delivery)(v:Int)(o0:Option Nat):GT (x.cf o0) [.int .i64 v]=({ x with tenant:=v }:Delivery).cf o0:=rfl
theorem NQ(x:Delivery)(o0:Option Nat):((x.cf o0).drop 1).take 10=x.head.c:=rfl
theorem OQ(x:Delivery)(v:Head)(o0:Option Nat):splice (x.cf o0) 1 v.c=({ x with head:=v }:Delivery).cf o0:=rfl
theorem NP(x:Delivery)(v:List Int)(o0:Option Nat)(p:Option Nat):splice (x.cf o0) 11 [.sl p (E4 v)]=({ x with chain:=v }:Delivery).cf p:=rfl
def Delivery.z:Delivery:=⟨0,⟨0,0,0,0,0,0,0,0,0,0⟩,[]⟩
theorem Delivery.zero:EW AA 63=some (.agg (Delivery.z.cf (some 1))):=kr
def Delivery.ok(x:Delivery):Prop:=(IntKind.i64.min<=x.tenant/\x.tenant<=IntKind.i64.max)/\(x.head.ok)/\(Qe x.chain)
theorem Delivery.rd{a:AV}(h:Rd AA 63 a): ∃ x:Delivery,a = .agg x.c/\x.ok:=by
 obtain ⟨ps,rfl,hp⟩:=E3 (ts:=[3,34,61]) kr h
 obtain ⟨a0,a1,a2,rfl,g0,g1,g2⟩:=Hr hp
 obtain ⟨v0,rfl,k0⟩:=KG g0
 obtain ⟨v1,rfl,k1⟩:=Head.rd g1
 obtain ⟨v2,rfl,k2⟩:=Ob g2
 exact ⟨⟨v0,v1,v2⟩,rfl,⟨k0,k1,k2⟩⟩
@[ext] structure Arrival where
 head:Head
 tick:Int
 deriving DecidableEq,Inhabited
def Arrival.c(x:Arrival):List AV:=[.int .i64 x.head.h0,.int .i64 x.head.h1,.int .i64 x.head.h2,.int .i64 x.head.h3,.int .i64 x.head.h4,.int .i64 x.head.h5,.int .i64 x.head.h6,.int .i64 x.head.h7,.int .i64 x.head.h8,.int .i64 x.head.h9,.int .i64 x.tick]
theorem Wr(x:Arrival):x.c.length=11:=rfl
theorem Ws(x:Arrival):x.c.map borrow1=x.c:=rfl
theorem Wq(x:Arrival):x.c.any Ew=false:=by
 rfl
theorem UF(x:Arrival):x.c.take 11=x.c:=rfl
theorem Arrival.cf_pure(x:Arrival):DY x.c=true:=by
 simp [Arrival.c,DY,AV.pure]
theorem Wu(x:Arrival):DY x.c=true:=x.cf_pure
theorem OS(k:Nat)(x:Arrival):EZ k x.c=true:=by
 simp [Arrival.c,EZ,AV.bnd]
theorem Arrival.c_bnd(k:Nat)(x:Arrival):EZ k x.c=true:=OS k x
theorem Wt(x:Arrival):x.c[9]? =some (.int .i64 x.head.h9)/\x.c[10]? =some (.int .i64 x.tick):=⟨rfl,rfl⟩
theorem OR(x:Arrival):x.c.take 10=x.head.c:=rfl
def Arrival.z:Arrival:=⟨⟨0,0,0,0,0,0,0,0,0,0⟩,0⟩
theorem Arrival.zero:EW AA 36=some (.agg Arrival.z.c):=kr
def Arrival.ok(x:Arrival):Prop:=(x.head.ok)/\(IntKind.i64.min<=x.tick/\x.tick<=IntKind.i64.max)
theorem Arrival.rd{a:AV}(h:Rd AA 36 a): ∃ x:Arrival,a = .agg x.c/\x.ok:=by
 obtain ⟨ps,rfl,hp⟩:=E3 (ts:=[34,3]) kr h
 obtain ⟨a0,a1,rfl,g0,g1⟩:=Ge hp
 obtain ⟨v0,rfl,k0⟩:=Head.rd g0
 obtain ⟨v1,rfl,k1⟩:=KG g1
 exact ⟨⟨v0,v1⟩,rfl,⟨k0,k1⟩⟩
def EM(l:List Entry):List AV:=l.map λx => .agg x.c
theorem Gf(l:List Entry):(EM l).length=l.length:=by simp [EM]
theorem Er{l:List Entry}{i:Nat}{x:Entry}(h:l[i]? =some x):(EM l)[i]? =some (.agg x.c):=by simp [EM,h]
theorem mc{l:List Entry}{x:Entry}(h:x∈l): .agg x.c∈EM l:=by rw [EM];exact AO.2 ⟨x,h,rfl⟩
theorem aD(l:List Entry): ∀ x∈EM l,x.cells.length=4:=by
 intro x hx;obtain ⟨y,_,rfl⟩:=AO.1 hx;rfl
theorem XP(l:List Entry):(∀ x∈EM l,x.cells.length=4)=True:=eq_true (aD l)
theorem ma:EM []=[]:=rfl
theorem aB(l:List Entry)(k:Nat):(EM l).take k=EM (l.take k):=by simp [EM]
theorem Ig(l:List Entry):DY (EM l)=true:=by
 induction l with
 | nil=>rfl
 | cons x xs ih=>simpa [EM,DY,AV.pure] using ⟨RW x,ih⟩
theorem VX(k:Nat)(l:List Entry):EZ k (EM l)=true:=GQ λx=>Entry.c_bnd k x
theorem uJ{l:List Entry}{B:Nat}(h:DT (EM l)<=B){x:Entry}(hx:x∈l):(.agg x.c:AV).bulk<=B:=AK (Eg (mc hx)) h
theorem uI{l:List Entry}{B:Nat}(h:DT (EM l)<=B):l.length<=B:=by
 refine AK ?_ h
 exact Fy (f:=λ(x:Entry) => .agg x.c) (λx=>by exact wQ x) l
def R9(l:List Entry):Prop:=l.length*56<=reachBytes /\ ∀ x∈l,x.ok
theorem S8{a:AV}(h:Rd AA 58 a): ∃ l,a = .sl none (EM l)/\R9 l:=by
 obtain ⟨l,h1,h2,h3⟩:=HA (f:=λ(x:Entry) => .agg x.c) (ok:=λ(x:Entry)=>x.ok) (P:=AA) (t:=58) (e:=119) kr (λx hx=>Entry.rd hx) h
 exact ⟨l,h1,by rw [show Tryz.prog.bytesOf 119=56 by kernel_rfl] at h2;exact h2,h3⟩
@[ext] structure Doing where
 fields:List Fld
 step:Stp
 st:List Entry
 head:Head
 tick:Int
 entry:Entry
 is:Bool
 deriving DecidableEq,Inhabited
def Doing.cf(x:Doing)(o0 o1 o2 o3:Option Nat):List AV:=[.sl o0 (E8 x.fields),.int .i64 x.step.kind,.str x.step.var,.sl o1 (Fq x.step.key),.str x.step.field,.int .i64 x.step.n,.int .i64 x.step.m,.sl o2 (EM x.st),.int .i64 x.head.h0,.int .i64 x.head.h1,.int .i64 x.head.h2,.int .i64 x.head.h3,.int .i64 x.head.h4,.int .i64 x.head.h5,.int .i64 x.head.h6,.int .i64 x.head.h7,.int .i64 x.head.h8,.int .i64 x.head.h9,.int .i64 x.tick,.str x.entry.var,.sl o3 (E4 x.entry.key),.int .i64 x.entry.n,.int .i64 x.entry.at_,.bool x.is]
abbrev Doing.c(x:Doing):List AV:=x.cf none none none none
theorem cL(x:Doing)(o0 o1 o2 o3:Option Nat):(x.cf o0 o1 o2 o3).length=24:=rfl
theorem cM(x:Doing)(o0 o1 o2 o3:Option Nat):(x.cf o0 o1 o2 o3).map borrow1=x.cf none none none none:=rfl
theorem cK(x:Doing)(o0 o1 o2 o3:Option Nat):(x.cf o0 o1 o2 o3).any Ew=(o0.isSome||o1.isSome||o2.isSome||o3.isSome):=by
 cases o0<;>cases o1<;>cases o2<;>cases o3<;>rfl
theorem Doing.cf_pure(x:Doing)(o0 o1 o2 o3:Option Nat):DY (x.cf o0 o1 o2 o3)=true:=by
 simp [Doing.cf,DY,AV.pure,Ig,R8,If,Oa]
theorem Ra(k:Nat)(x:Doing)(o0 o1 o2 o3:Option Nat):EZ k (x.cf o0 o1 o2 o3)=true:=by
 simp [Doing.cf,EZ,AV.bnd,VX,VV,L4,Qd]
theorem Doing.c_bnd(k:Nat)(x:Doing):EZ k x.c=true:=Ra k x none none none none
theorem Doing.fit_fields{x:Doing}(h:F8 x.c):x.fields.length<=9223372036854775807:=by
 have h1:(AV.sl none (E8 x.fields)).fit:=Ej.1 h _ (AB (i:=0) rfl)
 have h2:=h1.1
 rwa [Qf] at h2
theorem cN(x:Doing)(o0 o1 o2 o3:Option Nat):(x.cf o0 o1 o2 o3)[0]? =some (.sl o0 (E8 x.fields))/\(x.cf o0 o1 o2 o3)[2]? =some (.str x.step.var)/\(x.cf o0 o1 o2 o3)[3]? =some (.sl o1 (Fq x.step.key))/\(x.cf o0 o1 o2 o3)[4]? =some (.str x.step.field)/\(x.cf o0 o1 o2 o3)[5]? =some (.int .i64 x.step.n)/\(x.cf o0 o1 o2 o3)[6]? =some (.int .i64 x.step.m)/\(x.cf o0 o1 o2 o3)[7]? =some (.sl o2 (EM x.st))/\(x.cf o0 o1 o2 o3)[18]? =some (.int .i64 x.tick)/\(x.cf o0 o1 o2 o3)[21]? =some (.int .i64 x.entry.n)/\(x.cf o0 o1 o2 o3)[22]? =some (.int .i64 x.entry.at_)/\(x.cf o0 o1 o2 o3)[23]? =some (.bool x.is):=⟨rfl,rfl,rfl,rfl,rfl,rfl,rfl,rfl,rfl,rfl,rfl⟩
theorem OP(x:Doing)(v:List Fld)(o0 o1 o2 o3:Option Nat)(p:Option Nat):GT (x.cf o0 o1 o2 o3) [.sl p (E8 v)]=({ x with fields:=v }:Doing).cf p o1 o2 o3:=rfl
theorem QE(x:Doing)(o0 o1 o2 o3:Option Nat):((x.cf o0 o1 o2 o3).drop 1).take 6=x.step.cf o1:=rfl
theorem RY(x:Doing)(v:Stp)(o0 o1 o2 o3:Option Nat)(p0:Option Nat):splice (x.cf o0 o1 o2 o3) 1 (v.cf p0)=({ x with step:=v }:Doing).cf o0 p0 o2 o3:=rfl
theorem T3(x:Doing)(v:List Entry)(o0 o1 o2 o3:Option Nat)(p:Option Nat):splice (x.cf o0 o1 o2 o3) 7 [.sl p (EM v)]=({ x with st:=v }:Doing).cf o0 o1 p o3:=rfl
theorem QF(x:Doing)(o0 o1 o2 o3:Option Nat):((x.cf o0 o1 o2 o3).drop 8).take 10=x.head.c:=rfl
theorem RZ(x:Doing)(v:Head)(o0 o1 o2 o3:Option Nat):splice (x.cf o0 o1 o2 o3) 8 v.c=({ x with head:=v }:Doing).cf o0 o1 o2 o3:=rfl
theorem RX(x:Doing)(v:Int)(o0 o1 o2 o3:Option Nat):splice (x.cf o0 o1 o2 o3) 18 [.int .i64 v]=({ x with tick:=v }:Doing).cf o0 o1 o2 o3:=rfl
theorem O9(x:Doing)(o0 o1 o2 o3:Option Nat):((x.cf o0 o1 o2 o3).drop 19).take 4=x.entry.cf o3:=rfl
theorem QD(x:Doing)(v:Entry)(o0 o1 o2 o3:Option Nat)(p0:Option Nat):splice (x.cf o0 o1 o2 o3) 19 (v.cf p0)=({ x with entry:=v }:Doing).cf o0 o1 o2 p0:=rfl
theorem OO(x:Doing)(v:Int)(o0 o1 o2 o3:Option Nat):splice (x.cf o0 o1 o2 o3) 21 [.int .i64 v]=({ x with entry:={ x.entry with n:=v } }:Doing).cf o0 o1 o2 o3:=rfl
theorem M8(x:Doing)(v:Int)(o0 o1 o2 o3:Option Nat):splice (x.cf o0 o1 o2 o3) 22 [.int .i64 v]=({ x with entry:={ x.entry with at_:=v } }:Doing).cf o0 o1 o2 o3:=rfl
theorem T4(x:Doing)(v:Bool)(o0 o1 o2 o3:Option Nat):splice (x.cf o0 o1 o2 o3) 23 [.bool v]=({ x with is:=v }:Doing).cf o0 o1 o2 o3:=rfl
def Doing.z:Doing:=⟨[],⟨0,.empty,[],.empty,0,0⟩,[],⟨0,0,0,0,0,0,0,0,0,0⟩,0,⟨.empty,[],0,0⟩,false⟩
theorem Doing.zero:EW AA 174=some (.agg (Doing.z.cf (some 3) (some 1) (some 4) (some 1))):=kr
def Doing.ok(x:Doing):Prop:=(Z9 x.fields)/\(x.step.ok)/\(R9 x.st)/\(x.head.ok)/\(IntKind.i64.min<=x.tick/\x.tick<=IntKind.i64.max)/\(x.entry.ok)/\(True)
theorem Doing.rd{a:AV}(h:Rd AA 174 a): ∃ x:Doing,a = .agg x.c/\x.ok:=by
 obtain ⟨ps,rfl,hp⟩:=E3 (ts:=[27,108,58,34,3,119,4]) kr h
 obtain ⟨a0,a1,a2,a3,a4,a5,a6,rfl,g0,g1,g2,g3,g4,g5,g6⟩:=bv hp
 obtain ⟨v0,rfl,k0⟩:=Ys g0
 obtain ⟨v1,rfl,k1⟩:=Stp.rd g1
 obtain ⟨v2,rfl,k2⟩:=S8 g2
 obtain ⟨v3,rfl,k3⟩:=Head.rd g3
 obtain ⟨v4,rfl,k4⟩:=KG g4
 obtain ⟨v5,rfl,k5⟩:=Entry.rd g5
 obtain ⟨v6,rfl,k6⟩:=Wb (t:=4) kr g6
 exact ⟨⟨v0,v1,v2,v3,v4,v5,v6⟩,rfl,⟨k0,k1,k2,k3,k4,k5,k6⟩⟩
@[ext] structure Item where
 tenant:Int
 head:Head
 chain:List Int
 deriving DecidableEq,Inhabited
def Item.cf(x:Item)(o0:Option Nat):List AV:=[.int .i64 x.tenant,.int .i64 x.head.h0,.int .i64 x.head.h1,.int .i64 x.head.h2,.int .i64 x.head.h3,.int .i64 x.head.h4,.int .i64 x.head.h5,.int .i64 x.head.h6,.int .i64 x.head.h7,.int .i64 x.head.h8,.int .i64 x.head.h9,.sl o0 (E4 x.chain)]
abbrev Item.c(x:Item):List AV:=x.cf none
theorem kI(x:Item)(o0:Option Nat):(x.cf o0).length=12:=rfl
theorem kJ(x:Item)(o0:Option Nat):(x.cf o0).map borrow1=x.cf none:=rfl
theorem kH(x:Item)(o0:Option Nat):(x.cf o0).any Ew=(o0.isSome):=by
 cases o0<;>rfl
theorem cC(x:Item)(o0:Option Nat):(x.cf o0).take 12=x.cf o0:=rfl
theorem Item.cf_pure(x:Item)(o0:Option Nat):DY (x.cf o0)=true:=by
 simp [Item.cf,DY,AV.pure,If]
theorem TO(k:Nat)(x:Item)(o0:Option Nat):EZ k (x.cf o0)=true:=by
 simp [Item.cf,EZ,AV.bnd,L4]
theorem Item.c_bnd(k:Nat)(x:Item):EZ k x.c=true:=TO k x none
theorem kK(x:Item)(o0:Option Nat):(x.cf o0)[0]? =some (.int .i64 x.tenant):=rfl
theorem O8(x:Item)(v:Int)(o0:Option Nat):GT (x.cf o0) [.int .i64 v]=({ x with tenant:=v }:Item).cf o0:=rfl
theorem RS(x:Item)(o0:Option Nat):((x.cf o0).drop 1).take 10=x.head.c:=rfl
theorem Sj(x:Item)(v:Head)(o0:Option Nat):splice (x.cf o0) 1 v.c=({ x with head:=v }:Item).cf o0:=rfl
theorem RR(x:Item)(v:List Int)(o0:Option Nat)(p:Option Nat):splice (x.cf o0) 11 [.sl p (E4 v)]=({ x with chain:=v }:Item).cf p:=rfl
def Item.z:Item:=⟨0,⟨0,0,0,0,0,0,0,0,0,0⟩,[]⟩
theorem Item.zero:EW AA 95=some (.agg (Item.z.cf (some 1))):=kr
def Item.ok(x:Item):Prop:=(IntKind.i64.min<=x.tenant/\x.tenant<=IntKind.i64.max)/\(x.head.ok)/\(Qe x.chain)
theorem Item.rd{a:AV}(h:Rd AA 95 a): ∃ x:Item,a = .agg x.c/\x.ok:=by
 obtain ⟨ps,rfl,hp⟩:=E3 (ts:=[3,34,61]) kr h
 obtain ⟨a0,a1,a2,rfl,g0,g1,g2⟩:=Hr hp
 obtain ⟨v0,rfl,k0⟩:=KG g0
 obtain ⟨v1,rfl,k1⟩:=Head.rd g1
 obtain ⟨v2,rfl,k2⟩:=Ob g2
 exact ⟨⟨v0,v1,v2⟩,rfl,⟨k0,k1,k2⟩⟩
attribute [go_sem] kM kN kL cD Head.cf_pure TP kO T2 Wm Wl Head.zero ABs qZ qa qY kQ Fld.cf_pure Wo qb Fld.zero jn jo jm b5 Port.cf_pure TJ jq Port.zero jW jX jV bO Wire.cf_pure TH jY Wire.zero IX JW L0 Z8 uA fI fM uB jj jk ji bx Pred.cf_pure TI jl Pred.zero Mg Nl S7 VS fR XM XN fT YD YE YC We Policy.cf_pure PT YF O7 Policy.zero Nk Pm VN bq br bp X7 Regex.cf_pure RP bt Regex.zero Kw fE y5 mP tq Oa Qd qI qJ qH jc Stp.cf_pure Wa qK Stp.zero bT bU bS Xw Stage.cf_pure RK bV OH OG P7 RJ Stage.zero bi bj bg Route.cf_pure RO P9 QA YI YJ YH Wp Demand.cf_pure PU YK Demand.zero Yq VQ Yr tl VG Ym Mf XL mT S4 VJ VK S5 VL ff Qg S9 Xs Xt Xr WY Tenant.cf_pure PQ Xu Tenant.zero jy jz jx b8 Node.cf_pure TM j3 Node.zero kC kD kB cA Link.cf_pure TN kE Link.zero kT kU kS Edge.cf_pure TQ kV uE Pp R5 uF Pq R7 uL Pr SA Wh Wi Wg T1 Network.cf_pure ON Wj UB UC UA Sm Contract.cf_pure NE UD NR Contract.zero Qf R8 VV S2 Qc S3 PI Nn PJ bd be bc Xy Setup.cf_pure RN bf NO Setup.zero F6 fY mY uH If L4 Tx Ty Tw Se Variable.cf_pure NA Tz Variable.zero bY bZ bX Xx Sizes.cf_pure RL ba O5 P8 Sizes.zero cF cG cE YG Entry.cf_pure RV cH RU Sk Entry.zero T6 T7 T5 Sl Delivery.cf_pure ND T8 MM NQ OQ NP Delivery.zero Wr Ws Wq UF Arrival.cf_pure OS Wt OR Arrival.zero Gf XP ma aB Ig VX cL cM cK Doing.cf_pure Ra cN OP QE RY T3 QF RZ RX O9 QD OO M8 T4 Doing.zero kI kJ kH cC Item.cf_pure TO kK O8 RS Sj RR Item.zero
end Go.AI
