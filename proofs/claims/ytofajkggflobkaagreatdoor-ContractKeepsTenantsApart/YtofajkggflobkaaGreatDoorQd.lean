/- Data of the laws as the model holds them: cells in order; and how data are read as them. Printed by gendata.py. -/
import Derived.Test.YtofajkggflobkaaGreatDoorLi
import Derived.Test.YtofajkggflobkaaGreatDoorProg
import Derived.KernelRfl
namespace Go.AI
open Go.Proofs
theorem RdAll.split2 {P : Program} {t0 t1 : TypeId} {ps : List AV} (h : RdAll P [t0,t1] ps) : ∃ a0 a1,ps = [a0,a1] /\ Rd P t0 a0 /\ Rd P t1 a1:=by
 match ps,h with
 | [a0,a1],h => exact ⟨a0,a1,rfl,h.1,h.2.1⟩
theorem RdAll.split3 {P : Program} {t0 t1 t2 : TypeId} {ps : List AV} (h : RdAll P [t0,t1,t2] ps) : ∃ a0 a1 a2,ps = [a0,a1,a2] /\ Rd P t0 a0 /\ Rd P t1 a1 /\ Rd P t2 a2:=by
 match ps,h with
 | [a0,a1,a2],h => exact ⟨a0,a1,a2,rfl,h.1,h.2.1,h.2.2.1⟩
theorem RdAll.split4 {P : Program} {t0 t1 t2 t3 : TypeId} {ps : List AV} (h : RdAll P [t0,t1,t2,t3] ps) : ∃ a0 a1 a2 a3,ps = [a0,a1,a2,a3] /\ Rd P t0 a0 /\ Rd P t1 a1 /\ Rd P t2 a2 /\ Rd P t3 a3:=by
 match ps,h with
 | [a0,a1,a2,a3],h => exact ⟨a0,a1,a2,a3,rfl,h.1,h.2.1,h.2.2.1,h.2.2.2.1⟩
theorem RdAll.split5 {P : Program} {t0 t1 t2 t3 t4 : TypeId} {ps : List AV} (h : RdAll P [t0,t1,t2,t3,t4] ps) : ∃ a0 a1 a2 a3 a4,ps = [a0,a1,a2,a3,a4] /\ Rd P t0 a0 /\ Rd P t1 a1 /\ Rd P t2 a2 /\ Rd P t3 a3 /\ Rd P t4 a4:=by
 match ps,h with
 | [a0,a1,a2,a3,a4],h => exact ⟨a0,a1,a2,a3,a4,rfl,h.1,h.2.1,h.2.2.1,h.2.2.2.1,h.2.2.2.2.1⟩
theorem RdAll.split6 {P : Program} {t0 t1 t2 t3 t4 t5 : TypeId} {ps : List AV} (h : RdAll P [t0,t1,t2,t3,t4,t5] ps) : ∃ a0 a1 a2 a3 a4 a5,ps = [a0,a1,a2,a3,a4,a5] /\ Rd P t0 a0 /\ Rd P t1 a1 /\ Rd P t2 a2 /\ Rd P t3 a3 /\ Rd P t4 a4 /\ Rd P t5 a5:=by
 match ps,h with
 | [a0,a1,a2,a3,a4,a5],h => exact ⟨a0,a1,a2,a3,a4,a5,rfl,h.1,h.2.1,h.2.2.1,h.2.2.2.1,h.2.2.2.2.1,h.2.2.2.2.2.1⟩
theorem RdAll.split7 {P : Program} {t0 t1 t2 t3 t4 t5 t6 : TypeId} {ps : List AV} (h : RdAll P [t0,t1,t2,t3,t4,t5,t6] ps) : ∃ a0 a1 a2 a3 a4 a5 a6,ps = [a0,a1,a2,a3,a4,a5,a6] /\ Rd P t0 a0 /\ Rd P t1 a1 /\ Rd P t2 a2 /\ Rd P t3 a3 /\ Rd P t4 a4 /\ Rd P t5 a5 /\ Rd P t6 a6:=by
 match ps,h with
 | [a0,a1,a2,a3,a4,a5,a6],h => exact ⟨a0,a1,a2,a3,a4,a5,a6,rfl,h.1,h.2.1,h.2.2.1,h.2.2.2.1,h.2.2.2.2.1,h.2.2.2.2.2.1,h.2.2.2.2.2.2.1⟩
theorem RdAll.split8 {P : Program} {t0 t1 t2 t3 t4 t5 t6 t7 : TypeId} {ps : List AV} (h : RdAll P [t0,t1,t2,t3,t4,t5,t6,t7] ps) : ∃ a0 a1 a2 a3 a4 a5 a6 a7,ps = [a0,a1,a2,a3,a4,a5,a6,a7] /\ Rd P t0 a0 /\ Rd P t1 a1 /\ Rd P t2 a2 /\ Rd P t3 a3 /\ Rd P t4 a4 /\ Rd P t5 a5 /\ Rd P t6 a6 /\ Rd P t7 a7:=by
 match ps,h with
 | [a0,a1,a2,a3,a4,a5,a6,a7],h => exact ⟨a0,a1,a2,a3,a4,a5,a6,a7,rfl,h.1,h.2.1,h.2.2.1,h.2.2.2.1,h.2.2.2.2.1,h.2.2.2.2.2.1,h.2.2.2.2.2.2.1,h.2.2.2.2.2.2.2.1⟩
theorem RdAll.split10 {P : Program} {t0 t1 t2 t3 t4 t5 t6 t7 t8 t9 : TypeId} {ps : List AV} (h : RdAll P [t0,t1,t2,t3,t4,t5,t6,t7,t8,t9] ps) : ∃ a0 a1 a2 a3 a4 a5 a6 a7 a8 a9,ps = [a0,a1,a2,a3,a4,a5,a6,a7,a8,a9] /\ Rd P t0 a0 /\ Rd P t1 a1 /\ Rd P t2 a2 /\ Rd P t3 a3 /\ Rd P t4 a4 /\ Rd P t5 a5 /\ Rd P t6 a6 /\ Rd P t7 a7 /\ Rd P t8 a8 /\ Rd P t9 a9:=by
 match ps,h with
 | [a0,a1,a2,a3,a4,a5,a6,a7,a8,a9],h => exact ⟨a0,a1,a2,a3,a4,a5,a6,a7,a8,a9,rfl,h.1,h.2.1,h.2.2.1,h.2.2.2.1,h.2.2.2.2.1,h.2.2.2.2.2.1,h.2.2.2.2.2.2.1,h.2.2.2.2.2.2.2.1,h.2.2.2.2.2.2.2.2.1,h.2.2.2.2.2.2.2.2.2.1⟩
@[ext] structure Head where
 h0 : Int
 h1 : Int
 h2 : Int
 h3 : Int
 h4 : Int
 h5 : Int
 h6 : Int
 h7 : Int
 h8 : Int
 h9 : Int
 deriving DecidableEq,Inhabited
def Head.c (x : Head) : List AV:=[.int .i64 x.h0,.int .i64 x.h1,.int .i64 x.h2,.int .i64 x.h3,.int .i64 x.h4,.int .i64 x.h5,.int .i64 x.h6,.int .i64 x.h7,.int .i64 x.h8,.int .i64 x.h9]
theorem Head.bk1 (x : Head) : 1 <= bulkL x.c:=by
 have h1 : 1 <= (.int .i64 x.h0 : AV).bulk:=by simp [AV.bulk]
 exact Nat.le_trans h1 (bulk_mem (List.mem_of_getElem? (i:=0) rfl))
@[go_sem] theorem Head.cf_len (x : Head) : x.c.length = 10:=rfl
theorem Head.c_len (x : Head) : x.c.length = 10:=rfl
@[go_sem] theorem Head.cf_bor (x : Head) : x.c.map borrow1 = x.c:=rfl
theorem Head.c_bor (x : Head) : x.c.map borrow1 = x.c:=rfl
@[go_sem] theorem Head.cf_own (x : Head) : x.c.any owned1 = false:=by
 rfl
@[go_sem] theorem Head.cf_take (x : Head) : x.c.take 10 = x.c:=rfl
@[go_sem] theorem Head.cf_pure (x : Head) : pureL x.c = true:=by
 simp [Head.c,pureL,AV.pure]
theorem Head.c_pure (x : Head) : pureL x.c = true:=x.cf_pure
@[go_sem] theorem Head.cf_bnd (k : Nat) (x : Head) : bndL k x.c = true:=by
 simp [Head.c,bndL,AV.bnd]
theorem Head.c_bnd (k : Nat) (x : Head) : bndL k x.c = true:=Head.cf_bnd k x
@[go_sem] theorem Head.cf_at0 (x : Head) : x.c[0]? = some (.int .i64 x.h0):=rfl
@[go_sem] theorem Head.cf_putN_h0 (x : Head) (v : Int) : spliceN x.c [.int .i64 v] = ({ x with h0:=v } : Head).c:=rfl
@[go_sem] theorem Head.cf_put_h1 (x : Head) (v : Int) : splice x.c 1 [.int .i64 v] = ({ x with h1:=v } : Head).c:=rfl
@[go_sem] theorem Head.cf_put_h9 (x : Head) (v : Int) : splice x.c 9 [.int .i64 v] = ({ x with h9:=v } : Head).c:=rfl
def Head.z : Head:=⟨0,0,0,0,0,0,0,0,0,0⟩
@[go_sem] theorem Head.zero : zeroAV Tryz.prog 34 = some (.agg Head.z.c):=by kernel_rfl
def Head.ok (x : Head) : Prop:=(IntKind.i64.min <= x.h0 /\ x.h0 <= IntKind.i64.max) /\ (IntKind.i64.min <= x.h1 /\ x.h1 <= IntKind.i64.max) /\ (IntKind.i64.min <= x.h2 /\ x.h2 <= IntKind.i64.max) /\ (IntKind.i64.min <= x.h3 /\ x.h3 <= IntKind.i64.max) /\ (IntKind.i64.min <= x.h4 /\ x.h4 <= IntKind.i64.max) /\ (IntKind.i64.min <= x.h5 /\ x.h5 <= IntKind.i64.max) /\ (IntKind.i64.min <= x.h6 /\ x.h6 <= IntKind.i64.max) /\ (IntKind.i64.min <= x.h7 /\ x.h7 <= IntKind.i64.max) /\ (IntKind.i64.min <= x.h8 /\ x.h8 <= IntKind.i64.max) /\ (IntKind.i64.min <= x.h9 /\ x.h9 <= IntKind.i64.max)
theorem Head.rd {a : AV} (h : Rd Tryz.prog 34 a) : ∃ x : Head,a = .agg x.c /\ x.ok:=by
 obtain ⟨ps,rfl,hp⟩:=Rd.unpack (ts:=[3,3,3,3,3,3,3,3,3,3]) (by kernel_rfl) h
 obtain ⟨a0,a1,a2,a3,a4,a5,a6,a7,a8,a9,rfl,g0,g1,g2,g3,g4,g5,g6,g7,g8,g9⟩:=RdAll.split10 hp
 obtain ⟨v0,rfl,k0⟩:=Rd.int_of (t:=3) (k:=.i64) (by kernel_rfl) g0
 obtain ⟨v1,rfl,k1⟩:=Rd.int_of (t:=3) (k:=.i64) (by kernel_rfl) g1
 obtain ⟨v2,rfl,k2⟩:=Rd.int_of (t:=3) (k:=.i64) (by kernel_rfl) g2
 obtain ⟨v3,rfl,k3⟩:=Rd.int_of (t:=3) (k:=.i64) (by kernel_rfl) g3
 obtain ⟨v4,rfl,k4⟩:=Rd.int_of (t:=3) (k:=.i64) (by kernel_rfl) g4
 obtain ⟨v5,rfl,k5⟩:=Rd.int_of (t:=3) (k:=.i64) (by kernel_rfl) g5
 obtain ⟨v6,rfl,k6⟩:=Rd.int_of (t:=3) (k:=.i64) (by kernel_rfl) g6
 obtain ⟨v7,rfl,k7⟩:=Rd.int_of (t:=3) (k:=.i64) (by kernel_rfl) g7
 obtain ⟨v8,rfl,k8⟩:=Rd.int_of (t:=3) (k:=.i64) (by kernel_rfl) g8
 obtain ⟨v9,rfl,k9⟩:=Rd.int_of (t:=3) (k:=.i64) (by kernel_rfl) g9
 exact ⟨⟨v0,v1,v2,v3,v4,v5,v6,v7,v8,v9⟩,rfl,⟨k0,k1,k2,k3,k4,k5,k6,k7,k8,k9⟩⟩
theorem Head.eq (x y : Head) : aeql Tryz.prog 34 (.agg x.c) (.agg y.c) = some (decide (x = y)):=by
 have e : aeql Tryz.prog 34 (.agg x.c) (.agg y.c) = some ((x.h0 == y.h0) && ((x.h1 == y.h1) && ((x.h2 == y.h2) && ((x.h3 == y.h3) && ((x.h4 == y.h4) && ((x.h5 == y.h5) && ((x.h6 == y.h6) && ((x.h7 == y.h7) && ((x.h8 == y.h8) && ((x.h9 == y.h9) && true)))))))))):=by kernel_rfl
 rw [e,Option.some.injEq,Bool.eq_iff_iff]
 simp [Head.ext_iff]
@[ext] structure Fld where
 name : ByteArray
 at_ : Int
 width : Int
 deriving DecidableEq,Inhabited
def Fld.c (x : Fld) : List AV:=[.str x.name,.int .i64 x.at_,.int .i64 x.width]
theorem Fld.bk1 (x : Fld) : 1 <= bulkL x.c:=by
 have h1 : 1 <= (.str x.name : AV).bulk:=by simp [AV.bulk]
 exact Nat.le_trans h1 (bulk_mem (List.mem_of_getElem? (i:=0) rfl))
@[go_sem] theorem Fld.cf_len (x : Fld) : x.c.length = 3:=rfl
theorem Fld.c_len (x : Fld) : x.c.length = 3:=rfl
@[go_sem] theorem Fld.cf_bor (x : Fld) : x.c.map borrow1 = x.c:=rfl
theorem Fld.c_bor (x : Fld) : x.c.map borrow1 = x.c:=rfl
@[go_sem] theorem Fld.cf_own (x : Fld) : x.c.any owned1 = false:=by
 rfl
@[go_sem] theorem Fld.cf_take (x : Fld) : x.c.take 3 = x.c:=rfl
@[go_sem] theorem Fld.cf_pure (x : Fld) : pureL x.c = true:=by
 simp [Fld.c,pureL,AV.pure]
theorem Fld.c_pure (x : Fld) : pureL x.c = true:=x.cf_pure
@[go_sem] theorem Fld.cf_bnd (k : Nat) (x : Fld) : bndL k x.c = true:=by
 simp [Fld.c,bndL,AV.bnd]
theorem Fld.c_bnd (k : Nat) (x : Fld) : bndL k x.c = true:=Fld.cf_bnd k x
theorem Fld.bk_name {x : Fld} {B : Nat} (h : bulkL x.c <= B) : x.name.size <= B:=bulk_str (List.mem_of_getElem? (i:=0) rfl) h
@[go_sem] theorem Fld.cf_at0 (x : Fld) : x.c[0]? = some (.str x.name):=rfl
@[go_sem] theorem Fld.cf_at1 (x : Fld) : x.c[1]? = some (.int .i64 x.at_):=rfl
@[go_sem] theorem Fld.cf_at2 (x : Fld) : x.c[2]? = some (.int .i64 x.width):=rfl
def Fld.z : Fld:=⟨.empty,0,0⟩
@[go_sem] theorem Fld.zero : zeroAV Tryz.prog 115 = some (.agg Fld.z.c):=by kernel_rfl
def Fld.ok (x : Fld) : Prop:=(x.name.size <= reachBytes) /\ (IntKind.i64.min <= x.at_ /\ x.at_ <= IntKind.i64.max) /\ (IntKind.i64.min <= x.width /\ x.width <= IntKind.i64.max)
theorem Fld.rd {a : AV} (h : Rd Tryz.prog 115 a) : ∃ x : Fld,a = .agg x.c /\ x.ok:=by
 obtain ⟨ps,rfl,hp⟩:=Rd.unpack (ts:=[9,3,3]) (by kernel_rfl) h
 obtain ⟨a0,a1,a2,rfl,g0,g1,g2⟩:=RdAll.split3 hp
 obtain ⟨v0,rfl,k0⟩:=Rd.str_of (t:=9) (by kernel_rfl) g0
 obtain ⟨v1,rfl,k1⟩:=Rd.int_of (t:=3) (k:=.i64) (by kernel_rfl) g1
 obtain ⟨v2,rfl,k2⟩:=Rd.int_of (t:=3) (k:=.i64) (by kernel_rfl) g2
 exact ⟨⟨v0,v1,v2⟩,rfl,⟨k0,k1,k2⟩⟩
theorem Fld.eq (x y : Fld) : aeql Tryz.prog 115 (.agg x.c) (.agg y.c) = some (decide (x = y)):=by
 have e : aeql Tryz.prog 115 (.agg x.c) (.agg y.c) = some ((x.name.toList == y.name.toList) && ((x.at_ == y.at_) && ((x.width == y.width) && true))):=by kernel_rfl
 rw [e,Option.some.injEq,Bool.eq_iff_iff]
 simp [Fld.ext_iff,ByteArray.toList_eq,Array.toList_inj,ByteArray.ext_iff]
@[ext] structure Port where
 name : ByteArray
 edge : Int
 deriving DecidableEq,Inhabited
def Port.c (x : Port) : List AV:=[.str x.name,.int .i64 x.edge]
theorem Port.bk1 (x : Port) : 1 <= bulkL x.c:=by
 have h1 : 1 <= (.str x.name : AV).bulk:=by simp [AV.bulk]
 exact Nat.le_trans h1 (bulk_mem (List.mem_of_getElem? (i:=0) rfl))
@[go_sem] theorem Port.cf_len (x : Port) : x.c.length = 2:=rfl
theorem Port.c_len (x : Port) : x.c.length = 2:=rfl
@[go_sem] theorem Port.cf_bor (x : Port) : x.c.map borrow1 = x.c:=rfl
theorem Port.c_bor (x : Port) : x.c.map borrow1 = x.c:=rfl
@[go_sem] theorem Port.cf_own (x : Port) : x.c.any owned1 = false:=by
 rfl
@[go_sem] theorem Port.cf_take (x : Port) : x.c.take 2 = x.c:=rfl
@[go_sem] theorem Port.cf_pure (x : Port) : pureL x.c = true:=by
 simp [Port.c,pureL,AV.pure]
theorem Port.c_pure (x : Port) : pureL x.c = true:=x.cf_pure
@[go_sem] theorem Port.cf_bnd (k : Nat) (x : Port) : bndL k x.c = true:=by
 simp [Port.c,bndL,AV.bnd]
theorem Port.c_bnd (k : Nat) (x : Port) : bndL k x.c = true:=Port.cf_bnd k x
theorem Port.bk_name {x : Port} {B : Nat} (h : bulkL x.c <= B) : x.name.size <= B:=bulk_str (List.mem_of_getElem? (i:=0) rfl) h
@[go_sem] theorem Port.cf_at0 (x : Port) : x.c[0]? = some (.str x.name):=rfl
@[go_sem] theorem Port.cf_at1 (x : Port) : x.c[1]? = some (.int .i64 x.edge):=rfl
def Port.z : Port:=⟨.empty,0⟩
@[go_sem] theorem Port.zero : zeroAV Tryz.prog 120 = some (.agg Port.z.c):=by kernel_rfl
def Port.ok (x : Port) : Prop:=(x.name.size <= reachBytes) /\ (IntKind.i64.min <= x.edge /\ x.edge <= IntKind.i64.max)
theorem Port.rd {a : AV} (h : Rd Tryz.prog 120 a) : ∃ x : Port,a = .agg x.c /\ x.ok:=by
 obtain ⟨ps,rfl,hp⟩:=Rd.unpack (ts:=[9,3]) (by kernel_rfl) h
 obtain ⟨a0,a1,rfl,g0,g1⟩:=RdAll.split2 hp
 obtain ⟨v0,rfl,k0⟩:=Rd.str_of (t:=9) (by kernel_rfl) g0
 obtain ⟨v1,rfl,k1⟩:=Rd.int_of (t:=3) (k:=.i64) (by kernel_rfl) g1
 exact ⟨⟨v0,v1⟩,rfl,⟨k0,k1⟩⟩
theorem Port.eq (x y : Port) : aeql Tryz.prog 120 (.agg x.c) (.agg y.c) = some (decide (x = y)):=by
 have e : aeql Tryz.prog 120 (.agg x.c) (.agg y.c) = some ((x.name.toList == y.name.toList) && ((x.edge == y.edge) && true)):=by kernel_rfl
 rw [e,Option.some.injEq,Bool.eq_iff_iff]
 simp [Port.ext_iff,ByteArray.toList_eq,Array.toList_inj,ByteArray.ext_iff]
@[ext] structure Wire where
 src : Int
 dst : Int
 deriving DecidableEq,Inhabited
def Wire.c (x : Wire) : List AV:=[.int .i64 x.src,.int .i64 x.dst]
theorem Wire.bk1 (x : Wire) : 1 <= bulkL x.c:=by
 have h1 : 1 <= (.int .i64 x.src : AV).bulk:=by simp [AV.bulk]
 exact Nat.le_trans h1 (bulk_mem (List.mem_of_getElem? (i:=0) rfl))
@[go_sem] theorem Wire.cf_len (x : Wire) : x.c.length = 2:=rfl
theorem Wire.c_len (x : Wire) : x.c.length = 2:=rfl
@[go_sem] theorem Wire.cf_bor (x : Wire) : x.c.map borrow1 = x.c:=rfl
theorem Wire.c_bor (x : Wire) : x.c.map borrow1 = x.c:=rfl
@[go_sem] theorem Wire.cf_own (x : Wire) : x.c.any owned1 = false:=by
 rfl
@[go_sem] theorem Wire.cf_take (x : Wire) : x.c.take 2 = x.c:=rfl
@[go_sem] theorem Wire.cf_pure (x : Wire) : pureL x.c = true:=by
 simp [Wire.c,pureL,AV.pure]
theorem Wire.c_pure (x : Wire) : pureL x.c = true:=x.cf_pure
@[go_sem] theorem Wire.cf_bnd (k : Nat) (x : Wire) : bndL k x.c = true:=by
 simp [Wire.c,bndL,AV.bnd]
theorem Wire.c_bnd (k : Nat) (x : Wire) : bndL k x.c = true:=Wire.cf_bnd k x
@[go_sem] theorem Wire.cf_at0 (x : Wire) : x.c[0]? = some (.int .i64 x.src):=rfl
@[go_sem] theorem Wire.cf_at1 (x : Wire) : x.c[1]? = some (.int .i64 x.dst):=rfl
def Wire.z : Wire:=⟨0,0⟩
@[go_sem] theorem Wire.zero : zeroAV Tryz.prog 252 = some (.agg Wire.z.c):=by kernel_rfl
def Wire.ok (x : Wire) : Prop:=(IntKind.i64.min <= x.src /\ x.src <= IntKind.i64.max) /\ (IntKind.i64.min <= x.dst /\ x.dst <= IntKind.i64.max)
theorem Wire.rd {a : AV} (h : Rd Tryz.prog 252 a) : ∃ x : Wire,a = .agg x.c /\ x.ok:=by
 obtain ⟨ps,rfl,hp⟩:=Rd.unpack (ts:=[3,3]) (by kernel_rfl) h
 obtain ⟨a0,a1,rfl,g0,g1⟩:=RdAll.split2 hp
 obtain ⟨v0,rfl,k0⟩:=Rd.int_of (t:=3) (k:=.i64) (by kernel_rfl) g0
 obtain ⟨v1,rfl,k1⟩:=Rd.int_of (t:=3) (k:=.i64) (by kernel_rfl) g1
 exact ⟨⟨v0,v1⟩,rfl,⟨k0,k1⟩⟩
theorem Wire.eq (x y : Wire) : aeql Tryz.prog 252 (.agg x.c) (.agg y.c) = some (decide (x = y)):=by
 have e : aeql Tryz.prog 252 (.agg x.c) (.agg y.c) = some ((x.src == y.src) && ((x.dst == y.dst) && true)):=by kernel_rfl
 rw [e,Option.some.injEq,Bool.eq_iff_iff]
 simp [Wire.ext_iff]
structure Pred where
 kind : Int
 field : ByteArray
 n : Int
 m : Int
 args : List Pred
instance : Inhabited Pred:=⟨⟨default,default,default,default,default⟩⟩
mutual
def Pred.e : Pred -> AV
 | ⟨v0,v1,v2,v3,v4⟩ => .agg [.int .i64 v0,.str v1,.int .i64 v2,.int .i64 v3,.sl none (Pred.es v4)]
def Pred.es : List Pred -> List AV
 | [] => []
 | x :: l => Pred.e x :: Pred.es l
end
abbrev lPred : List Pred -> List AV:=Pred.es
mutual
theorem Pred.e_pure : ∀ x : Pred,(x.e).pure = true
 | ⟨v0,v1,v2,v3,v4⟩ => by simp [Pred.e,AV.pure,pureL,Pred.es_pure v4]
theorem Pred.es_pure : ∀ l : List Pred,pureL (Pred.es l) = true
 | [] => rfl
 | x :: l => by simp [Pred.es,pureL,Pred.e_pure x,Pred.es_pure l]
end
mutual
theorem Pred.e_bnd (k : Nat) : ∀ x : Pred,(x.e).bnd k = true
 | ⟨v0,v1,v2,v3,v4⟩ => by simp [Pred.e,AV.bnd,bndL,Pred.es_bnd k v4]
theorem Pred.es_bnd (k : Nat) : ∀ l : List Pred,bndL k (Pred.es l) = true
 | [] => rfl
 | x :: l => by simp [Pred.es,bndL,Pred.e_bnd k x,Pred.es_bnd k l]
end
@[go_sem] theorem lPred_pure (l : List Pred) : pureL (lPred l) = true:=Pred.es_pure l
@[go_sem] theorem lPred_bnd (k : Nat) (l : List Pred) : bndL k (lPred l) = true:=Pred.es_bnd k l
theorem Pred.ind (p : Pred -> Prop) (h : ∀ x : Pred,(∀ y ∈ x.args,p y) -> p x) : ∀ x,p x :=
 fun x => Pred.rec (motive_1:=p) (motive_2:=fun l => ∀ y ∈ l,p y) (fun v0 v1 v2 v3 v4 ih => h ⟨v0,v1,v2,v3,v4⟩ ih) (fun y hy => by cases hy) (fun x l h1 h2 y hy => by
  rcases List.mem_cons.1 hy with rfl | hy
  ·exact h1
  ·exact h2 y hy) x
def Pred.cf (x : Pred) (o0 : Option Nat) : List AV:=[.int .i64 x.kind,.str x.field,.int .i64 x.n,.int .i64 x.m,.sl o0 (lPred x.args)]
abbrev Pred.c (x : Pred) : List AV:=x.cf none
abbrev Pred.co (x : Pred) : List AV:=x.cf (some 5)
theorem Pred.bk1 (x : Pred) : 1 <= bulkL x.c:=by
 have h1 : 1 <= (.int .i64 x.kind : AV).bulk:=by simp [AV.bulk]
 exact Nat.le_trans h1 (bulk_mem (List.mem_of_getElem? (i:=0) rfl))
theorem Pred.e_eq (x : Pred) : x.e = .agg x.c:=by cases x; rfl
theorem lPred_eq (l : List Pred) : lPred l = l.map fun x => .agg x.c:=by
 induction l with
 | nil => rfl
 | cons x l ih => show x.e :: Pred.es l = _; rw [show Pred.es l = _ from ih,Pred.e_eq]; rfl
@[go_sem] theorem lPred_len (l : List Pred) : (lPred l).length = l.length:=by simp [lPred_eq]
theorem lPred_get {l : List Pred} {i : Nat} {x : Pred} (h : l[i]? = some x) : (lPred l)[i]? = some (.agg x.c):=by simp [lPred_eq,h]
theorem lPred_mem {l : List Pred} {x : Pred} (h : x ∈ l) : .agg x.c ∈ lPred l:=by rw [lPred_eq]; exact List.mem_map.2 ⟨x,h,rfl⟩
theorem lPred_cells (l : List Pred) : ∀ x ∈ lPred l,x.cells.length = 5:=by
 intro x hx; rw [lPred_eq] at hx; obtain ⟨y,_,rfl⟩:=List.mem_map.1 hx; rfl
@[go_sem] theorem lPred_cells' (l : List Pred) : (∀ x ∈ lPred l,x.cells.length = 5) = True:=eq_true (lPred_cells l)
@[go_sem] theorem lPred_nil : lPred [] = []:=rfl
@[go_sem] theorem lPred_takeF (l : List Pred) (k : Nat) : (lPred l).take k = lPred (l.take k):=by simp [lPred_eq]
@[go_sem] theorem lPred_dropF (l : List Pred) (k : Nat) : (lPred l).drop k = lPred (l.drop k):=by simp [lPred_eq]
@[go_sem] theorem lPred_app (a b : List Pred) : lPred a ++ lPred b = lPred (a ++ b):=by simp [lPred_eq]
theorem lPred_bk {l : List Pred} {B : Nat} (h : bulkL (lPred l) <= B) {x : Pred} (hx : x ∈ l) : (.agg x.c : AV).bulk <= B:=Nat.le_trans (bulk_mem (lPred_mem hx)) h
theorem lPred_bn {l : List Pred} {B : Nat} (h : bulkL (lPred l) <= B) : l.length <= B:=by
 refine Nat.le_trans ?_ h
 rw [lPred_eq]; exact bulk_cnt (f:=fun (x : Pred) => .agg x.c) (fun x => by exact Pred.bk1 x) l
@[go_sem] theorem Pred.cf_len (x : Pred) (o0 : Option Nat) : (x.cf o0).length = 5:=rfl
theorem Pred.c_len (x : Pred) : x.c.length = 5:=rfl
@[go_sem] theorem Pred.cf_bor (x : Pred) (o0 : Option Nat) : (x.cf o0).map borrow1 = x.cf none:=rfl
theorem Pred.c_bor (x : Pred) : x.c.map borrow1 = x.c:=rfl
@[go_sem] theorem Pred.cf_own (x : Pred) (o0 : Option Nat) : (x.cf o0).any owned1 = (o0.isSome):=by
 cases o0 <;> rfl
@[go_sem] theorem Pred.cf_take (x : Pred) (o0 : Option Nat) : (x.cf o0).take 5 = x.cf o0:=rfl
@[go_sem] theorem Pred.cf_pure (x : Pred) (o0 : Option Nat) : pureL (x.cf o0) = true:=by
 simp [Pred.cf,pureL,AV.pure,lPred_pure]
theorem Pred.c_pure (x : Pred) : pureL x.c = true:=x.cf_pure none
@[go_sem] theorem Pred.cf_bnd (k : Nat) (x : Pred) (o0 : Option Nat) : bndL k (x.cf o0) = true:=by
 simp [Pred.cf,bndL,AV.bnd,lPred_bnd]
theorem Pred.c_bnd (k : Nat) (x : Pred) : bndL k x.c = true:=Pred.cf_bnd k x none
theorem Pred.fit_args {x : Pred} (h : fitL x.c) : x.args.length <= 9223372036854775807:=by
 have h1 : (AV.sl none (lPred x.args)).fit:=fitL_iff.1 h _ (List.mem_of_getElem? (i:=4) rfl)
 have h2:=h1.1
 rwa [lPred_len] at h2
theorem Pred.in_args {x : Pred} (h : fitL x.c) {y : Pred} (hy : y ∈ x.args) : fitL y.c:=by
 have h1 : (AV.sl none (lPred x.args)).fit:=fitL_iff.1 h _ (List.mem_of_getElem? (i:=4) rfl)
 exact fitL_iff.1 h1.2 _ (lPred_mem hy)
theorem Pred.bk_field {x : Pred} {B : Nat} (h : bulkL x.c <= B) : x.field.size <= B:=bulk_str (List.mem_of_getElem? (i:=1) rfl) h
theorem Pred.bl_args {x : Pred} {B : Nat} (h : bulkL x.c <= B) : bulkL (lPred x.args) <= B:=bulk_sl (o:=none) (List.mem_of_getElem? (i:=4) rfl) h
@[go_sem] theorem Pred.cf_at0 (x : Pred) (o0 : Option Nat) : (x.cf o0)[0]? = some (.int .i64 x.kind):=rfl
@[go_sem] theorem Pred.cf_at1 (x : Pred) (o0 : Option Nat) : (x.cf o0)[1]? = some (.str x.field):=rfl
@[go_sem] theorem Pred.cf_at2 (x : Pred) (o0 : Option Nat) : (x.cf o0)[2]? = some (.int .i64 x.n):=rfl
@[go_sem] theorem Pred.cf_at3 (x : Pred) (o0 : Option Nat) : (x.cf o0)[3]? = some (.int .i64 x.m):=rfl
@[go_sem] theorem Pred.cf_at4 (x : Pred) (o0 : Option Nat) : (x.cf o0)[4]? = some (.sl o0 (lPred x.args)):=rfl
def Pred.z : Pred:=⟨0,.empty,0,0,[]⟩
@[go_sem] theorem Pred.zero : zeroAV Tryz.prog 64 = some (.agg (Pred.z.cf (some 5))):=by kernel_rfl
mutual
def Pred.ok : Pred -> Prop
 | ⟨v0,v1,v2,v3,v4⟩ => (IntKind.i64.min <= v0 /\ v0 <= IntKind.i64.max) /\ (v1.size <= reachBytes) /\ (IntKind.i64.min <= v2 /\ v2 <= IntKind.i64.max) /\ (IntKind.i64.min <= v3 /\ v3 <= IntKind.i64.max) /\ (v4.length * 64 <= reachBytes /\ Pred.oks v4)
def Pred.oks : List Pred -> Prop
 | [] => True
 | x :: l => Pred.ok x /\ Pred.oks l
end
theorem Pred.oks_iff (l : List Pred) : Pred.oks l ↔ ∀ x ∈ l,x.ok:=by
 induction l with
 | nil => simp [Pred.oks]
 | cons x l ih => simp [Pred.oks,ih]
def lPred_ok (l : List Pred) : Prop:=l.length * 64 <= reachBytes /\ ∀ x ∈ l,x.ok
theorem Pred.ok_iff (x : Pred) : x.ok ↔ (IntKind.i64.min <= x.kind /\ x.kind <= IntKind.i64.max) /\ (x.field.size <= reachBytes) /\ (IntKind.i64.min <= x.n /\ x.n <= IntKind.i64.max) /\ (IntKind.i64.min <= x.m /\ x.m <= IntKind.i64.max) /\ (lPred_ok x.args):=by
 cases x
 simp only [Pred.ok,lPred_ok,Pred.oks_iff]
theorem Pred.rdn : ∀ (n : Nat) {a : AV},SizeOf.sizeOf a <= n -> Rd Tryz.prog 64 a -> ∃ x : Pred,a = .agg x.c /\ x.ok
 | 0,a,hn,h => by cases a <;> simp at hn
 | n + 1,a,hn,h => by
  obtain ⟨ps,rfl,hp⟩:=Rd.unpack (ts:=[3,9,3,3,62]) (by kernel_rfl) h
  obtain ⟨a0,a1,a2,a3,a4,rfl,g0,g1,g2,g3,g4⟩:=RdAll.split5 hp
  obtain ⟨v0,rfl,k0⟩:=Rd.int_of (t:=3) (k:=.i64) (by kernel_rfl) g0
  obtain ⟨v1,rfl,k1⟩:=Rd.str_of (t:=9) (by kernel_rfl) g1
  obtain ⟨v2,rfl,k2⟩:=Rd.int_of (t:=3) (k:=.i64) (by kernel_rfl) g2
  obtain ⟨v3,rfl,k3⟩:=Rd.int_of (t:=3) (k:=.i64) (by kernel_rfl) g3
  obtain ⟨es,rfl,hb,he⟩:=Rd.list_raw (e:=64) (by kernel_rfl) g4
  obtain ⟨v4,rfl,hok⟩:=list_of (f:=fun x : Pred => .agg x.c) (ok:=Pred.ok) fun x hx => Pred.rdn n (by
   have h1:=List.sizeOf_lt_of_mem hx
   have h2:=Nat.lt_of_lt_of_le (sl_size (o:=none) (es:=es) (by simp [cat,AV.cells])) hn
   omega) (he x hx)
  rw [List.length_map,show Tryz.prog.bytesOf 64 = 64 by kernel_rfl] at hb
  refine ⟨⟨v0,v1,v2,v3,v4⟩, ?_,(Pred.ok_iff _).2 ⟨k0,k1,k2,k3,⟨hb,hok⟩⟩⟩
  rw [<- lPred_eq]; rfl
theorem Pred.rd {a : AV} (h : Rd Tryz.prog 64 a) : ∃ x : Pred,a = .agg x.c /\ x.ok:=Pred.rdn _ (Nat.le_refl _) h
structure Policy where
 kind : Int
 pred : Pred
 field : ByteArray
 n : Int
 args : List Policy
instance : Inhabited Policy:=⟨⟨default,default,default,default,default⟩⟩
mutual
def Policy.e : Policy -> AV
 | ⟨v0,v1,v2,v3,v4⟩ => .agg [.int .i64 v0,.int .i64 v1.kind,.str v1.field,.int .i64 v1.n,.int .i64 v1.m,.sl none (lPred v1.args),.str v2,.int .i64 v3,.sl none (Policy.es v4)]
def Policy.es : List Policy -> List AV
 | [] => []
 | x :: l => Policy.e x :: Policy.es l
end
abbrev lPolicy : List Policy -> List AV:=Policy.es
mutual
theorem Policy.e_pure : ∀ x : Policy,(x.e).pure = true
 | ⟨v0,v1,v2,v3,v4⟩ => by simp [Policy.e,AV.pure,pureL,Policy.es_pure v4,lPred_pure]
theorem Policy.es_pure : ∀ l : List Policy,pureL (Policy.es l) = true
 | [] => rfl
 | x :: l => by simp [Policy.es,pureL,Policy.e_pure x,Policy.es_pure l]
end
mutual
theorem Policy.e_bnd (k : Nat) : ∀ x : Policy,(x.e).bnd k = true
 | ⟨v0,v1,v2,v3,v4⟩ => by simp [Policy.e,AV.bnd,bndL,Policy.es_bnd k v4,lPred_bnd]
theorem Policy.es_bnd (k : Nat) : ∀ l : List Policy,bndL k (Policy.es l) = true
 | [] => rfl
 | x :: l => by simp [Policy.es,bndL,Policy.e_bnd k x,Policy.es_bnd k l]
end
@[go_sem] theorem lPolicy_pure (l : List Policy) : pureL (lPolicy l) = true:=Policy.es_pure l
@[go_sem] theorem lPolicy_bnd (k : Nat) (l : List Policy) : bndL k (lPolicy l) = true:=Policy.es_bnd k l
theorem Policy.ind (p : Policy -> Prop) (h : ∀ x : Policy,(∀ y ∈ x.args,p y) -> p x) : ∀ x,p x :=
 fun x => Policy.rec (motive_1:=p) (motive_2:=fun l => ∀ y ∈ l,p y) (fun v0 v1 v2 v3 v4 ih => h ⟨v0,v1,v2,v3,v4⟩ ih) (fun y hy => by cases hy) (fun x l h1 h2 y hy => by
  rcases List.mem_cons.1 hy with rfl | hy
  ·exact h1
  ·exact h2 y hy) x
def Policy.cf (x : Policy) (o0 o1 : Option Nat) : List AV:=[.int .i64 x.kind,.int .i64 x.pred.kind,.str x.pred.field,.int .i64 x.pred.n,.int .i64 x.pred.m,.sl o0 (lPred x.pred.args),.str x.field,.int .i64 x.n,.sl o1 (lPolicy x.args)]
abbrev Policy.c (x : Policy) : List AV:=x.cf none none
abbrev Policy.co (x : Policy) : List AV:=x.cf (some 5) (some 9)
theorem Policy.bk1 (x : Policy) : 1 <= bulkL x.c:=by
 have h1 : 1 <= (.int .i64 x.kind : AV).bulk:=by simp [AV.bulk]
 exact Nat.le_trans h1 (bulk_mem (List.mem_of_getElem? (i:=0) rfl))
theorem Policy.e_eq (x : Policy) : x.e = .agg x.c:=by cases x; rfl
theorem lPolicy_eq (l : List Policy) : lPolicy l = l.map fun x => .agg x.c:=by
 induction l with
 | nil => rfl
 | cons x l ih => show x.e :: Policy.es l = _; rw [show Policy.es l = _ from ih,Policy.e_eq]; rfl
@[go_sem] theorem lPolicy_len (l : List Policy) : (lPolicy l).length = l.length:=by simp [lPolicy_eq]
theorem lPolicy_get {l : List Policy} {i : Nat} {x : Policy} (h : l[i]? = some x) : (lPolicy l)[i]? = some (.agg x.c):=by simp [lPolicy_eq,h]
theorem lPolicy_mem {l : List Policy} {x : Policy} (h : x ∈ l) : .agg x.c ∈ lPolicy l:=by rw [lPolicy_eq]; exact List.mem_map.2 ⟨x,h,rfl⟩
theorem lPolicy_cells (l : List Policy) : ∀ x ∈ lPolicy l,x.cells.length = 9:=by
 intro x hx; rw [lPolicy_eq] at hx; obtain ⟨y,_,rfl⟩:=List.mem_map.1 hx; rfl
@[go_sem] theorem lPolicy_cells' (l : List Policy) : (∀ x ∈ lPolicy l,x.cells.length = 9) = True:=eq_true (lPolicy_cells l)
@[go_sem] theorem lPolicy_nil : lPolicy [] = []:=rfl
@[go_sem] theorem lPolicy_takeF (l : List Policy) (k : Nat) : (lPolicy l).take k = lPolicy (l.take k):=by simp [lPolicy_eq]
@[go_sem] theorem lPolicy_dropF (l : List Policy) (k : Nat) : (lPolicy l).drop k = lPolicy (l.drop k):=by simp [lPolicy_eq]
@[go_sem] theorem lPolicy_app (a b : List Policy) : lPolicy a ++ lPolicy b = lPolicy (a ++ b):=by simp [lPolicy_eq]
theorem lPolicy_bk {l : List Policy} {B : Nat} (h : bulkL (lPolicy l) <= B) {x : Policy} (hx : x ∈ l) : (.agg x.c : AV).bulk <= B:=Nat.le_trans (bulk_mem (lPolicy_mem hx)) h
theorem lPolicy_bn {l : List Policy} {B : Nat} (h : bulkL (lPolicy l) <= B) : l.length <= B:=by
 refine Nat.le_trans ?_ h
 rw [lPolicy_eq]; exact bulk_cnt (f:=fun (x : Policy) => .agg x.c) (fun x => by exact Policy.bk1 x) l
@[go_sem] theorem Policy.cf_len (x : Policy) (o0 o1 : Option Nat) : (x.cf o0 o1).length = 9:=rfl
theorem Policy.c_len (x : Policy) : x.c.length = 9:=rfl
@[go_sem] theorem Policy.cf_bor (x : Policy) (o0 o1 : Option Nat) : (x.cf o0 o1).map borrow1 = x.cf none none:=rfl
theorem Policy.c_bor (x : Policy) : x.c.map borrow1 = x.c:=rfl
@[go_sem] theorem Policy.cf_own (x : Policy) (o0 o1 : Option Nat) : (x.cf o0 o1).any owned1 = (o0.isSome || o1.isSome):=by
 cases o0 <;> cases o1 <;> rfl
@[go_sem] theorem Policy.cf_take (x : Policy) (o0 o1 : Option Nat) : (x.cf o0 o1).take 9 = x.cf o0 o1:=rfl
@[go_sem] theorem Policy.cf_pure (x : Policy) (o0 o1 : Option Nat) : pureL (x.cf o0 o1) = true:=by
 simp [Policy.cf,pureL,AV.pure,lPolicy_pure,lPred_pure]
theorem Policy.c_pure (x : Policy) : pureL x.c = true:=x.cf_pure none none
@[go_sem] theorem Policy.cf_bnd (k : Nat) (x : Policy) (o0 o1 : Option Nat) : bndL k (x.cf o0 o1) = true:=by
 simp [Policy.cf,bndL,AV.bnd,lPolicy_bnd,lPred_bnd]
theorem Policy.c_bnd (k : Nat) (x : Policy) : bndL k x.c = true:=Policy.cf_bnd k x none none
theorem Policy.fit_pred_args {x : Policy} (h : fitL x.c) : x.pred.args.length <= 9223372036854775807:=by
 have h1 : (AV.sl none (lPred x.pred.args)).fit:=fitL_iff.1 h _ (List.mem_of_getElem? (i:=5) rfl)
 have h2:=h1.1
 rwa [lPred_len] at h2
theorem Policy.in_pred_args {x : Policy} (h : fitL x.c) {y : Pred} (hy : y ∈ x.pred.args) : fitL y.c:=by
 have h1 : (AV.sl none (lPred x.pred.args)).fit:=fitL_iff.1 h _ (List.mem_of_getElem? (i:=5) rfl)
 exact fitL_iff.1 h1.2 _ (lPred_mem hy)
theorem Policy.fit_args {x : Policy} (h : fitL x.c) : x.args.length <= 9223372036854775807:=by
 have h1 : (AV.sl none (lPolicy x.args)).fit:=fitL_iff.1 h _ (List.mem_of_getElem? (i:=8) rfl)
 have h2:=h1.1
 rwa [lPolicy_len] at h2
theorem Policy.in_args {x : Policy} (h : fitL x.c) {y : Policy} (hy : y ∈ x.args) : fitL y.c:=by
 have h1 : (AV.sl none (lPolicy x.args)).fit:=fitL_iff.1 h _ (List.mem_of_getElem? (i:=8) rfl)
 exact fitL_iff.1 h1.2 _ (lPolicy_mem hy)
theorem Policy.bs_pred {x : Policy} {B : Nat} (h : bulkL x.c <= B) : bulkL x.pred.c <= B:=by
 have h1:=bulkL_part x.c 1 5
 rw [show (x.c.drop 1).take 5 = x.pred.c from rfl] at h1
 omega
theorem Policy.bk_pred_field {x : Policy} {B : Nat} (h : bulkL x.c <= B) : x.pred.field.size <= B:=bulk_str (List.mem_of_getElem? (i:=2) rfl) h
theorem Policy.bl_pred_args {x : Policy} {B : Nat} (h : bulkL x.c <= B) : bulkL (lPred x.pred.args) <= B:=bulk_sl (o:=none) (List.mem_of_getElem? (i:=5) rfl) h
theorem Policy.bk_field {x : Policy} {B : Nat} (h : bulkL x.c <= B) : x.field.size <= B:=bulk_str (List.mem_of_getElem? (i:=6) rfl) h
theorem Policy.bl_args {x : Policy} {B : Nat} (h : bulkL x.c <= B) : bulkL (lPolicy x.args) <= B:=bulk_sl (o:=none) (List.mem_of_getElem? (i:=8) rfl) h
@[go_sem] theorem Policy.cf_at0 (x : Policy) (o0 o1 : Option Nat) : (x.cf o0 o1)[0]? = some (.int .i64 x.kind):=rfl
@[go_sem] theorem Policy.cf_at6 (x : Policy) (o0 o1 : Option Nat) : (x.cf o0 o1)[6]? = some (.str x.field):=rfl
@[go_sem] theorem Policy.cf_at7 (x : Policy) (o0 o1 : Option Nat) : (x.cf o0 o1)[7]? = some (.int .i64 x.n):=rfl
@[go_sem] theorem Policy.cf_at8 (x : Policy) (o0 o1 : Option Nat) : (x.cf o0 o1)[8]? = some (.sl o1 (lPolicy x.args)):=rfl
@[go_sem] theorem Policy.cf_part_pred (x : Policy) (o0 o1 : Option Nat) : ((x.cf o0 o1).drop 1).take 5 = x.pred.cf o0:=rfl
def Policy.z : Policy:=⟨0,⟨0,.empty,0,0,[]⟩,.empty,0,[]⟩
@[go_sem] theorem Policy.zero : zeroAV Tryz.prog 123 = some (.agg (Policy.z.cf (some 5) (some 9))):=by kernel_rfl
mutual
def Policy.ok : Policy -> Prop
 | ⟨v0,v1,v2,v3,v4⟩ => (IntKind.i64.min <= v0 /\ v0 <= IntKind.i64.max) /\ (v1.ok) /\ (v2.size <= reachBytes) /\ (IntKind.i64.min <= v3 /\ v3 <= IntKind.i64.max) /\ (v4.length * 120 <= reachBytes /\ Policy.oks v4)
def Policy.oks : List Policy -> Prop
 | [] => True
 | x :: l => Policy.ok x /\ Policy.oks l
end
theorem Policy.oks_iff (l : List Policy) : Policy.oks l ↔ ∀ x ∈ l,x.ok:=by
 induction l with
 | nil => simp [Policy.oks]
 | cons x l ih => simp [Policy.oks,ih]
def lPolicy_ok (l : List Policy) : Prop:=l.length * 120 <= reachBytes /\ ∀ x ∈ l,x.ok
theorem Policy.ok_iff (x : Policy) : x.ok ↔ (IntKind.i64.min <= x.kind /\ x.kind <= IntKind.i64.max) /\ (x.pred.ok) /\ (x.field.size <= reachBytes) /\ (IntKind.i64.min <= x.n /\ x.n <= IntKind.i64.max) /\ (lPolicy_ok x.args):=by
 cases x
 simp only [Policy.ok,lPolicy_ok,Policy.oks_iff]
theorem Policy.rdn : ∀ (n : Nat) {a : AV},SizeOf.sizeOf a <= n -> Rd Tryz.prog 123 a -> ∃ x : Policy,a = .agg x.c /\ x.ok
 | 0,a,hn,h => by cases a <;> simp at hn
 | n + 1,a,hn,h => by
  obtain ⟨ps,rfl,hp⟩:=Rd.unpack (ts:=[3,64,9,3,121]) (by kernel_rfl) h
  obtain ⟨a0,a1,a2,a3,a4,rfl,g0,g1,g2,g3,g4⟩:=RdAll.split5 hp
  obtain ⟨v0,rfl,k0⟩:=Rd.int_of (t:=3) (k:=.i64) (by kernel_rfl) g0
  obtain ⟨v1,rfl,k1⟩:=Pred.rd g1
  obtain ⟨v2,rfl,k2⟩:=Rd.str_of (t:=9) (by kernel_rfl) g2
  obtain ⟨v3,rfl,k3⟩:=Rd.int_of (t:=3) (k:=.i64) (by kernel_rfl) g3
  obtain ⟨es,rfl,hb,he⟩:=Rd.list_raw (e:=123) (by kernel_rfl) g4
  obtain ⟨v4,rfl,hok⟩:=list_of (f:=fun x : Policy => .agg x.c) (ok:=Policy.ok) fun x hx => Policy.rdn n (by
   have h1:=List.sizeOf_lt_of_mem hx
   have h2:=Nat.lt_of_lt_of_le (sl_size (o:=none) (es:=es) (by simp [cat,AV.cells])) hn
   omega) (he x hx)
  rw [List.length_map,show Tryz.prog.bytesOf 123 = 120 by kernel_rfl] at hb
  refine ⟨⟨v0,v1,v2,v3,v4⟩, ?_,(Policy.ok_iff _).2 ⟨k0,k1,k2,k3,⟨hb,hok⟩⟩⟩
  rw [<- lPolicy_eq]; rfl
theorem Policy.rd {a : AV} (h : Rd Tryz.prog 123 a) : ∃ x : Policy,a = .agg x.c /\ x.ok:=Policy.rdn _ (Nat.le_refl _) h
structure Regex where
 kind : Int
 node : ByteArray
 args : List Regex
instance : Inhabited Regex:=⟨⟨default,default,default⟩⟩
mutual
def Regex.e : Regex -> AV
 | ⟨v0,v1,v2⟩ => .agg [.int .i64 v0,.str v1,.sl none (Regex.es v2)]
def Regex.es : List Regex -> List AV
 | [] => []
 | x :: l => Regex.e x :: Regex.es l
end
abbrev lRegex : List Regex -> List AV:=Regex.es
mutual
theorem Regex.e_pure : ∀ x : Regex,(x.e).pure = true
 | ⟨v0,v1,v2⟩ => by simp [Regex.e,AV.pure,pureL,Regex.es_pure v2]
theorem Regex.es_pure : ∀ l : List Regex,pureL (Regex.es l) = true
 | [] => rfl
 | x :: l => by simp [Regex.es,pureL,Regex.e_pure x,Regex.es_pure l]
end
mutual
theorem Regex.e_bnd (k : Nat) : ∀ x : Regex,(x.e).bnd k = true
 | ⟨v0,v1,v2⟩ => by simp [Regex.e,AV.bnd,bndL,Regex.es_bnd k v2]
theorem Regex.es_bnd (k : Nat) : ∀ l : List Regex,bndL k (Regex.es l) = true
 | [] => rfl
 | x :: l => by simp [Regex.es,bndL,Regex.e_bnd k x,Regex.es_bnd k l]
end
@[go_sem] theorem lRegex_pure (l : List Regex) : pureL (lRegex l) = true:=Regex.es_pure l
@[go_sem] theorem lRegex_bnd (k : Nat) (l : List Regex) : bndL k (lRegex l) = true:=Regex.es_bnd k l
theorem Regex.ind (p : Regex -> Prop) (h : ∀ x : Regex,(∀ y ∈ x.args,p y) -> p x) : ∀ x,p x :=
 fun x => Regex.rec (motive_1:=p) (motive_2:=fun l => ∀ y ∈ l,p y) (fun v0 v1 v2 ih => h ⟨v0,v1,v2⟩ ih) (fun y hy => by cases hy) (fun x l h1 h2 y hy => by
  rcases List.mem_cons.1 hy with rfl | hy
  ·exact h1
  ·exact h2 y hy) x
def Regex.cf (x : Regex) (o0 : Option Nat) : List AV:=[.int .i64 x.kind,.str x.node,.sl o0 (lRegex x.args)]
abbrev Regex.c (x : Regex) : List AV:=x.cf none
abbrev Regex.co (x : Regex) : List AV:=x.cf (some 3)
theorem Regex.bk1 (x : Regex) : 1 <= bulkL x.c:=by
 have h1 : 1 <= (.int .i64 x.kind : AV).bulk:=by simp [AV.bulk]
 exact Nat.le_trans h1 (bulk_mem (List.mem_of_getElem? (i:=0) rfl))
theorem Regex.e_eq (x : Regex) : x.e = .agg x.c:=by cases x; rfl
theorem lRegex_eq (l : List Regex) : lRegex l = l.map fun x => .agg x.c:=by
 induction l with
 | nil => rfl
 | cons x l ih => show x.e :: Regex.es l = _; rw [show Regex.es l = _ from ih,Regex.e_eq]; rfl
@[go_sem] theorem lRegex_len (l : List Regex) : (lRegex l).length = l.length:=by simp [lRegex_eq]
theorem lRegex_get {l : List Regex} {i : Nat} {x : Regex} (h : l[i]? = some x) : (lRegex l)[i]? = some (.agg x.c):=by simp [lRegex_eq,h]
theorem lRegex_mem {l : List Regex} {x : Regex} (h : x ∈ l) : .agg x.c ∈ lRegex l:=by rw [lRegex_eq]; exact List.mem_map.2 ⟨x,h,rfl⟩
theorem lRegex_bk {l : List Regex} {B : Nat} (h : bulkL (lRegex l) <= B) {x : Regex} (hx : x ∈ l) : (.agg x.c : AV).bulk <= B:=Nat.le_trans (bulk_mem (lRegex_mem hx)) h
theorem lRegex_bn {l : List Regex} {B : Nat} (h : bulkL (lRegex l) <= B) : l.length <= B:=by
 refine Nat.le_trans ?_ h
 rw [lRegex_eq]; exact bulk_cnt (f:=fun (x : Regex) => .agg x.c) (fun x => by exact Regex.bk1 x) l
@[go_sem] theorem Regex.cf_len (x : Regex) (o0 : Option Nat) : (x.cf o0).length = 3:=rfl
theorem Regex.c_len (x : Regex) : x.c.length = 3:=rfl
@[go_sem] theorem Regex.cf_bor (x : Regex) (o0 : Option Nat) : (x.cf o0).map borrow1 = x.cf none:=rfl
theorem Regex.c_bor (x : Regex) : x.c.map borrow1 = x.c:=rfl
@[go_sem] theorem Regex.cf_own (x : Regex) (o0 : Option Nat) : (x.cf o0).any owned1 = (o0.isSome):=by
 cases o0 <;> rfl
@[go_sem] theorem Regex.cf_take (x : Regex) (o0 : Option Nat) : (x.cf o0).take 3 = x.cf o0:=rfl
@[go_sem] theorem Regex.cf_pure (x : Regex) (o0 : Option Nat) : pureL (x.cf o0) = true:=by
 simp [Regex.cf,pureL,AV.pure,lRegex_pure]
theorem Regex.c_pure (x : Regex) : pureL x.c = true:=x.cf_pure none
@[go_sem] theorem Regex.cf_bnd (k : Nat) (x : Regex) (o0 : Option Nat) : bndL k (x.cf o0) = true:=by
 simp [Regex.cf,bndL,AV.bnd,lRegex_bnd]
theorem Regex.c_bnd (k : Nat) (x : Regex) : bndL k x.c = true:=Regex.cf_bnd k x none
theorem Regex.fit_args {x : Regex} (h : fitL x.c) : x.args.length <= 9223372036854775807:=by
 have h1 : (AV.sl none (lRegex x.args)).fit:=fitL_iff.1 h _ (List.mem_of_getElem? (i:=2) rfl)
 have h2:=h1.1
 rwa [lRegex_len] at h2
theorem Regex.in_args {x : Regex} (h : fitL x.c) {y : Regex} (hy : y ∈ x.args) : fitL y.c:=by
 have h1 : (AV.sl none (lRegex x.args)).fit:=fitL_iff.1 h _ (List.mem_of_getElem? (i:=2) rfl)
 exact fitL_iff.1 h1.2 _ (lRegex_mem hy)
theorem Regex.bk_node {x : Regex} {B : Nat} (h : bulkL x.c <= B) : x.node.size <= B:=bulk_str (List.mem_of_getElem? (i:=1) rfl) h
theorem Regex.bl_args {x : Regex} {B : Nat} (h : bulkL x.c <= B) : bulkL (lRegex x.args) <= B:=bulk_sl (o:=none) (List.mem_of_getElem? (i:=2) rfl) h
@[go_sem] theorem Regex.cf_at0 (x : Regex) (o0 : Option Nat) : (x.cf o0)[0]? = some (.int .i64 x.kind):=rfl
@[go_sem] theorem Regex.cf_at1 (x : Regex) (o0 : Option Nat) : (x.cf o0)[1]? = some (.str x.node):=rfl
@[go_sem] theorem Regex.cf_at2 (x : Regex) (o0 : Option Nat) : (x.cf o0)[2]? = some (.sl o0 (lRegex x.args)):=rfl
def Regex.z : Regex:=⟨0,.empty,[]⟩
@[go_sem] theorem Regex.zero : zeroAV Tryz.prog 214 = some (.agg (Regex.z.cf (some 3))):=by kernel_rfl
mutual
def Regex.ok : Regex -> Prop
 | ⟨v0,v1,v2⟩ => (IntKind.i64.min <= v0 /\ v0 <= IntKind.i64.max) /\ (v1.size <= reachBytes) /\ (v2.length * 48 <= reachBytes /\ Regex.oks v2)
def Regex.oks : List Regex -> Prop
 | [] => True
 | x :: l => Regex.ok x /\ Regex.oks l
end
theorem Regex.oks_iff (l : List Regex) : Regex.oks l ↔ ∀ x ∈ l,x.ok:=by
 induction l with
 | nil => simp [Regex.oks]
 | cons x l ih => simp [Regex.oks,ih]
def lRegex_ok (l : List Regex) : Prop:=l.length * 48 <= reachBytes /\ ∀ x ∈ l,x.ok
theorem Regex.ok_iff (x : Regex) : x.ok ↔ (IntKind.i64.min <= x.kind /\ x.kind <= IntKind.i64.max) /\ (x.node.size <= reachBytes) /\ (lRegex_ok x.args):=by
 cases x
 simp only [Regex.ok,lRegex_ok,Regex.oks_iff]
theorem Regex.rdn : ∀ (n : Nat) {a : AV},SizeOf.sizeOf a <= n -> Rd Tryz.prog 214 a -> ∃ x : Regex,a = .agg x.c /\ x.ok
 | 0,a,hn,h => by cases a <;> simp at hn
 | n + 1,a,hn,h => by
  obtain ⟨ps,rfl,hp⟩:=Rd.unpack (ts:=[3,9,212]) (by kernel_rfl) h
  obtain ⟨a0,a1,a2,rfl,g0,g1,g2⟩:=RdAll.split3 hp
  obtain ⟨v0,rfl,k0⟩:=Rd.int_of (t:=3) (k:=.i64) (by kernel_rfl) g0
  obtain ⟨v1,rfl,k1⟩:=Rd.str_of (t:=9) (by kernel_rfl) g1
  obtain ⟨es,rfl,hb,he⟩:=Rd.list_raw (e:=214) (by kernel_rfl) g2
  obtain ⟨v2,rfl,hok⟩:=list_of (f:=fun x : Regex => .agg x.c) (ok:=Regex.ok) fun x hx => Regex.rdn n (by
   have h1:=List.sizeOf_lt_of_mem hx
   have h2:=Nat.lt_of_lt_of_le (sl_size (o:=none) (es:=es) (by simp [cat,AV.cells])) hn
   omega) (he x hx)
  rw [List.length_map,show Tryz.prog.bytesOf 214 = 48 by kernel_rfl] at hb
  refine ⟨⟨v0,v1,v2⟩, ?_,(Regex.ok_iff _).2 ⟨k0,k1,⟨hb,hok⟩⟩⟩
  rw [<- lRegex_eq]; rfl
theorem Regex.rd {a : AV} (h : Rd Tryz.prog 214 a) : ∃ x : Regex,a = .agg x.c /\ x.ok:=Regex.rdn _ (Nat.le_refl _) h
def lStr (l : List ByteArray) : List AV:=l.map fun x => .str x
@[go_sem] theorem lStr_len (l : List ByteArray) : (lStr l).length = l.length:=by simp [lStr]
theorem lStr_get {l : List ByteArray} {i : Nat} {x : ByteArray} (h : l[i]? = some x) : (lStr l)[i]? = some (.str x):=by simp [lStr,h]
theorem lStr_mem {l : List ByteArray} {x : ByteArray} (h : x ∈ l) : .str x ∈ lStr l:=by rw [lStr]; exact List.mem_map.2 ⟨x,h,rfl⟩
theorem lStr_cells (l : List ByteArray) : ∀ x ∈ lStr l,x.cells.length = 1:=by
 intro x hx; obtain ⟨y,_,rfl⟩:=List.mem_map.1 hx; rfl
@[go_sem] theorem lStr_cells' (l : List ByteArray) : (∀ x ∈ lStr l,x.cells.length = 1) = True:=eq_true (lStr_cells l)
@[go_sem] theorem lStr_nil : lStr [] = []:=rfl
@[go_sem] theorem lStr_takeF (l : List ByteArray) (k : Nat) : (lStr l).take k = lStr (l.take k):=by simp [lStr]
@[go_sem] theorem lStr_snoc (a : List ByteArray) (x : ByteArray) : lStr a ++ [.str x] = lStr (a ++ [x]):=by simp [lStr]
@[go_sem] theorem lStr_pure (l : List ByteArray) : pureL (lStr l) = true:=by
 induction l with
 | nil => rfl
 | cons x xs ih => simpa [lStr,pureL,AV.pure] using ih
@[go_sem] theorem lStr_bnd (k : Nat) (l : List ByteArray) : bndL k (lStr l) = true:=bndL_map fun x => rfl
theorem lStr_bk {l : List ByteArray} {B : Nat} (h : bulkL (lStr l) <= B) {x : ByteArray} (hx : x ∈ l) : (.str x : AV).bulk <= B:=Nat.le_trans (bulk_mem (lStr_mem hx)) h
theorem lStr_bn {l : List ByteArray} {B : Nat} (h : bulkL (lStr l) <= B) : l.length <= B:=by
 refine Nat.le_trans ?_ h
 exact bulk_cnt (f:=fun (x : ByteArray) => .str x) (fun x => by simp [AV.bulk]) l
def lStr_ok (l : List ByteArray) : Prop:=l.length * 16 <= reachBytes /\ ∀ x ∈ l,x.size <= reachBytes
theorem lStr_rd118 {a : AV} (h : Rd Tryz.prog 118 a) : ∃ l,a = .sl none (lStr l) /\ lStr_ok l:=by
 obtain ⟨l,h1,h2,h3⟩:=Rd.list (f:=fun (x : ByteArray) => .str x) (ok:=fun (x : ByteArray) => x.size <= reachBytes) (P:=Tryz.prog) (t:=118) (e:=9) (by kernel_rfl) (fun x hx => Rd.str_of (t:=9) (by kernel_rfl) hx) h
 exact ⟨l,h1,by rw [show Tryz.prog.bytesOf 9 = 16 by kernel_rfl] at h2; exact h2,h3⟩
@[ext] structure Stp where
 kind : Int
 var : ByteArray
 key : List ByteArray
 field : ByteArray
 n : Int
 m : Int
 deriving DecidableEq,Inhabited
def Stp.cf (x : Stp) (o0 : Option Nat) : List AV:=[.int .i64 x.kind,.str x.var,.sl o0 (lStr x.key),.str x.field,.int .i64 x.n,.int .i64 x.m]
abbrev Stp.c (x : Stp) : List AV:=x.cf none
abbrev Stp.co (x : Stp) : List AV:=x.cf (some 1)
theorem Stp.bk1 (x : Stp) : 1 <= bulkL x.c:=by
 have h1 : 1 <= (.int .i64 x.kind : AV).bulk:=by simp [AV.bulk]
 exact Nat.le_trans h1 (bulk_mem (List.mem_of_getElem? (i:=0) rfl))
@[go_sem] theorem Stp.cf_len (x : Stp) (o0 : Option Nat) : (x.cf o0).length = 6:=rfl
theorem Stp.c_len (x : Stp) : x.c.length = 6:=rfl
@[go_sem] theorem Stp.cf_bor (x : Stp) (o0 : Option Nat) : (x.cf o0).map borrow1 = x.cf none:=rfl
theorem Stp.c_bor (x : Stp) : x.c.map borrow1 = x.c:=rfl
@[go_sem] theorem Stp.cf_own (x : Stp) (o0 : Option Nat) : (x.cf o0).any owned1 = (o0.isSome):=by
 cases o0 <;> rfl
@[go_sem] theorem Stp.cf_take (x : Stp) (o0 : Option Nat) : (x.cf o0).take 6 = x.cf o0:=rfl
@[go_sem] theorem Stp.cf_pure (x : Stp) (o0 : Option Nat) : pureL (x.cf o0) = true:=by
 simp [Stp.cf,pureL,AV.pure,lStr_pure]
theorem Stp.c_pure (x : Stp) : pureL x.c = true:=x.cf_pure none
@[go_sem] theorem Stp.cf_bnd (k : Nat) (x : Stp) (o0 : Option Nat) : bndL k (x.cf o0) = true:=by
 simp [Stp.cf,bndL,AV.bnd,lStr_bnd]
theorem Stp.c_bnd (k : Nat) (x : Stp) : bndL k x.c = true:=Stp.cf_bnd k x none
theorem Stp.fit_key {x : Stp} (h : fitL x.c) : x.key.length <= 9223372036854775807:=by
 have h1 : (AV.sl none (lStr x.key)).fit:=fitL_iff.1 h _ (List.mem_of_getElem? (i:=2) rfl)
 have h2:=h1.1
 rwa [lStr_len] at h2
theorem Stp.bk_var {x : Stp} {B : Nat} (h : bulkL x.c <= B) : x.var.size <= B:=bulk_str (List.mem_of_getElem? (i:=1) rfl) h
theorem Stp.bl_key {x : Stp} {B : Nat} (h : bulkL x.c <= B) : bulkL (lStr x.key) <= B:=bulk_sl (o:=none) (List.mem_of_getElem? (i:=2) rfl) h
theorem Stp.bk_field {x : Stp} {B : Nat} (h : bulkL x.c <= B) : x.field.size <= B:=bulk_str (List.mem_of_getElem? (i:=3) rfl) h
@[go_sem] theorem Stp.cf_at0 (x : Stp) (o0 : Option Nat) : (x.cf o0)[0]? = some (.int .i64 x.kind):=rfl
@[go_sem] theorem Stp.cf_at1 (x : Stp) (o0 : Option Nat) : (x.cf o0)[1]? = some (.str x.var):=rfl
@[go_sem] theorem Stp.cf_at2 (x : Stp) (o0 : Option Nat) : (x.cf o0)[2]? = some (.sl o0 (lStr x.key)):=rfl
@[go_sem] theorem Stp.cf_at3 (x : Stp) (o0 : Option Nat) : (x.cf o0)[3]? = some (.str x.field):=rfl
@[go_sem] theorem Stp.cf_at4 (x : Stp) (o0 : Option Nat) : (x.cf o0)[4]? = some (.int .i64 x.n):=rfl
@[go_sem] theorem Stp.cf_at5 (x : Stp) (o0 : Option Nat) : (x.cf o0)[5]? = some (.int .i64 x.m):=rfl
def Stp.z : Stp:=⟨0,.empty,[],.empty,0,0⟩
@[go_sem] theorem Stp.zero : zeroAV Tryz.prog 126 = some (.agg (Stp.z.cf (some 1))):=by kernel_rfl
def Stp.ok (x : Stp) : Prop:=(IntKind.i64.min <= x.kind /\ x.kind <= IntKind.i64.max) /\ (x.var.size <= reachBytes) /\ (lStr_ok x.key) /\ (x.field.size <= reachBytes) /\ (IntKind.i64.min <= x.n /\ x.n <= IntKind.i64.max) /\ (IntKind.i64.min <= x.m /\ x.m <= IntKind.i64.max)
theorem Stp.rd {a : AV} (h : Rd Tryz.prog 126 a) : ∃ x : Stp,a = .agg x.c /\ x.ok:=by
 obtain ⟨ps,rfl,hp⟩:=Rd.unpack (ts:=[3,9,118,9,3,3]) (by kernel_rfl) h
 obtain ⟨a0,a1,a2,a3,a4,a5,rfl,g0,g1,g2,g3,g4,g5⟩:=RdAll.split6 hp
 obtain ⟨v0,rfl,k0⟩:=Rd.int_of (t:=3) (k:=.i64) (by kernel_rfl) g0
 obtain ⟨v1,rfl,k1⟩:=Rd.str_of (t:=9) (by kernel_rfl) g1
 obtain ⟨v2,rfl,k2⟩:=lStr_rd118 g2
 obtain ⟨v3,rfl,k3⟩:=Rd.str_of (t:=9) (by kernel_rfl) g3
 obtain ⟨v4,rfl,k4⟩:=Rd.int_of (t:=3) (k:=.i64) (by kernel_rfl) g4
 obtain ⟨v5,rfl,k5⟩:=Rd.int_of (t:=3) (k:=.i64) (by kernel_rfl) g5
 exact ⟨⟨v0,v1,v2,v3,v4,v5⟩,rfl,⟨k0,k1,k2,k3,k4,k5⟩⟩
@[ext] structure Stage where
 policy : Policy
 step : Stp
 deriving Inhabited
def Stage.cf (x : Stage) (o0 o1 o2 : Option Nat) : List AV:=[.int .i64 x.policy.kind,.int .i64 x.policy.pred.kind,.str x.policy.pred.field,.int .i64 x.policy.pred.n,.int .i64 x.policy.pred.m,.sl o0 (lPred x.policy.pred.args),.str x.policy.field,.int .i64 x.policy.n,.sl o1 (lPolicy x.policy.args),.int .i64 x.step.kind,.str x.step.var,.sl o2 (lStr x.step.key),.str x.step.field,.int .i64 x.step.n,.int .i64 x.step.m]
abbrev Stage.c (x : Stage) : List AV:=x.cf none none none
abbrev Stage.co (x : Stage) : List AV:=x.cf (some 5) (some 9) (some 1)
theorem Stage.bk1 (x : Stage) : 1 <= bulkL x.c:=by
 have h1 : 1 <= (.int .i64 x.policy.kind : AV).bulk:=by simp [AV.bulk]
 exact Nat.le_trans h1 (bulk_mem (List.mem_of_getElem? (i:=0) rfl))
@[go_sem] theorem Stage.cf_len (x : Stage) (o0 o1 o2 : Option Nat) : (x.cf o0 o1 o2).length = 15:=rfl
theorem Stage.c_len (x : Stage) : x.c.length = 15:=rfl
@[go_sem] theorem Stage.cf_bor (x : Stage) (o0 o1 o2 : Option Nat) : (x.cf o0 o1 o2).map borrow1 = x.cf none none none:=rfl
theorem Stage.c_bor (x : Stage) : x.c.map borrow1 = x.c:=rfl
@[go_sem] theorem Stage.cf_own (x : Stage) (o0 o1 o2 : Option Nat) : (x.cf o0 o1 o2).any owned1 = (o0.isSome || o1.isSome || o2.isSome):=by
 cases o0 <;> cases o1 <;> cases o2 <;> rfl
@[go_sem] theorem Stage.cf_take (x : Stage) (o0 o1 o2 : Option Nat) : (x.cf o0 o1 o2).take 15 = x.cf o0 o1 o2:=rfl
@[go_sem] theorem Stage.cf_pure (x : Stage) (o0 o1 o2 : Option Nat) : pureL (x.cf o0 o1 o2) = true:=by
 simp [Stage.cf,pureL,AV.pure,lPolicy_pure,lPred_pure,lStr_pure]
theorem Stage.c_pure (x : Stage) : pureL x.c = true:=x.cf_pure none none none
@[go_sem] theorem Stage.cf_bnd (k : Nat) (x : Stage) (o0 o1 o2 : Option Nat) : bndL k (x.cf o0 o1 o2) = true:=by
 simp [Stage.cf,bndL,AV.bnd,lPolicy_bnd,lPred_bnd,lStr_bnd]
theorem Stage.c_bnd (k : Nat) (x : Stage) : bndL k x.c = true:=Stage.cf_bnd k x none none none
theorem Stage.fit_step_key {x : Stage} (h : fitL x.c) : x.step.key.length <= 9223372036854775807:=by
 have h1 : (AV.sl none (lStr x.step.key)).fit:=fitL_iff.1 h _ (List.mem_of_getElem? (i:=11) rfl)
 have h2:=h1.1
 rwa [lStr_len] at h2
theorem Stage.bs_policy {x : Stage} {B : Nat} (h : bulkL x.c <= B) : bulkL x.policy.c <= B:=by
 have h1:=bulkL_part x.c 0 9
 rw [show (x.c.drop 0).take 9 = x.policy.c from rfl] at h1
 omega
theorem Stage.bs_step {x : Stage} {B : Nat} (h : bulkL x.c <= B) : bulkL x.step.c <= B:=by
 have h1:=bulkL_part x.c 9 6
 rw [show (x.c.drop 9).take 6 = x.step.c from rfl] at h1
 omega
theorem Stage.bk_step_var {x : Stage} {B : Nat} (h : bulkL x.c <= B) : x.step.var.size <= B:=bulk_str (List.mem_of_getElem? (i:=10) rfl) h
theorem Stage.bl_step_key {x : Stage} {B : Nat} (h : bulkL x.c <= B) : bulkL (lStr x.step.key) <= B:=bulk_sl (o:=none) (List.mem_of_getElem? (i:=11) rfl) h
theorem Stage.bk_step_field {x : Stage} {B : Nat} (h : bulkL x.c <= B) : x.step.field.size <= B:=bulk_str (List.mem_of_getElem? (i:=12) rfl) h
@[go_sem] theorem Stage.cf_at9 (x : Stage) (o0 o1 o2 : Option Nat) : (x.cf o0 o1 o2)[9]? = some (.int .i64 x.step.kind):=rfl
@[go_sem] theorem Stage.cf_at10 (x : Stage) (o0 o1 o2 : Option Nat) : (x.cf o0 o1 o2)[10]? = some (.str x.step.var):=rfl
@[go_sem] theorem Stage.cf_at11 (x : Stage) (o0 o1 o2 : Option Nat) : (x.cf o0 o1 o2)[11]? = some (.sl o2 (lStr x.step.key)):=rfl
@[go_sem] theorem Stage.cf_part_policy (x : Stage) (o0 o1 o2 : Option Nat) : (x.cf o0 o1 o2).take 9 = x.policy.cf o0 o1:=rfl
@[go_sem] theorem Stage.cf_putN_policy (x : Stage) (v : Policy) (o0 o1 o2 : Option Nat) (p0 p1 : Option Nat) : spliceN (x.cf o0 o1 o2) (v.cf p0 p1) = ({ x with policy:=v } : Stage).cf p0 p1 o2:=rfl
@[go_sem] theorem Stage.cf_part_step (x : Stage) (o0 o1 o2 : Option Nat) : ((x.cf o0 o1 o2).drop 9).take 6 = x.step.cf o2:=rfl
@[go_sem] theorem Stage.cf_put_step (x : Stage) (v : Stp) (o0 o1 o2 : Option Nat) (p0 : Option Nat) : splice (x.cf o0 o1 o2) 9 (v.cf p0) = ({ x with step:=v } : Stage).cf o0 o1 p0:=rfl
def Stage.z : Stage:=⟨⟨0,⟨0,.empty,0,0,[]⟩,.empty,0,[]⟩,⟨0,.empty,[],.empty,0,0⟩⟩
@[go_sem] theorem Stage.zero : zeroAV Tryz.prog 128 = some (.agg (Stage.z.cf (some 5) (some 9) (some 1))):=by kernel_rfl
def Stage.ok (x : Stage) : Prop:=(x.policy.ok) /\ (x.step.ok)
theorem Stage.rd {a : AV} (h : Rd Tryz.prog 128 a) : ∃ x : Stage,a = .agg x.c /\ x.ok:=by
 obtain ⟨ps,rfl,hp⟩:=Rd.unpack (ts:=[123,126]) (by kernel_rfl) h
 obtain ⟨a0,a1,rfl,g0,g1⟩:=RdAll.split2 hp
 obtain ⟨v0,rfl,k0⟩:=Policy.rd g0
 obtain ⟨v1,rfl,k1⟩:=Stp.rd g1
 exact ⟨⟨v0,v1⟩,rfl,⟨k0,k1⟩⟩
@[ext] structure Route where
 pred : Pred
 path : Regex
 deriving Inhabited
def Route.cf (x : Route) (o0 o1 : Option Nat) : List AV:=[.int .i64 x.pred.kind,.str x.pred.field,.int .i64 x.pred.n,.int .i64 x.pred.m,.sl o0 (lPred x.pred.args),.int .i64 x.path.kind,.str x.path.node,.sl o1 (lRegex x.path.args)]
abbrev Route.c (x : Route) : List AV:=x.cf none none
abbrev Route.co (x : Route) : List AV:=x.cf (some 5) (some 3)
theorem Route.bk1 (x : Route) : 1 <= bulkL x.c:=by
 have h1 : 1 <= (.int .i64 x.pred.kind : AV).bulk:=by simp [AV.bulk]
 exact Nat.le_trans h1 (bulk_mem (List.mem_of_getElem? (i:=0) rfl))
@[go_sem] theorem Route.cf_len (x : Route) (o0 o1 : Option Nat) : (x.cf o0 o1).length = 8:=rfl
theorem Route.c_len (x : Route) : x.c.length = 8:=rfl
@[go_sem] theorem Route.cf_bor (x : Route) (o0 o1 : Option Nat) : (x.cf o0 o1).map borrow1 = x.cf none none:=rfl
theorem Route.c_bor (x : Route) : x.c.map borrow1 = x.c:=rfl
@[go_sem] theorem Route.cf_own (x : Route) (o0 o1 : Option Nat) : (x.cf o0 o1).any owned1 = (o0.isSome || o1.isSome):=by
 cases o0 <;> cases o1 <;> rfl
@[go_sem] theorem Route.cf_pure (x : Route) (o0 o1 : Option Nat) : pureL (x.cf o0 o1) = true:=by
 simp [Route.cf,pureL,AV.pure,lPred_pure,lRegex_pure]
theorem Route.c_pure (x : Route) : pureL x.c = true:=x.cf_pure none none
@[go_sem] theorem Route.cf_bnd (k : Nat) (x : Route) (o0 o1 : Option Nat) : bndL k (x.cf o0 o1) = true:=by
 simp [Route.cf,bndL,AV.bnd,lPred_bnd,lRegex_bnd]
theorem Route.c_bnd (k : Nat) (x : Route) : bndL k x.c = true:=Route.cf_bnd k x none none
theorem Route.fit_pred_args {x : Route} (h : fitL x.c) : x.pred.args.length <= 9223372036854775807:=by
 have h1 : (AV.sl none (lPred x.pred.args)).fit:=fitL_iff.1 h _ (List.mem_of_getElem? (i:=4) rfl)
 have h2:=h1.1
 rwa [lPred_len] at h2
theorem Route.in_pred_args {x : Route} (h : fitL x.c) {y : Pred} (hy : y ∈ x.pred.args) : fitL y.c:=by
 have h1 : (AV.sl none (lPred x.pred.args)).fit:=fitL_iff.1 h _ (List.mem_of_getElem? (i:=4) rfl)
 exact fitL_iff.1 h1.2 _ (lPred_mem hy)
theorem Route.bs_pred {x : Route} {B : Nat} (h : bulkL x.c <= B) : bulkL x.pred.c <= B:=by
 have h1:=bulkL_part x.c 0 5
 rw [show (x.c.drop 0).take 5 = x.pred.c from rfl] at h1
 omega
theorem Route.bk_pred_field {x : Route} {B : Nat} (h : bulkL x.c <= B) : x.pred.field.size <= B:=bulk_str (List.mem_of_getElem? (i:=1) rfl) h
theorem Route.bl_pred_args {x : Route} {B : Nat} (h : bulkL x.c <= B) : bulkL (lPred x.pred.args) <= B:=bulk_sl (o:=none) (List.mem_of_getElem? (i:=4) rfl) h
theorem Route.bs_path {x : Route} {B : Nat} (h : bulkL x.c <= B) : bulkL x.path.c <= B:=by
 have h1:=bulkL_part x.c 5 3
 rw [show (x.c.drop 5).take 3 = x.path.c from rfl] at h1
 omega
@[go_sem] theorem Route.cf_part_pred (x : Route) (o0 o1 : Option Nat) : (x.cf o0 o1).take 5 = x.pred.cf o0:=rfl
@[go_sem] theorem Route.cf_part_path (x : Route) (o0 o1 : Option Nat) : ((x.cf o0 o1).drop 5).take 3 = x.path.cf o1:=rfl
def Route.z : Route:=⟨⟨0,.empty,0,0,[]⟩,⟨0,.empty,[]⟩⟩
def Route.ok (x : Route) : Prop:=(x.pred.ok) /\ (x.path.ok)
theorem Route.rd {a : AV} (h : Rd Tryz.prog 216 a) : ∃ x : Route,a = .agg x.c /\ x.ok:=by
 obtain ⟨ps,rfl,hp⟩:=Rd.unpack (ts:=[64,214]) (by kernel_rfl) h
 obtain ⟨a0,a1,rfl,g0,g1⟩:=RdAll.split2 hp
 obtain ⟨v0,rfl,k0⟩:=Pred.rd g0
 obtain ⟨v1,rfl,k1⟩:=Regex.rd g1
 exact ⟨⟨v0,v1⟩,rfl,⟨k0,k1⟩⟩
@[ext] structure Demand where
 src : Int
 dst : Int
 floor : Int
 ceiling : Int
 deriving DecidableEq,Inhabited
def Demand.c (x : Demand) : List AV:=[.int .i64 x.src,.int .i64 x.dst,.int .i64 x.floor,.int .i64 x.ceiling]
theorem Demand.bk1 (x : Demand) : 1 <= bulkL x.c:=by
 have h1 : 1 <= (.int .i64 x.src : AV).bulk:=by simp [AV.bulk]
 exact Nat.le_trans h1 (bulk_mem (List.mem_of_getElem? (i:=0) rfl))
@[go_sem] theorem Demand.cf_len (x : Demand) : x.c.length = 4:=rfl
theorem Demand.c_len (x : Demand) : x.c.length = 4:=rfl
@[go_sem] theorem Demand.cf_bor (x : Demand) : x.c.map borrow1 = x.c:=rfl
theorem Demand.c_bor (x : Demand) : x.c.map borrow1 = x.c:=rfl
@[go_sem] theorem Demand.cf_own (x : Demand) : x.c.any owned1 = false:=by
 rfl
@[go_sem] theorem Demand.cf_take (x : Demand) : x.c.take 4 = x.c:=rfl
@[go_sem] theorem Demand.cf_pure (x : Demand) : pureL x.c = true:=by
 simp [Demand.c,pureL,AV.pure]
theorem Demand.c_pure (x : Demand) : pureL x.c = true:=x.cf_pure
@[go_sem] theorem Demand.cf_bnd (k : Nat) (x : Demand) : bndL k x.c = true:=by
 simp [Demand.c,bndL,AV.bnd]
theorem Demand.c_bnd (k : Nat) (x : Demand) : bndL k x.c = true:=Demand.cf_bnd k x
@[go_sem] theorem Demand.cf_at0 (x : Demand) : x.c[0]? = some (.int .i64 x.src):=rfl
@[go_sem] theorem Demand.cf_at1 (x : Demand) : x.c[1]? = some (.int .i64 x.dst):=rfl
@[go_sem] theorem Demand.cf_at2 (x : Demand) : x.c[2]? = some (.int .i64 x.floor):=rfl
@[go_sem] theorem Demand.cf_at3 (x : Demand) : x.c[3]? = some (.int .i64 x.ceiling):=rfl
def Demand.z : Demand:=⟨0,0,0,0⟩
@[go_sem] theorem Demand.zero : zeroAV Tryz.prog 246 = some (.agg Demand.z.c):=by kernel_rfl
def Demand.ok (x : Demand) : Prop:=(IntKind.i64.min <= x.src /\ x.src <= IntKind.i64.max) /\ (IntKind.i64.min <= x.dst /\ x.dst <= IntKind.i64.max) /\ (IntKind.i64.min <= x.floor /\ x.floor <= IntKind.i64.max) /\ (IntKind.i64.min <= x.ceiling /\ x.ceiling <= IntKind.i64.max)
theorem Demand.rd {a : AV} (h : Rd Tryz.prog 246 a) : ∃ x : Demand,a = .agg x.c /\ x.ok:=by
 obtain ⟨ps,rfl,hp⟩:=Rd.unpack (ts:=[3,3,3,3]) (by kernel_rfl) h
 obtain ⟨a0,a1,a2,a3,rfl,g0,g1,g2,g3⟩:=RdAll.split4 hp
 obtain ⟨v0,rfl,k0⟩:=Rd.int_of (t:=3) (k:=.i64) (by kernel_rfl) g0
 obtain ⟨v1,rfl,k1⟩:=Rd.int_of (t:=3) (k:=.i64) (by kernel_rfl) g1
 obtain ⟨v2,rfl,k2⟩:=Rd.int_of (t:=3) (k:=.i64) (by kernel_rfl) g2
 obtain ⟨v3,rfl,k3⟩:=Rd.int_of (t:=3) (k:=.i64) (by kernel_rfl) g3
 exact ⟨⟨v0,v1,v2,v3⟩,rfl,⟨k0,k1,k2,k3⟩⟩
theorem Demand.eq (x y : Demand) : aeql Tryz.prog 246 (.agg x.c) (.agg y.c) = some (decide (x = y)):=by
 have e : aeql Tryz.prog 246 (.agg x.c) (.agg y.c) = some ((x.src == y.src) && ((x.dst == y.dst) && ((x.floor == y.floor) && ((x.ceiling == y.ceiling) && true)))):=by kernel_rfl
 rw [e,Option.some.injEq,Bool.eq_iff_iff]
 simp [Demand.ext_iff]
def lPort (l : List Port) : List AV:=l.map fun x => .agg x.c
@[go_sem] theorem lPort_len (l : List Port) : (lPort l).length = l.length:=by simp [lPort]
theorem lPort_get {l : List Port} {i : Nat} {x : Port} (h : l[i]? = some x) : (lPort l)[i]? = some (.agg x.c):=by simp [lPort,h]
theorem lPort_mem {l : List Port} {x : Port} (h : x ∈ l) : .agg x.c ∈ lPort l:=by rw [lPort]; exact List.mem_map.2 ⟨x,h,rfl⟩
@[go_sem] theorem lPort_pure (l : List Port) : pureL (lPort l) = true:=by
 induction l with
 | nil => rfl
 | cons x xs ih => simpa [lPort,pureL,AV.pure] using ⟨Port.c_pure x,ih⟩
@[go_sem] theorem lPort_bnd (k : Nat) (l : List Port) : bndL k (lPort l) = true:=bndL_map fun x => Port.c_bnd k x
theorem lPort_bk {l : List Port} {B : Nat} (h : bulkL (lPort l) <= B) {x : Port} (hx : x ∈ l) : (.agg x.c : AV).bulk <= B:=Nat.le_trans (bulk_mem (lPort_mem hx)) h
theorem lPort_bn {l : List Port} {B : Nat} (h : bulkL (lPort l) <= B) : l.length <= B:=by
 refine Nat.le_trans ?_ h
 exact bulk_cnt (f:=fun (x : Port) => .agg x.c) (fun x => by exact Port.bk1 x) l
def lPort_ok (l : List Port) : Prop:=l.length * 24 <= reachBytes /\ ∀ x ∈ l,x.ok
theorem lPort_rd82 {a : AV} (h : Rd Tryz.prog 82 a) : ∃ l,a = .sl none (lPort l) /\ lPort_ok l:=by
 obtain ⟨l,h1,h2,h3⟩:=Rd.list (f:=fun (x : Port) => .agg x.c) (ok:=fun (x : Port) => x.ok) (P:=Tryz.prog) (t:=82) (e:=120) (by kernel_rfl) (fun x hx => Port.rd hx) h
 exact ⟨l,h1,by rw [show Tryz.prog.bytesOf 120 = 24 by kernel_rfl] at h2; exact h2,h3⟩
def lWire (l : List Wire) : List AV:=l.map fun x => .agg x.c
@[go_sem] theorem lWire_len (l : List Wire) : (lWire l).length = l.length:=by simp [lWire]
theorem lWire_get {l : List Wire} {i : Nat} {x : Wire} (h : l[i]? = some x) : (lWire l)[i]? = some (.agg x.c):=by simp [lWire,h]
@[go_sem] theorem lWire_pure (l : List Wire) : pureL (lWire l) = true:=by
 induction l with
 | nil => rfl
 | cons x xs ih => simpa [lWire,pureL,AV.pure] using ⟨Wire.c_pure x,ih⟩
@[go_sem] theorem lWire_bnd (k : Nat) (l : List Wire) : bndL k (lWire l) = true:=bndL_map fun x => Wire.c_bnd k x
theorem lWire_bn {l : List Wire} {B : Nat} (h : bulkL (lWire l) <= B) : l.length <= B:=by
 refine Nat.le_trans ?_ h
 exact bulk_cnt (f:=fun (x : Wire) => .agg x.c) (fun x => by exact Wire.bk1 x) l
def lWire_ok (l : List Wire) : Prop:=l.length * 16 <= reachBytes /\ ∀ x ∈ l,x.ok
theorem lWire_rd83 {a : AV} (h : Rd Tryz.prog 83 a) : ∃ l,a = .sl none (lWire l) /\ lWire_ok l:=by
 obtain ⟨l,h1,h2,h3⟩:=Rd.list (f:=fun (x : Wire) => .agg x.c) (ok:=fun (x : Wire) => x.ok) (P:=Tryz.prog) (t:=83) (e:=252) (by kernel_rfl) (fun x hx => Wire.rd hx) h
 exact ⟨l,h1,by rw [show Tryz.prog.bytesOf 252 = 16 by kernel_rfl] at h2; exact h2,h3⟩
def lStage (l : List Stage) : List AV:=l.map fun x => .agg x.c
@[go_sem] theorem lStage_len (l : List Stage) : (lStage l).length = l.length:=by simp [lStage]
theorem lStage_get {l : List Stage} {i : Nat} {x : Stage} (h : l[i]? = some x) : (lStage l)[i]? = some (.agg x.c):=by simp [lStage,h]
theorem lStage_mem {l : List Stage} {x : Stage} (h : x ∈ l) : .agg x.c ∈ lStage l:=by rw [lStage]; exact List.mem_map.2 ⟨x,h,rfl⟩
theorem lStage_cells (l : List Stage) : ∀ x ∈ lStage l,x.cells.length = 15:=by
 intro x hx; obtain ⟨y,_,rfl⟩:=List.mem_map.1 hx; rfl
@[go_sem] theorem lStage_cells' (l : List Stage) : (∀ x ∈ lStage l,x.cells.length = 15) = True:=eq_true (lStage_cells l)
@[go_sem] theorem lStage_app (a b : List Stage) : lStage a ++ lStage b = lStage (a ++ b):=by simp [lStage]
@[go_sem] theorem lStage_pure (l : List Stage) : pureL (lStage l) = true:=by
 induction l with
 | nil => rfl
 | cons x xs ih => simpa [lStage,pureL,AV.pure] using ⟨Stage.c_pure x,ih⟩
@[go_sem] theorem lStage_bnd (k : Nat) (l : List Stage) : bndL k (lStage l) = true:=bndL_map fun x => Stage.c_bnd k x
theorem lStage_bk {l : List Stage} {B : Nat} (h : bulkL (lStage l) <= B) {x : Stage} (hx : x ∈ l) : (.agg x.c : AV).bulk <= B:=Nat.le_trans (bulk_mem (lStage_mem hx)) h
theorem lStage_bn {l : List Stage} {B : Nat} (h : bulkL (lStage l) <= B) : l.length <= B:=by
 refine Nat.le_trans ?_ h
 exact bulk_cnt (f:=fun (x : Stage) => .agg x.c) (fun x => by exact Stage.bk1 x) l
def lStage_ok (l : List Stage) : Prop:=l.length * 200 <= reachBytes /\ ∀ x ∈ l,x.ok
theorem lStage_rd85 {a : AV} (h : Rd Tryz.prog 85 a) : ∃ l,a = .sl none (lStage l) /\ lStage_ok l:=by
 obtain ⟨l,h1,h2,h3⟩:=Rd.list (f:=fun (x : Stage) => .agg x.c) (ok:=fun (x : Stage) => x.ok) (P:=Tryz.prog) (t:=85) (e:=128) (by kernel_rfl) (fun x hx => Stage.rd hx) h
 exact ⟨l,h1,by rw [show Tryz.prog.bytesOf 128 = 200 by kernel_rfl] at h2; exact h2,h3⟩
def lRoute (l : List Route) : List AV:=l.map fun x => .agg x.c
@[go_sem] theorem lRoute_len (l : List Route) : (lRoute l).length = l.length:=by simp [lRoute]
theorem lRoute_get {l : List Route} {i : Nat} {x : Route} (h : l[i]? = some x) : (lRoute l)[i]? = some (.agg x.c):=by simp [lRoute,h]
theorem lRoute_mem {l : List Route} {x : Route} (h : x ∈ l) : .agg x.c ∈ lRoute l:=by rw [lRoute]; exact List.mem_map.2 ⟨x,h,rfl⟩
@[go_sem] theorem lRoute_pure (l : List Route) : pureL (lRoute l) = true:=by
 induction l with
 | nil => rfl
 | cons x xs ih => simpa [lRoute,pureL,AV.pure] using ⟨Route.c_pure x,ih⟩
@[go_sem] theorem lRoute_bnd (k : Nat) (l : List Route) : bndL k (lRoute l) = true:=bndL_map fun x => Route.c_bnd k x
theorem lRoute_bk {l : List Route} {B : Nat} (h : bulkL (lRoute l) <= B) {x : Route} (hx : x ∈ l) : (.agg x.c : AV).bulk <= B:=Nat.le_trans (bulk_mem (lRoute_mem hx)) h
theorem lRoute_bn {l : List Route} {B : Nat} (h : bulkL (lRoute l) <= B) : l.length <= B:=by
 refine Nat.le_trans ?_ h
 exact bulk_cnt (f:=fun (x : Route) => .agg x.c) (fun x => by exact Route.bk1 x) l
def lRoute_ok (l : List Route) : Prop:=l.length * 112 <= reachBytes /\ ∀ x ∈ l,x.ok
theorem lRoute_rd86 {a : AV} (h : Rd Tryz.prog 86 a) : ∃ l,a = .sl none (lRoute l) /\ lRoute_ok l:=by
 obtain ⟨l,h1,h2,h3⟩:=Rd.list (f:=fun (x : Route) => .agg x.c) (ok:=fun (x : Route) => x.ok) (P:=Tryz.prog) (t:=86) (e:=216) (by kernel_rfl) (fun x hx => Route.rd hx) h
 exact ⟨l,h1,by rw [show Tryz.prog.bytesOf 216 = 112 by kernel_rfl] at h2; exact h2,h3⟩
def lDemand (l : List Demand) : List AV:=l.map fun x => .agg x.c
@[go_sem] theorem lDemand_len (l : List Demand) : (lDemand l).length = l.length:=by simp [lDemand]
theorem lDemand_get {l : List Demand} {i : Nat} {x : Demand} (h : l[i]? = some x) : (lDemand l)[i]? = some (.agg x.c):=by simp [lDemand,h]
@[go_sem] theorem lDemand_pure (l : List Demand) : pureL (lDemand l) = true:=by
 induction l with
 | nil => rfl
 | cons x xs ih => simpa [lDemand,pureL,AV.pure] using ⟨Demand.c_pure x,ih⟩
@[go_sem] theorem lDemand_bnd (k : Nat) (l : List Demand) : bndL k (lDemand l) = true:=bndL_map fun x => Demand.c_bnd k x
theorem lDemand_bn {l : List Demand} {B : Nat} (h : bulkL (lDemand l) <= B) : l.length <= B:=by
 refine Nat.le_trans ?_ h
 exact bulk_cnt (f:=fun (x : Demand) => .agg x.c) (fun x => by exact Demand.bk1 x) l
def lDemand_ok (l : List Demand) : Prop:=l.length * 32 <= reachBytes /\ ∀ x ∈ l,x.ok
theorem lDemand_rd87 {a : AV} (h : Rd Tryz.prog 87 a) : ∃ l,a = .sl none (lDemand l) /\ lDemand_ok l:=by
 obtain ⟨l,h1,h2,h3⟩:=Rd.list (f:=fun (x : Demand) => .agg x.c) (ok:=fun (x : Demand) => x.ok) (P:=Tryz.prog) (t:=87) (e:=246) (by kernel_rfl) (fun x hx => Demand.rd hx) h
 exact ⟨l,h1,by rw [show Tryz.prog.bytesOf 246 = 32 by kernel_rfl] at h2; exact h2,h3⟩
@[ext] structure Tenant where
 name : ByteArray
 ports : List Port
 wires : List Wire
 program : List Stage
 routes : List Route
 demands : List Demand
 deriving Inhabited
def Tenant.cf (x : Tenant) (o0 o1 o2 o3 o4 : Option Nat) : List AV:=[.str x.name,.sl o0 (lPort x.ports),.sl o1 (lWire x.wires),.sl o2 (lStage x.program),.sl o3 (lRoute x.routes),.sl o4 (lDemand x.demands)]
abbrev Tenant.c (x : Tenant) : List AV:=x.cf none none none none none
abbrev Tenant.co (x : Tenant) : List AV:=x.cf (some 2) (some 2) (some 15) (some 8) (some 4)
theorem Tenant.bk1 (x : Tenant) : 1 <= bulkL x.c:=by
 have h1 : 1 <= (.str x.name : AV).bulk:=by simp [AV.bulk]
 exact Nat.le_trans h1 (bulk_mem (List.mem_of_getElem? (i:=0) rfl))
@[go_sem] theorem Tenant.cf_len (x : Tenant) (o0 o1 o2 o3 o4 : Option Nat) : (x.cf o0 o1 o2 o3 o4).length = 6:=rfl
theorem Tenant.c_len (x : Tenant) : x.c.length = 6:=rfl
@[go_sem] theorem Tenant.cf_bor (x : Tenant) (o0 o1 o2 o3 o4 : Option Nat) : (x.cf o0 o1 o2 o3 o4).map borrow1 = x.cf none none none none none:=rfl
theorem Tenant.c_bor (x : Tenant) : x.c.map borrow1 = x.c:=rfl
@[go_sem] theorem Tenant.cf_own (x : Tenant) (o0 o1 o2 o3 o4 : Option Nat) : (x.cf o0 o1 o2 o3 o4).any owned1 = (o0.isSome || o1.isSome || o2.isSome || o3.isSome || o4.isSome):=by
 cases o0 <;> cases o1 <;> cases o2 <;> cases o3 <;> cases o4 <;> rfl
@[go_sem] theorem Tenant.cf_take (x : Tenant) (o0 o1 o2 o3 o4 : Option Nat) : (x.cf o0 o1 o2 o3 o4).take 6 = x.cf o0 o1 o2 o3 o4:=rfl
@[go_sem] theorem Tenant.cf_pure (x : Tenant) (o0 o1 o2 o3 o4 : Option Nat) : pureL (x.cf o0 o1 o2 o3 o4) = true:=by
 simp [Tenant.cf,pureL,AV.pure,lDemand_pure,lPort_pure,lRoute_pure,lStage_pure,lWire_pure]
theorem Tenant.c_pure (x : Tenant) : pureL x.c = true:=x.cf_pure none none none none none
@[go_sem] theorem Tenant.cf_bnd (k : Nat) (x : Tenant) (o0 o1 o2 o3 o4 : Option Nat) : bndL k (x.cf o0 o1 o2 o3 o4) = true:=by
 simp [Tenant.cf,bndL,AV.bnd,lDemand_bnd,lPort_bnd,lRoute_bnd,lStage_bnd,lWire_bnd]
theorem Tenant.c_bnd (k : Nat) (x : Tenant) : bndL k x.c = true:=Tenant.cf_bnd k x none none none none none
theorem Tenant.fit_ports {x : Tenant} (h : fitL x.c) : x.ports.length <= 9223372036854775807:=by
 have h1 : (AV.sl none (lPort x.ports)).fit:=fitL_iff.1 h _ (List.mem_of_getElem? (i:=1) rfl)
 have h2:=h1.1
 rwa [lPort_len] at h2
theorem Tenant.fit_program {x : Tenant} (h : fitL x.c) : x.program.length <= 9223372036854775807:=by
 have h1 : (AV.sl none (lStage x.program)).fit:=fitL_iff.1 h _ (List.mem_of_getElem? (i:=3) rfl)
 have h2:=h1.1
 rwa [lStage_len] at h2
theorem Tenant.fit_routes {x : Tenant} (h : fitL x.c) : x.routes.length <= 9223372036854775807:=by
 have h1 : (AV.sl none (lRoute x.routes)).fit:=fitL_iff.1 h _ (List.mem_of_getElem? (i:=4) rfl)
 have h2:=h1.1
 rwa [lRoute_len] at h2
theorem Tenant.bk_name {x : Tenant} {B : Nat} (h : bulkL x.c <= B) : x.name.size <= B:=bulk_str (List.mem_of_getElem? (i:=0) rfl) h
theorem Tenant.bl_ports {x : Tenant} {B : Nat} (h : bulkL x.c <= B) : bulkL (lPort x.ports) <= B:=bulk_sl (o:=none) (List.mem_of_getElem? (i:=1) rfl) h
theorem Tenant.bl_wires {x : Tenant} {B : Nat} (h : bulkL x.c <= B) : bulkL (lWire x.wires) <= B:=bulk_sl (o:=none) (List.mem_of_getElem? (i:=2) rfl) h
theorem Tenant.bl_program {x : Tenant} {B : Nat} (h : bulkL x.c <= B) : bulkL (lStage x.program) <= B:=bulk_sl (o:=none) (List.mem_of_getElem? (i:=3) rfl) h
theorem Tenant.bl_routes {x : Tenant} {B : Nat} (h : bulkL x.c <= B) : bulkL (lRoute x.routes) <= B:=bulk_sl (o:=none) (List.mem_of_getElem? (i:=4) rfl) h
theorem Tenant.bl_demands {x : Tenant} {B : Nat} (h : bulkL x.c <= B) : bulkL (lDemand x.demands) <= B:=bulk_sl (o:=none) (List.mem_of_getElem? (i:=5) rfl) h
@[go_sem] theorem Tenant.cf_at0 (x : Tenant) (o0 o1 o2 o3 o4 : Option Nat) : (x.cf o0 o1 o2 o3 o4)[0]? = some (.str x.name):=rfl
@[go_sem] theorem Tenant.cf_at1 (x : Tenant) (o0 o1 o2 o3 o4 : Option Nat) : (x.cf o0 o1 o2 o3 o4)[1]? = some (.sl o0 (lPort x.ports)):=rfl
@[go_sem] theorem Tenant.cf_at2 (x : Tenant) (o0 o1 o2 o3 o4 : Option Nat) : (x.cf o0 o1 o2 o3 o4)[2]? = some (.sl o1 (lWire x.wires)):=rfl
@[go_sem] theorem Tenant.cf_at3 (x : Tenant) (o0 o1 o2 o3 o4 : Option Nat) : (x.cf o0 o1 o2 o3 o4)[3]? = some (.sl o2 (lStage x.program)):=rfl
@[go_sem] theorem Tenant.cf_at4 (x : Tenant) (o0 o1 o2 o3 o4 : Option Nat) : (x.cf o0 o1 o2 o3 o4)[4]? = some (.sl o3 (lRoute x.routes)):=rfl
@[go_sem] theorem Tenant.cf_at5 (x : Tenant) (o0 o1 o2 o3 o4 : Option Nat) : (x.cf o0 o1 o2 o3 o4)[5]? = some (.sl o4 (lDemand x.demands)):=rfl
def Tenant.z : Tenant:=⟨.empty,[],[],[],[],[]⟩
@[go_sem] theorem Tenant.zero : zeroAV Tryz.prog 89 = some (.agg (Tenant.z.cf (some 2) (some 2) (some 15) (some 8) (some 4))):=by kernel_rfl
def Tenant.ok (x : Tenant) : Prop:=(x.name.size <= reachBytes) /\ (lPort_ok x.ports) /\ (lWire_ok x.wires) /\ (lStage_ok x.program) /\ (lRoute_ok x.routes) /\ (lDemand_ok x.demands)
theorem Tenant.rd {a : AV} (h : Rd Tryz.prog 89 a) : ∃ x : Tenant,a = .agg x.c /\ x.ok:=by
 obtain ⟨ps,rfl,hp⟩:=Rd.unpack (ts:=[9,82,83,85,86,87]) (by kernel_rfl) h
 obtain ⟨a0,a1,a2,a3,a4,a5,rfl,g0,g1,g2,g3,g4,g5⟩:=RdAll.split6 hp
 obtain ⟨v0,rfl,k0⟩:=Rd.str_of (t:=9) (by kernel_rfl) g0
 obtain ⟨v1,rfl,k1⟩:=lPort_rd82 g1
 obtain ⟨v2,rfl,k2⟩:=lWire_rd83 g2
 obtain ⟨v3,rfl,k3⟩:=lStage_rd85 g3
 obtain ⟨v4,rfl,k4⟩:=lRoute_rd86 g4
 obtain ⟨v5,rfl,k5⟩:=lDemand_rd87 g5
 exact ⟨⟨v0,v1,v2,v3,v4,v5⟩,rfl,⟨k0,k1,k2,k3,k4,k5⟩⟩
@[ext] structure Node where
 name : ByteArray
 box : Bool
 rules : Int
 entries : Int
 deriving DecidableEq,Inhabited
def Node.c (x : Node) : List AV:=[.str x.name,.bool x.box,.int .i64 x.rules,.int .i64 x.entries]
theorem Node.bk1 (x : Node) : 1 <= bulkL x.c:=by
 have h1 : 1 <= (.str x.name : AV).bulk:=by simp [AV.bulk]
 exact Nat.le_trans h1 (bulk_mem (List.mem_of_getElem? (i:=0) rfl))
@[go_sem] theorem Node.cf_len (x : Node) : x.c.length = 4:=rfl
theorem Node.c_len (x : Node) : x.c.length = 4:=rfl
@[go_sem] theorem Node.cf_bor (x : Node) : x.c.map borrow1 = x.c:=rfl
theorem Node.c_bor (x : Node) : x.c.map borrow1 = x.c:=rfl
@[go_sem] theorem Node.cf_own (x : Node) : x.c.any owned1 = false:=by
 rfl
@[go_sem] theorem Node.cf_take (x : Node) : x.c.take 4 = x.c:=rfl
@[go_sem] theorem Node.cf_pure (x : Node) : pureL x.c = true:=by
 simp [Node.c,pureL,AV.pure]
theorem Node.c_pure (x : Node) : pureL x.c = true:=x.cf_pure
@[go_sem] theorem Node.cf_bnd (k : Nat) (x : Node) : bndL k x.c = true:=by
 simp [Node.c,bndL,AV.bnd]
theorem Node.c_bnd (k : Nat) (x : Node) : bndL k x.c = true:=Node.cf_bnd k x
theorem Node.bk_name {x : Node} {B : Nat} (h : bulkL x.c <= B) : x.name.size <= B:=bulk_str (List.mem_of_getElem? (i:=0) rfl) h
@[go_sem] theorem Node.cf_at0 (x : Node) : x.c[0]? = some (.str x.name):=rfl
@[go_sem] theorem Node.cf_at1 (x : Node) : x.c[1]? = some (.bool x.box):=rfl
@[go_sem] theorem Node.cf_at2 (x : Node) : x.c[2]? = some (.int .i64 x.rules):=rfl
@[go_sem] theorem Node.cf_at3 (x : Node) : x.c[3]? = some (.int .i64 x.entries):=rfl
def Node.z : Node:=⟨.empty,false,0,0⟩
@[go_sem] theorem Node.zero : zeroAV Tryz.prog 117 = some (.agg Node.z.c):=by kernel_rfl
def Node.ok (x : Node) : Prop:=(x.name.size <= reachBytes) /\ (True) /\ (IntKind.i64.min <= x.rules /\ x.rules <= IntKind.i64.max) /\ (IntKind.i64.min <= x.entries /\ x.entries <= IntKind.i64.max)
theorem Node.rd {a : AV} (h : Rd Tryz.prog 117 a) : ∃ x : Node,a = .agg x.c /\ x.ok:=by
 obtain ⟨ps,rfl,hp⟩:=Rd.unpack (ts:=[9,4,3,3]) (by kernel_rfl) h
 obtain ⟨a0,a1,a2,a3,rfl,g0,g1,g2,g3⟩:=RdAll.split4 hp
 obtain ⟨v0,rfl,k0⟩:=Rd.str_of (t:=9) (by kernel_rfl) g0
 obtain ⟨v1,rfl,k1⟩:=Rd.bool_of (t:=4) (by kernel_rfl) g1
 obtain ⟨v2,rfl,k2⟩:=Rd.int_of (t:=3) (k:=.i64) (by kernel_rfl) g2
 obtain ⟨v3,rfl,k3⟩:=Rd.int_of (t:=3) (k:=.i64) (by kernel_rfl) g3
 exact ⟨⟨v0,v1,v2,v3⟩,rfl,⟨k0,k1,k2,k3⟩⟩
theorem Node.eq (x y : Node) : aeql Tryz.prog 117 (.agg x.c) (.agg y.c) = some (decide (x = y)):=by
 have e : aeql Tryz.prog 117 (.agg x.c) (.agg y.c) = some ((x.name.toList == y.name.toList) && ((x.box == y.box) && ((x.rules == y.rules) && ((x.entries == y.entries) && true)))):=by kernel_rfl
 rw [e,Option.some.injEq,Bool.eq_iff_iff]
 simp [Node.ext_iff,ByteArray.toList_eq,Array.toList_inj,ByteArray.ext_iff]
@[ext] structure Link where
 src : Int
 dst : Int
 capacity : Int
 deriving DecidableEq,Inhabited
def Link.c (x : Link) : List AV:=[.int .i64 x.src,.int .i64 x.dst,.int .i64 x.capacity]
theorem Link.bk1 (x : Link) : 1 <= bulkL x.c:=by
 have h1 : 1 <= (.int .i64 x.src : AV).bulk:=by simp [AV.bulk]
 exact Nat.le_trans h1 (bulk_mem (List.mem_of_getElem? (i:=0) rfl))
@[go_sem] theorem Link.cf_len (x : Link) : x.c.length = 3:=rfl
theorem Link.c_len (x : Link) : x.c.length = 3:=rfl
@[go_sem] theorem Link.cf_bor (x : Link) : x.c.map borrow1 = x.c:=rfl
theorem Link.c_bor (x : Link) : x.c.map borrow1 = x.c:=rfl
@[go_sem] theorem Link.cf_own (x : Link) : x.c.any owned1 = false:=by
 rfl
@[go_sem] theorem Link.cf_take (x : Link) : x.c.take 3 = x.c:=rfl
@[go_sem] theorem Link.cf_pure (x : Link) : pureL x.c = true:=by
 simp [Link.c,pureL,AV.pure]
theorem Link.c_pure (x : Link) : pureL x.c = true:=x.cf_pure
@[go_sem] theorem Link.cf_bnd (k : Nat) (x : Link) : bndL k x.c = true:=by
 simp [Link.c,bndL,AV.bnd]
theorem Link.c_bnd (k : Nat) (x : Link) : bndL k x.c = true:=Link.cf_bnd k x
@[go_sem] theorem Link.cf_at0 (x : Link) : x.c[0]? = some (.int .i64 x.src):=rfl
@[go_sem] theorem Link.cf_at1 (x : Link) : x.c[1]? = some (.int .i64 x.dst):=rfl
@[go_sem] theorem Link.cf_at2 (x : Link) : x.c[2]? = some (.int .i64 x.capacity):=rfl
def Link.z : Link:=⟨0,0,0⟩
@[go_sem] theorem Link.zero : zeroAV Tryz.prog 166 = some (.agg Link.z.c):=by kernel_rfl
def Link.ok (x : Link) : Prop:=(IntKind.i64.min <= x.src /\ x.src <= IntKind.i64.max) /\ (IntKind.i64.min <= x.dst /\ x.dst <= IntKind.i64.max) /\ (IntKind.i64.min <= x.capacity /\ x.capacity <= IntKind.i64.max)
theorem Link.rd {a : AV} (h : Rd Tryz.prog 166 a) : ∃ x : Link,a = .agg x.c /\ x.ok:=by
 obtain ⟨ps,rfl,hp⟩:=Rd.unpack (ts:=[3,3,3]) (by kernel_rfl) h
 obtain ⟨a0,a1,a2,rfl,g0,g1,g2⟩:=RdAll.split3 hp
 obtain ⟨v0,rfl,k0⟩:=Rd.int_of (t:=3) (k:=.i64) (by kernel_rfl) g0
 obtain ⟨v1,rfl,k1⟩:=Rd.int_of (t:=3) (k:=.i64) (by kernel_rfl) g1
 obtain ⟨v2,rfl,k2⟩:=Rd.int_of (t:=3) (k:=.i64) (by kernel_rfl) g2
 exact ⟨⟨v0,v1,v2⟩,rfl,⟨k0,k1,k2⟩⟩
theorem Link.eq (x y : Link) : aeql Tryz.prog 166 (.agg x.c) (.agg y.c) = some (decide (x = y)):=by
 have e : aeql Tryz.prog 166 (.agg x.c) (.agg y.c) = some ((x.src == y.src) && ((x.dst == y.dst) && ((x.capacity == y.capacity) && true))):=by kernel_rfl
 rw [e,Option.some.injEq,Bool.eq_iff_iff]
 simp [Link.ext_iff]
@[ext] structure Edge where
 name : ByteArray
 node : Int
 deriving DecidableEq,Inhabited
def Edge.c (x : Edge) : List AV:=[.str x.name,.int .i64 x.node]
theorem Edge.bk1 (x : Edge) : 1 <= bulkL x.c:=by
 have h1 : 1 <= (.str x.name : AV).bulk:=by simp [AV.bulk]
 exact Nat.le_trans h1 (bulk_mem (List.mem_of_getElem? (i:=0) rfl))
@[go_sem] theorem Edge.cf_len (x : Edge) : x.c.length = 2:=rfl
theorem Edge.c_len (x : Edge) : x.c.length = 2:=rfl
@[go_sem] theorem Edge.cf_bor (x : Edge) : x.c.map borrow1 = x.c:=rfl
theorem Edge.c_bor (x : Edge) : x.c.map borrow1 = x.c:=rfl
@[go_sem] theorem Edge.cf_own (x : Edge) : x.c.any owned1 = false:=by
 rfl
@[go_sem] theorem Edge.cf_pure (x : Edge) : pureL x.c = true:=by
 simp [Edge.c,pureL,AV.pure]
theorem Edge.c_pure (x : Edge) : pureL x.c = true:=x.cf_pure
@[go_sem] theorem Edge.cf_bnd (k : Nat) (x : Edge) : bndL k x.c = true:=by
 simp [Edge.c,bndL,AV.bnd]
theorem Edge.c_bnd (k : Nat) (x : Edge) : bndL k x.c = true:=Edge.cf_bnd k x
theorem Edge.bk_name {x : Edge} {B : Nat} (h : bulkL x.c <= B) : x.name.size <= B:=bulk_str (List.mem_of_getElem? (i:=0) rfl) h
@[go_sem] theorem Edge.cf_at0 (x : Edge) : x.c[0]? = some (.str x.name):=rfl
@[go_sem] theorem Edge.cf_at1 (x : Edge) : x.c[1]? = some (.int .i64 x.node):=rfl
def Edge.z : Edge:=⟨.empty,0⟩
def Edge.ok (x : Edge) : Prop:=(x.name.size <= reachBytes) /\ (IntKind.i64.min <= x.node /\ x.node <= IntKind.i64.max)
theorem Edge.rd {a : AV} (h : Rd Tryz.prog 77 a) : ∃ x : Edge,a = .agg x.c /\ x.ok:=by
 obtain ⟨ps,rfl,hp⟩:=Rd.unpack (ts:=[9,3]) (by kernel_rfl) h
 obtain ⟨a0,a1,rfl,g0,g1⟩:=RdAll.split2 hp
 obtain ⟨v0,rfl,k0⟩:=Rd.str_of (t:=9) (by kernel_rfl) g0
 obtain ⟨v1,rfl,k1⟩:=Rd.int_of (t:=3) (k:=.i64) (by kernel_rfl) g1
 exact ⟨⟨v0,v1⟩,rfl,⟨k0,k1⟩⟩
theorem Edge.eq (x y : Edge) : aeql Tryz.prog 77 (.agg x.c) (.agg y.c) = some (decide (x = y)):=by
 have e : aeql Tryz.prog 77 (.agg x.c) (.agg y.c) = some ((x.name.toList == y.name.toList) && ((x.node == y.node) && true)):=by kernel_rfl
 rw [e,Option.some.injEq,Bool.eq_iff_iff]
 simp [Edge.ext_iff,ByteArray.toList_eq,Array.toList_inj,ByteArray.ext_iff]
def lNode (l : List Node) : List AV:=l.map fun x => .agg x.c
@[go_sem] theorem lNode_len (l : List Node) : (lNode l).length = l.length:=by simp [lNode]
theorem lNode_get {l : List Node} {i : Nat} {x : Node} (h : l[i]? = some x) : (lNode l)[i]? = some (.agg x.c):=by simp [lNode,h]
theorem lNode_mem {l : List Node} {x : Node} (h : x ∈ l) : .agg x.c ∈ lNode l:=by rw [lNode]; exact List.mem_map.2 ⟨x,h,rfl⟩
@[go_sem] theorem lNode_pure (l : List Node) : pureL (lNode l) = true:=by
 induction l with
 | nil => rfl
 | cons x xs ih => simpa [lNode,pureL,AV.pure] using ⟨Node.c_pure x,ih⟩
@[go_sem] theorem lNode_bnd (k : Nat) (l : List Node) : bndL k (lNode l) = true:=bndL_map fun x => Node.c_bnd k x
theorem lNode_bk {l : List Node} {B : Nat} (h : bulkL (lNode l) <= B) {x : Node} (hx : x ∈ l) : (.agg x.c : AV).bulk <= B:=Nat.le_trans (bulk_mem (lNode_mem hx)) h
theorem lNode_bn {l : List Node} {B : Nat} (h : bulkL (lNode l) <= B) : l.length <= B:=by
 refine Nat.le_trans ?_ h
 exact bulk_cnt (f:=fun (x : Node) => .agg x.c) (fun x => by exact Node.bk1 x) l
def lNode_ok (l : List Node) : Prop:=l.length * 40 <= reachBytes /\ ∀ x ∈ l,x.ok
theorem lNode_rd22 {a : AV} (h : Rd Tryz.prog 22 a) : ∃ l,a = .sl none (lNode l) /\ lNode_ok l:=by
 obtain ⟨l,h1,h2,h3⟩:=Rd.list (f:=fun (x : Node) => .agg x.c) (ok:=fun (x : Node) => x.ok) (P:=Tryz.prog) (t:=22) (e:=117) (by kernel_rfl) (fun x hx => Node.rd hx) h
 exact ⟨l,h1,by rw [show Tryz.prog.bytesOf 117 = 40 by kernel_rfl] at h2; exact h2,h3⟩
def lLink (l : List Link) : List AV:=l.map fun x => .agg x.c
@[go_sem] theorem lLink_len (l : List Link) : (lLink l).length = l.length:=by simp [lLink]
theorem lLink_get {l : List Link} {i : Nat} {x : Link} (h : l[i]? = some x) : (lLink l)[i]? = some (.agg x.c):=by simp [lLink,h]
@[go_sem] theorem lLink_pure (l : List Link) : pureL (lLink l) = true:=by
 induction l with
 | nil => rfl
 | cons x xs ih => simpa [lLink,pureL,AV.pure] using ⟨Link.c_pure x,ih⟩
@[go_sem] theorem lLink_bnd (k : Nat) (l : List Link) : bndL k (lLink l) = true:=bndL_map fun x => Link.c_bnd k x
theorem lLink_bn {l : List Link} {B : Nat} (h : bulkL (lLink l) <= B) : l.length <= B:=by
 refine Nat.le_trans ?_ h
 exact bulk_cnt (f:=fun (x : Link) => .agg x.c) (fun x => by exact Link.bk1 x) l
def lLink_ok (l : List Link) : Prop:=l.length * 24 <= reachBytes /\ ∀ x ∈ l,x.ok
theorem lLink_rd23 {a : AV} (h : Rd Tryz.prog 23 a) : ∃ l,a = .sl none (lLink l) /\ lLink_ok l:=by
 obtain ⟨l,h1,h2,h3⟩:=Rd.list (f:=fun (x : Link) => .agg x.c) (ok:=fun (x : Link) => x.ok) (P:=Tryz.prog) (t:=23) (e:=166) (by kernel_rfl) (fun x hx => Link.rd hx) h
 exact ⟨l,h1,by rw [show Tryz.prog.bytesOf 166 = 24 by kernel_rfl] at h2; exact h2,h3⟩
def lEdge (l : List Edge) : List AV:=l.map fun x => .agg x.c
@[go_sem] theorem lEdge_len (l : List Edge) : (lEdge l).length = l.length:=by simp [lEdge]
theorem lEdge_get {l : List Edge} {i : Nat} {x : Edge} (h : l[i]? = some x) : (lEdge l)[i]? = some (.agg x.c):=by simp [lEdge,h]
theorem lEdge_mem {l : List Edge} {x : Edge} (h : x ∈ l) : .agg x.c ∈ lEdge l:=by rw [lEdge]; exact List.mem_map.2 ⟨x,h,rfl⟩
@[go_sem] theorem lEdge_pure (l : List Edge) : pureL (lEdge l) = true:=by
 induction l with
 | nil => rfl
 | cons x xs ih => simpa [lEdge,pureL,AV.pure] using ⟨Edge.c_pure x,ih⟩
@[go_sem] theorem lEdge_bnd (k : Nat) (l : List Edge) : bndL k (lEdge l) = true:=bndL_map fun x => Edge.c_bnd k x
theorem lEdge_bk {l : List Edge} {B : Nat} (h : bulkL (lEdge l) <= B) {x : Edge} (hx : x ∈ l) : (.agg x.c : AV).bulk <= B:=Nat.le_trans (bulk_mem (lEdge_mem hx)) h
theorem lEdge_bn {l : List Edge} {B : Nat} (h : bulkL (lEdge l) <= B) : l.length <= B:=by
 refine Nat.le_trans ?_ h
 exact bulk_cnt (f:=fun (x : Edge) => .agg x.c) (fun x => by exact Edge.bk1 x) l
def lEdge_ok (l : List Edge) : Prop:=l.length * 24 <= reachBytes /\ ∀ x ∈ l,x.ok
theorem lEdge_rd24 {a : AV} (h : Rd Tryz.prog 24 a) : ∃ l,a = .sl none (lEdge l) /\ lEdge_ok l:=by
 obtain ⟨l,h1,h2,h3⟩:=Rd.list (f:=fun (x : Edge) => .agg x.c) (ok:=fun (x : Edge) => x.ok) (P:=Tryz.prog) (t:=24) (e:=77) (by kernel_rfl) (fun x hx => Edge.rd hx) h
 exact ⟨l,h1,by rw [show Tryz.prog.bytesOf 77 = 24 by kernel_rfl] at h2; exact h2,h3⟩
@[ext] structure Network where
 nodes : List Node
 links : List Link
 edges : List Edge
 deriving DecidableEq,Inhabited
def Network.cf (x : Network) (o0 o1 o2 : Option Nat) : List AV:=[.sl o0 (lNode x.nodes),.sl o1 (lLink x.links),.sl o2 (lEdge x.edges)]
abbrev Network.c (x : Network) : List AV:=x.cf none none none
abbrev Network.co (x : Network) : List AV:=x.cf (some 4) (some 3) (some 2)
theorem Network.bk1 (x : Network) : 1 <= bulkL x.c:=by
 have h1 : 1 <= (.sl none (lNode x.nodes) : AV).bulk:=by simp [AV.bulk]
 exact Nat.le_trans h1 (bulk_mem (List.mem_of_getElem? (i:=0) rfl))
@[go_sem] theorem Network.cf_len (x : Network) (o0 o1 o2 : Option Nat) : (x.cf o0 o1 o2).length = 3:=rfl
theorem Network.c_len (x : Network) : x.c.length = 3:=rfl
@[go_sem] theorem Network.cf_bor (x : Network) (o0 o1 o2 : Option Nat) : (x.cf o0 o1 o2).map borrow1 = x.cf none none none:=rfl
theorem Network.c_bor (x : Network) : x.c.map borrow1 = x.c:=rfl
@[go_sem] theorem Network.cf_own (x : Network) (o0 o1 o2 : Option Nat) : (x.cf o0 o1 o2).any owned1 = (o0.isSome || o1.isSome || o2.isSome):=by
 cases o0 <;> cases o1 <;> cases o2 <;> rfl
@[go_sem] theorem Network.cf_take (x : Network) (o0 o1 o2 : Option Nat) : (x.cf o0 o1 o2).take 3 = x.cf o0 o1 o2:=rfl
@[go_sem] theorem Network.cf_pure (x : Network) (o0 o1 o2 : Option Nat) : pureL (x.cf o0 o1 o2) = true:=by
 simp [Network.cf,pureL,AV.pure,lEdge_pure,lLink_pure,lNode_pure]
theorem Network.c_pure (x : Network) : pureL x.c = true:=x.cf_pure none none none
@[go_sem] theorem Network.cf_bnd (k : Nat) (x : Network) (o0 o1 o2 : Option Nat) : bndL k (x.cf o0 o1 o2) = true:=by
 simp [Network.cf,bndL,AV.bnd,lEdge_bnd,lLink_bnd,lNode_bnd]
theorem Network.c_bnd (k : Nat) (x : Network) : bndL k x.c = true:=Network.cf_bnd k x none none none
theorem Network.bl_nodes {x : Network} {B : Nat} (h : bulkL x.c <= B) : bulkL (lNode x.nodes) <= B:=bulk_sl (o:=none) (List.mem_of_getElem? (i:=0) rfl) h
theorem Network.bl_links {x : Network} {B : Nat} (h : bulkL x.c <= B) : bulkL (lLink x.links) <= B:=bulk_sl (o:=none) (List.mem_of_getElem? (i:=1) rfl) h
theorem Network.bl_edges {x : Network} {B : Nat} (h : bulkL x.c <= B) : bulkL (lEdge x.edges) <= B:=bulk_sl (o:=none) (List.mem_of_getElem? (i:=2) rfl) h
@[go_sem] theorem Network.cf_at0 (x : Network) (o0 o1 o2 : Option Nat) : (x.cf o0 o1 o2)[0]? = some (.sl o0 (lNode x.nodes)):=rfl
@[go_sem] theorem Network.cf_at1 (x : Network) (o0 o1 o2 : Option Nat) : (x.cf o0 o1 o2)[1]? = some (.sl o1 (lLink x.links)):=rfl
@[go_sem] theorem Network.cf_at2 (x : Network) (o0 o1 o2 : Option Nat) : (x.cf o0 o1 o2)[2]? = some (.sl o2 (lEdge x.edges)):=rfl
def Network.z : Network:=⟨[],[],[]⟩
def Network.ok (x : Network) : Prop:=(lNode_ok x.nodes) /\ (lLink_ok x.links) /\ (lEdge_ok x.edges)
theorem Network.rd {a : AV} (h : Rd Tryz.prog 26 a) : ∃ x : Network,a = .agg x.c /\ x.ok:=by
 obtain ⟨ps,rfl,hp⟩:=Rd.unpack (ts:=[22,23,24]) (by kernel_rfl) h
 obtain ⟨a0,a1,a2,rfl,g0,g1,g2⟩:=RdAll.split3 hp
 obtain ⟨v0,rfl,k0⟩:=lNode_rd22 g0
 obtain ⟨v1,rfl,k1⟩:=lLink_rd23 g1
 obtain ⟨v2,rfl,k2⟩:=lEdge_rd24 g2
 exact ⟨⟨v0,v1,v2⟩,rfl,⟨k0,k1,k2⟩⟩
@[ext] structure Contract where
 src : ByteArray
 dst : ByteArray
 fromPort : Int
 toPort : Int
 pred : Pred
 via : Int
 capacity : Int
 price : Int
 deriving Inhabited
def Contract.cf (x : Contract) (o0 : Option Nat) : List AV:=[.str x.src,.str x.dst,.int .i64 x.fromPort,.int .i64 x.toPort,.int .i64 x.pred.kind,.str x.pred.field,.int .i64 x.pred.n,.int .i64 x.pred.m,.sl o0 (lPred x.pred.args),.int .i64 x.via,.int .i64 x.capacity,.int .i64 x.price]
abbrev Contract.c (x : Contract) : List AV:=x.cf none
abbrev Contract.co (x : Contract) : List AV:=x.cf (some 5)
theorem Contract.bk1 (x : Contract) : 1 <= bulkL x.c:=by
 have h1 : 1 <= (.str x.src : AV).bulk:=by simp [AV.bulk]
 exact Nat.le_trans h1 (bulk_mem (List.mem_of_getElem? (i:=0) rfl))
@[go_sem] theorem Contract.cf_len (x : Contract) (o0 : Option Nat) : (x.cf o0).length = 12:=rfl
theorem Contract.c_len (x : Contract) : x.c.length = 12:=rfl
@[go_sem] theorem Contract.cf_bor (x : Contract) (o0 : Option Nat) : (x.cf o0).map borrow1 = x.cf none:=rfl
theorem Contract.c_bor (x : Contract) : x.c.map borrow1 = x.c:=rfl
@[go_sem] theorem Contract.cf_own (x : Contract) (o0 : Option Nat) : (x.cf o0).any owned1 = (o0.isSome):=by
 cases o0 <;> rfl
@[go_sem] theorem Contract.cf_take (x : Contract) (o0 : Option Nat) : (x.cf o0).take 12 = x.cf o0:=rfl
@[go_sem] theorem Contract.cf_pure (x : Contract) (o0 : Option Nat) : pureL (x.cf o0) = true:=by
 simp [Contract.cf,pureL,AV.pure,lPred_pure]
theorem Contract.c_pure (x : Contract) : pureL x.c = true:=x.cf_pure none
@[go_sem] theorem Contract.cf_bnd (k : Nat) (x : Contract) (o0 : Option Nat) : bndL k (x.cf o0) = true:=by
 simp [Contract.cf,bndL,AV.bnd,lPred_bnd]
theorem Contract.c_bnd (k : Nat) (x : Contract) : bndL k x.c = true:=Contract.cf_bnd k x none
theorem Contract.fit_pred_args {x : Contract} (h : fitL x.c) : x.pred.args.length <= 9223372036854775807:=by
 have h1 : (AV.sl none (lPred x.pred.args)).fit:=fitL_iff.1 h _ (List.mem_of_getElem? (i:=8) rfl)
 have h2:=h1.1
 rwa [lPred_len] at h2
theorem Contract.in_pred_args {x : Contract} (h : fitL x.c) {y : Pred} (hy : y ∈ x.pred.args) : fitL y.c:=by
 have h1 : (AV.sl none (lPred x.pred.args)).fit:=fitL_iff.1 h _ (List.mem_of_getElem? (i:=8) rfl)
 exact fitL_iff.1 h1.2 _ (lPred_mem hy)
theorem Contract.bs_pred {x : Contract} {B : Nat} (h : bulkL x.c <= B) : bulkL x.pred.c <= B:=by
 have h1:=bulkL_part x.c 4 5
 rw [show (x.c.drop 4).take 5 = x.pred.c from rfl] at h1
 omega
theorem Contract.bk_pred_field {x : Contract} {B : Nat} (h : bulkL x.c <= B) : x.pred.field.size <= B:=bulk_str (List.mem_of_getElem? (i:=5) rfl) h
theorem Contract.bl_pred_args {x : Contract} {B : Nat} (h : bulkL x.c <= B) : bulkL (lPred x.pred.args) <= B:=bulk_sl (o:=none) (List.mem_of_getElem? (i:=8) rfl) h
@[go_sem] theorem Contract.cf_at0 (x : Contract) (o0 : Option Nat) : (x.cf o0)[0]? = some (.str x.src):=rfl
@[go_sem] theorem Contract.cf_at1 (x : Contract) (o0 : Option Nat) : (x.cf o0)[1]? = some (.str x.dst):=rfl
@[go_sem] theorem Contract.cf_at2 (x : Contract) (o0 : Option Nat) : (x.cf o0)[2]? = some (.int .i64 x.fromPort):=rfl
@[go_sem] theorem Contract.cf_at3 (x : Contract) (o0 : Option Nat) : (x.cf o0)[3]? = some (.int .i64 x.toPort):=rfl
@[go_sem] theorem Contract.cf_at9 (x : Contract) (o0 : Option Nat) : (x.cf o0)[9]? = some (.int .i64 x.via):=rfl
@[go_sem] theorem Contract.cf_at10 (x : Contract) (o0 : Option Nat) : (x.cf o0)[10]? = some (.int .i64 x.capacity):=rfl
@[go_sem] theorem Contract.cf_at11 (x : Contract) (o0 : Option Nat) : (x.cf o0)[11]? = some (.int .i64 x.price):=rfl
@[go_sem] theorem Contract.cf_part_pred (x : Contract) (o0 : Option Nat) : ((x.cf o0).drop 4).take 5 = x.pred.cf o0:=rfl
def Contract.z : Contract:=⟨.empty,.empty,0,0,⟨0,.empty,0,0,[]⟩,0,0,0⟩
@[go_sem] theorem Contract.zero : zeroAV Tryz.prog 66 = some (.agg (Contract.z.cf (some 5))):=by kernel_rfl
def Contract.ok (x : Contract) : Prop:=(x.src.size <= reachBytes) /\ (x.dst.size <= reachBytes) /\ (IntKind.i64.min <= x.fromPort /\ x.fromPort <= IntKind.i64.max) /\ (IntKind.i64.min <= x.toPort /\ x.toPort <= IntKind.i64.max) /\ (x.pred.ok) /\ (IntKind.i64.min <= x.via /\ x.via <= IntKind.i64.max) /\ (IntKind.i64.min <= x.capacity /\ x.capacity <= IntKind.i64.max) /\ (IntKind.i64.min <= x.price /\ x.price <= IntKind.i64.max)
theorem Contract.rd {a : AV} (h : Rd Tryz.prog 66 a) : ∃ x : Contract,a = .agg x.c /\ x.ok:=by
 obtain ⟨ps,rfl,hp⟩:=Rd.unpack (ts:=[9,9,3,3,64,3,3,3]) (by kernel_rfl) h
 obtain ⟨a0,a1,a2,a3,a4,a5,a6,a7,rfl,g0,g1,g2,g3,g4,g5,g6,g7⟩:=RdAll.split8 hp
 obtain ⟨v0,rfl,k0⟩:=Rd.str_of (t:=9) (by kernel_rfl) g0
 obtain ⟨v1,rfl,k1⟩:=Rd.str_of (t:=9) (by kernel_rfl) g1
 obtain ⟨v2,rfl,k2⟩:=Rd.int_of (t:=3) (k:=.i64) (by kernel_rfl) g2
 obtain ⟨v3,rfl,k3⟩:=Rd.int_of (t:=3) (k:=.i64) (by kernel_rfl) g3
 obtain ⟨v4,rfl,k4⟩:=Pred.rd g4
 obtain ⟨v5,rfl,k5⟩:=Rd.int_of (t:=3) (k:=.i64) (by kernel_rfl) g5
 obtain ⟨v6,rfl,k6⟩:=Rd.int_of (t:=3) (k:=.i64) (by kernel_rfl) g6
 obtain ⟨v7,rfl,k7⟩:=Rd.int_of (t:=3) (k:=.i64) (by kernel_rfl) g7
 exact ⟨⟨v0,v1,v2,v3,v4,v5,v6,v7⟩,rfl,⟨k0,k1,k2,k3,k4,k5,k6,k7⟩⟩
def lFld (l : List Fld) : List AV:=l.map fun x => .agg x.c
@[go_sem] theorem lFld_len (l : List Fld) : (lFld l).length = l.length:=by simp [lFld]
theorem lFld_get {l : List Fld} {i : Nat} {x : Fld} (h : l[i]? = some x) : (lFld l)[i]? = some (.agg x.c):=by simp [lFld,h]
theorem lFld_mem {l : List Fld} {x : Fld} (h : x ∈ l) : .agg x.c ∈ lFld l:=by rw [lFld]; exact List.mem_map.2 ⟨x,h,rfl⟩
@[go_sem] theorem lFld_pure (l : List Fld) : pureL (lFld l) = true:=by
 induction l with
 | nil => rfl
 | cons x xs ih => simpa [lFld,pureL,AV.pure] using ⟨Fld.c_pure x,ih⟩
@[go_sem] theorem lFld_bnd (k : Nat) (l : List Fld) : bndL k (lFld l) = true:=bndL_map fun x => Fld.c_bnd k x
theorem lFld_bk {l : List Fld} {B : Nat} (h : bulkL (lFld l) <= B) {x : Fld} (hx : x ∈ l) : (.agg x.c : AV).bulk <= B:=Nat.le_trans (bulk_mem (lFld_mem hx)) h
theorem lFld_bn {l : List Fld} {B : Nat} (h : bulkL (lFld l) <= B) : l.length <= B:=by
 refine Nat.le_trans ?_ h
 exact bulk_cnt (f:=fun (x : Fld) => .agg x.c) (fun x => by exact Fld.bk1 x) l
def lFld_ok (l : List Fld) : Prop:=l.length * 32 <= reachBytes /\ ∀ x ∈ l,x.ok
theorem lFld_rd27 {a : AV} (h : Rd Tryz.prog 27 a) : ∃ l,a = .sl none (lFld l) /\ lFld_ok l:=by
 obtain ⟨l,h1,h2,h3⟩:=Rd.list (f:=fun (x : Fld) => .agg x.c) (ok:=fun (x : Fld) => x.ok) (P:=Tryz.prog) (t:=27) (e:=115) (by kernel_rfl) (fun x hx => Fld.rd hx) h
 exact ⟨l,h1,by rw [show Tryz.prog.bytesOf 115 = 32 by kernel_rfl] at h2; exact h2,h3⟩
def lTenant (l : List Tenant) : List AV:=l.map fun x => .agg x.c
@[go_sem] theorem lTenant_len (l : List Tenant) : (lTenant l).length = l.length:=by simp [lTenant]
theorem lTenant_get {l : List Tenant} {i : Nat} {x : Tenant} (h : l[i]? = some x) : (lTenant l)[i]? = some (.agg x.c):=by simp [lTenant,h]
theorem lTenant_mem {l : List Tenant} {x : Tenant} (h : x ∈ l) : .agg x.c ∈ lTenant l:=by rw [lTenant]; exact List.mem_map.2 ⟨x,h,rfl⟩
@[go_sem] theorem lTenant_pure (l : List Tenant) : pureL (lTenant l) = true:=by
 induction l with
 | nil => rfl
 | cons x xs ih => simpa [lTenant,pureL,AV.pure] using ⟨Tenant.c_pure x,ih⟩
@[go_sem] theorem lTenant_bnd (k : Nat) (l : List Tenant) : bndL k (lTenant l) = true:=bndL_map fun x => Tenant.c_bnd k x
theorem lTenant_bk {l : List Tenant} {B : Nat} (h : bulkL (lTenant l) <= B) {x : Tenant} (hx : x ∈ l) : (.agg x.c : AV).bulk <= B:=Nat.le_trans (bulk_mem (lTenant_mem hx)) h
theorem lTenant_bn {l : List Tenant} {B : Nat} (h : bulkL (lTenant l) <= B) : l.length <= B:=by
 refine Nat.le_trans ?_ h
 exact bulk_cnt (f:=fun (x : Tenant) => .agg x.c) (fun x => by exact Tenant.bk1 x) l
def lTenant_ok (l : List Tenant) : Prop:=l.length * 136 <= reachBytes /\ ∀ x ∈ l,x.ok
theorem lTenant_rd28 {a : AV} (h : Rd Tryz.prog 28 a) : ∃ l,a = .sl none (lTenant l) /\ lTenant_ok l:=by
 obtain ⟨l,h1,h2,h3⟩:=Rd.list (f:=fun (x : Tenant) => .agg x.c) (ok:=fun (x : Tenant) => x.ok) (P:=Tryz.prog) (t:=28) (e:=89) (by kernel_rfl) (fun x hx => Tenant.rd hx) h
 exact ⟨l,h1,by rw [show Tryz.prog.bytesOf 89 = 136 by kernel_rfl] at h2; exact h2,h3⟩
def lContract (l : List Contract) : List AV:=l.map fun x => .agg x.c
@[go_sem] theorem lContract_len (l : List Contract) : (lContract l).length = l.length:=by simp [lContract]
theorem lContract_get {l : List Contract} {i : Nat} {x : Contract} (h : l[i]? = some x) : (lContract l)[i]? = some (.agg x.c):=by simp [lContract,h]
theorem lContract_mem {l : List Contract} {x : Contract} (h : x ∈ l) : .agg x.c ∈ lContract l:=by rw [lContract]; exact List.mem_map.2 ⟨x,h,rfl⟩
@[go_sem] theorem lContract_pure (l : List Contract) : pureL (lContract l) = true:=by
 induction l with
 | nil => rfl
 | cons x xs ih => simpa [lContract,pureL,AV.pure] using ⟨Contract.c_pure x,ih⟩
@[go_sem] theorem lContract_bnd (k : Nat) (l : List Contract) : bndL k (lContract l) = true:=bndL_map fun x => Contract.c_bnd k x
theorem lContract_bk {l : List Contract} {B : Nat} (h : bulkL (lContract l) <= B) {x : Contract} (hx : x ∈ l) : (.agg x.c : AV).bulk <= B:=Nat.le_trans (bulk_mem (lContract_mem hx)) h
theorem lContract_bn {l : List Contract} {B : Nat} (h : bulkL (lContract l) <= B) : l.length <= B:=by
 refine Nat.le_trans ?_ h
 exact bulk_cnt (f:=fun (x : Contract) => .agg x.c) (fun x => by exact Contract.bk1 x) l
def lContract_ok (l : List Contract) : Prop:=l.length * 136 <= reachBytes /\ ∀ x ∈ l,x.ok
theorem lContract_rd29 {a : AV} (h : Rd Tryz.prog 29 a) : ∃ l,a = .sl none (lContract l) /\ lContract_ok l:=by
 obtain ⟨l,h1,h2,h3⟩:=Rd.list (f:=fun (x : Contract) => .agg x.c) (ok:=fun (x : Contract) => x.ok) (P:=Tryz.prog) (t:=29) (e:=66) (by kernel_rfl) (fun x hx => Contract.rd hx) h
 exact ⟨l,h1,by rw [show Tryz.prog.bytesOf 66 = 136 by kernel_rfl] at h2; exact h2,h3⟩
@[ext] structure Setup where
 network : Network
 fields : List Fld
 tenants : List Tenant
 contracts : List Contract
 deriving Inhabited
def Setup.cf (x : Setup) (o0 o1 o2 o3 o4 o5 : Option Nat) : List AV:=[.sl o0 (lNode x.network.nodes),.sl o1 (lLink x.network.links),.sl o2 (lEdge x.network.edges),.sl o3 (lFld x.fields),.sl o4 (lTenant x.tenants),.sl o5 (lContract x.contracts)]
abbrev Setup.c (x : Setup) : List AV:=x.cf none none none none none none
abbrev Setup.co (x : Setup) : List AV:=x.cf (some 4) (some 3) (some 2) (some 3) (some 6) (some 12)
theorem Setup.bk1 (x : Setup) : 1 <= bulkL x.c:=by
 have h1 : 1 <= (.sl none (lNode x.network.nodes) : AV).bulk:=by simp [AV.bulk]
 exact Nat.le_trans h1 (bulk_mem (List.mem_of_getElem? (i:=0) rfl))
@[go_sem] theorem Setup.cf_len (x : Setup) (o0 o1 o2 o3 o4 o5 : Option Nat) : (x.cf o0 o1 o2 o3 o4 o5).length = 6:=rfl
theorem Setup.c_len (x : Setup) : x.c.length = 6:=rfl
@[go_sem] theorem Setup.cf_bor (x : Setup) (o0 o1 o2 o3 o4 o5 : Option Nat) : (x.cf o0 o1 o2 o3 o4 o5).map borrow1 = x.cf none none none none none none:=rfl
theorem Setup.c_bor (x : Setup) : x.c.map borrow1 = x.c:=rfl
@[go_sem] theorem Setup.cf_own (x : Setup) (o0 o1 o2 o3 o4 o5 : Option Nat) : (x.cf o0 o1 o2 o3 o4 o5).any owned1 = (o0.isSome || o1.isSome || o2.isSome || o3.isSome || o4.isSome || o5.isSome):=by
 cases o0 <;> cases o1 <;> cases o2 <;> cases o3 <;> cases o4 <;> cases o5 <;> rfl
@[go_sem] theorem Setup.cf_take (x : Setup) (o0 o1 o2 o3 o4 o5 : Option Nat) : (x.cf o0 o1 o2 o3 o4 o5).take 6 = x.cf o0 o1 o2 o3 o4 o5:=rfl
@[go_sem] theorem Setup.cf_pure (x : Setup) (o0 o1 o2 o3 o4 o5 : Option Nat) : pureL (x.cf o0 o1 o2 o3 o4 o5) = true:=by
 simp [Setup.cf,pureL,AV.pure,lContract_pure,lEdge_pure,lFld_pure,lLink_pure,lNode_pure,lTenant_pure]
theorem Setup.c_pure (x : Setup) : pureL x.c = true:=x.cf_pure none none none none none none
@[go_sem] theorem Setup.cf_bnd (k : Nat) (x : Setup) (o0 o1 o2 o3 o4 o5 : Option Nat) : bndL k (x.cf o0 o1 o2 o3 o4 o5) = true:=by
 simp [Setup.cf,bndL,AV.bnd,lContract_bnd,lEdge_bnd,lFld_bnd,lLink_bnd,lNode_bnd,lTenant_bnd]
theorem Setup.c_bnd (k : Nat) (x : Setup) : bndL k x.c = true:=Setup.cf_bnd k x none none none none none none
theorem Setup.fit_fields {x : Setup} (h : fitL x.c) : x.fields.length <= 9223372036854775807:=by
 have h1 : (AV.sl none (lFld x.fields)).fit:=fitL_iff.1 h _ (List.mem_of_getElem? (i:=3) rfl)
 have h2:=h1.1
 rwa [lFld_len] at h2
theorem Setup.in_fields {x : Setup} (h : fitL x.c) {y : Fld} (hy : y ∈ x.fields) : fitL y.c:=by
 have h1 : (AV.sl none (lFld x.fields)).fit:=fitL_iff.1 h _ (List.mem_of_getElem? (i:=3) rfl)
 exact fitL_iff.1 h1.2 _ (lFld_mem hy)
theorem Setup.fit_tenants {x : Setup} (h : fitL x.c) : x.tenants.length <= 9223372036854775807:=by
 have h1 : (AV.sl none (lTenant x.tenants)).fit:=fitL_iff.1 h _ (List.mem_of_getElem? (i:=4) rfl)
 have h2:=h1.1
 rwa [lTenant_len] at h2
theorem Setup.fit_contracts {x : Setup} (h : fitL x.c) : x.contracts.length <= 9223372036854775807:=by
 have h1 : (AV.sl none (lContract x.contracts)).fit:=fitL_iff.1 h _ (List.mem_of_getElem? (i:=5) rfl)
 have h2:=h1.1
 rwa [lContract_len] at h2
theorem Setup.bs_network {x : Setup} {B : Nat} (h : bulkL x.c <= B) : bulkL x.network.c <= B:=by
 have h1:=bulkL_part x.c 0 3
 rw [show (x.c.drop 0).take 3 = x.network.c from rfl] at h1
 omega
theorem Setup.bl_network_edges {x : Setup} {B : Nat} (h : bulkL x.c <= B) : bulkL (lEdge x.network.edges) <= B:=bulk_sl (o:=none) (List.mem_of_getElem? (i:=2) rfl) h
theorem Setup.bl_fields {x : Setup} {B : Nat} (h : bulkL x.c <= B) : bulkL (lFld x.fields) <= B:=bulk_sl (o:=none) (List.mem_of_getElem? (i:=3) rfl) h
theorem Setup.bl_tenants {x : Setup} {B : Nat} (h : bulkL x.c <= B) : bulkL (lTenant x.tenants) <= B:=bulk_sl (o:=none) (List.mem_of_getElem? (i:=4) rfl) h
theorem Setup.bl_contracts {x : Setup} {B : Nat} (h : bulkL x.c <= B) : bulkL (lContract x.contracts) <= B:=bulk_sl (o:=none) (List.mem_of_getElem? (i:=5) rfl) h
@[go_sem] theorem Setup.cf_at0 (x : Setup) (o0 o1 o2 o3 o4 o5 : Option Nat) : (x.cf o0 o1 o2 o3 o4 o5)[0]? = some (.sl o0 (lNode x.network.nodes)):=rfl
@[go_sem] theorem Setup.cf_at2 (x : Setup) (o0 o1 o2 o3 o4 o5 : Option Nat) : (x.cf o0 o1 o2 o3 o4 o5)[2]? = some (.sl o2 (lEdge x.network.edges)):=rfl
@[go_sem] theorem Setup.cf_at3 (x : Setup) (o0 o1 o2 o3 o4 o5 : Option Nat) : (x.cf o0 o1 o2 o3 o4 o5)[3]? = some (.sl o3 (lFld x.fields)):=rfl
@[go_sem] theorem Setup.cf_at4 (x : Setup) (o0 o1 o2 o3 o4 o5 : Option Nat) : (x.cf o0 o1 o2 o3 o4 o5)[4]? = some (.sl o4 (lTenant x.tenants)):=rfl
@[go_sem] theorem Setup.cf_at5 (x : Setup) (o0 o1 o2 o3 o4 o5 : Option Nat) : (x.cf o0 o1 o2 o3 o4 o5)[5]? = some (.sl o5 (lContract x.contracts)):=rfl
@[go_sem] theorem Setup.cf_part_network (x : Setup) (o0 o1 o2 o3 o4 o5 : Option Nat) : (x.cf o0 o1 o2 o3 o4 o5).take 3 = x.network.cf o0 o1 o2:=rfl
def Setup.z : Setup:=⟨⟨[],[],[]⟩,[],[],[]⟩
@[go_sem] theorem Setup.zero : zeroAV Tryz.prog 31 = some (.agg (Setup.z.cf (some 4) (some 3) (some 2) (some 3) (some 6) (some 12))):=by kernel_rfl
def Setup.ok (x : Setup) : Prop:=(x.network.ok) /\ (lFld_ok x.fields) /\ (lTenant_ok x.tenants) /\ (lContract_ok x.contracts)
theorem Setup.rd {a : AV} (h : Rd Tryz.prog 31 a) : ∃ x : Setup,a = .agg x.c /\ x.ok:=by
 obtain ⟨ps,rfl,hp⟩:=Rd.unpack (ts:=[26,27,28,29]) (by kernel_rfl) h
 obtain ⟨a0,a1,a2,a3,rfl,g0,g1,g2,g3⟩:=RdAll.split4 hp
 obtain ⟨v0,rfl,k0⟩:=Network.rd g0
 obtain ⟨v1,rfl,k1⟩:=lFld_rd27 g1
 obtain ⟨v2,rfl,k2⟩:=lTenant_rd28 g2
 obtain ⟨v3,rfl,k3⟩:=lContract_rd29 g3
 exact ⟨⟨v0,v1,v2,v3⟩,rfl,⟨k0,k1,k2,k3⟩⟩
def lI64 (l : List Int) : List AV:=l.map fun x => .int .i64 x
@[go_sem] theorem lI64_len (l : List Int) : (lI64 l).length = l.length:=by simp [lI64]
theorem lI64_get {l : List Int} {i : Nat} {x : Int} (h : l[i]? = some x) : (lI64 l)[i]? = some (.int .i64 x):=by simp [lI64,h]
theorem lI64_cells (l : List Int) : ∀ x ∈ lI64 l,x.cells.length = 1:=by
 intro x hx; obtain ⟨y,_,rfl⟩:=List.mem_map.1 hx; rfl
@[go_sem] theorem lI64_cells' (l : List Int) : (∀ x ∈ lI64 l,x.cells.length = 1) = True:=eq_true (lI64_cells l)
@[go_sem] theorem lI64_takeF (l : List Int) (k : Nat) : (lI64 l).take k = lI64 (l.take k):=by simp [lI64]
@[go_sem] theorem lI64_snoc (a : List Int) (x : Int) : lI64 a ++ [.int .i64 x] = lI64 (a ++ [x]):=by simp [lI64]
@[go_sem] theorem lI64_pure (l : List Int) : pureL (lI64 l) = true:=by
 induction l with
 | nil => rfl
 | cons x xs ih => simpa [lI64,pureL,AV.pure] using ih
@[go_sem] theorem lI64_bnd (k : Nat) (l : List Int) : bndL k (lI64 l) = true:=bndL_map fun x => rfl
theorem lI64_bn {l : List Int} {B : Nat} (h : bulkL (lI64 l) <= B) : l.length <= B:=by
 refine Nat.le_trans ?_ h
 exact bulk_cnt (f:=fun (x : Int) => .int .i64 x) (fun x => by simp [AV.bulk]) l
def lI64_ok (l : List Int) : Prop:=l.length * 8 <= reachBytes /\ ∀ x ∈ l,IntKind.i64.min <= x /\ x <= IntKind.i64.max
theorem lI64_rd50 {a : AV} (h : Rd Tryz.prog 50 a) : ∃ l,a = .sl none (lI64 l) /\ lI64_ok l:=by
 obtain ⟨l,h1,h2,h3⟩:=Rd.list (f:=fun (x : Int) => .int .i64 x) (ok:=fun (x : Int) => IntKind.i64.min <= x /\ x <= IntKind.i64.max) (P:=Tryz.prog) (t:=50) (e:=3) (by kernel_rfl) (fun x hx => Rd.int_of (t:=3) (k:=.i64) (by kernel_rfl) hx) h
 exact ⟨l,h1,by rw [show Tryz.prog.bytesOf 3 = 8 by kernel_rfl] at h2; exact h2,h3⟩
@[ext] structure Variable where
 name : ByteArray
 family : Int
 widths : List Int
 n : Int
 m : Int
 deriving DecidableEq,Inhabited
def Variable.cf (x : Variable) (o0 : Option Nat) : List AV:=[.str x.name,.int .i64 x.family,.sl o0 (lI64 x.widths),.int .i64 x.n,.int .i64 x.m]
abbrev Variable.c (x : Variable) : List AV:=x.cf none
abbrev Variable.co (x : Variable) : List AV:=x.cf (some 1)
theorem Variable.bk1 (x : Variable) : 1 <= bulkL x.c:=by
 have h1 : 1 <= (.str x.name : AV).bulk:=by simp [AV.bulk]
 exact Nat.le_trans h1 (bulk_mem (List.mem_of_getElem? (i:=0) rfl))
@[go_sem] theorem Variable.cf_len (x : Variable) (o0 : Option Nat) : (x.cf o0).length = 5:=rfl
theorem Variable.c_len (x : Variable) : x.c.length = 5:=rfl
@[go_sem] theorem Variable.cf_bor (x : Variable) (o0 : Option Nat) : (x.cf o0).map borrow1 = x.cf none:=rfl
theorem Variable.c_bor (x : Variable) : x.c.map borrow1 = x.c:=rfl
@[go_sem] theorem Variable.cf_own (x : Variable) (o0 : Option Nat) : (x.cf o0).any owned1 = (o0.isSome):=by
 cases o0 <;> rfl
@[go_sem] theorem Variable.cf_take (x : Variable) (o0 : Option Nat) : (x.cf o0).take 5 = x.cf o0:=rfl
@[go_sem] theorem Variable.cf_pure (x : Variable) (o0 : Option Nat) : pureL (x.cf o0) = true:=by
 simp [Variable.cf,pureL,AV.pure,lI64_pure]
theorem Variable.c_pure (x : Variable) : pureL x.c = true:=x.cf_pure none
@[go_sem] theorem Variable.cf_bnd (k : Nat) (x : Variable) (o0 : Option Nat) : bndL k (x.cf o0) = true:=by
 simp [Variable.cf,bndL,AV.bnd,lI64_bnd]
theorem Variable.c_bnd (k : Nat) (x : Variable) : bndL k x.c = true:=Variable.cf_bnd k x none
theorem Variable.bk_name {x : Variable} {B : Nat} (h : bulkL x.c <= B) : x.name.size <= B:=bulk_str (List.mem_of_getElem? (i:=0) rfl) h
@[go_sem] theorem Variable.cf_at0 (x : Variable) (o0 : Option Nat) : (x.cf o0)[0]? = some (.str x.name):=rfl
@[go_sem] theorem Variable.cf_at1 (x : Variable) (o0 : Option Nat) : (x.cf o0)[1]? = some (.int .i64 x.family):=rfl
@[go_sem] theorem Variable.cf_at2 (x : Variable) (o0 : Option Nat) : (x.cf o0)[2]? = some (.sl o0 (lI64 x.widths)):=rfl
@[go_sem] theorem Variable.cf_at3 (x : Variable) (o0 : Option Nat) : (x.cf o0)[3]? = some (.int .i64 x.n):=rfl
@[go_sem] theorem Variable.cf_at4 (x : Variable) (o0 : Option Nat) : (x.cf o0)[4]? = some (.int .i64 x.m):=rfl
def Variable.z : Variable:=⟨.empty,0,[],0,0⟩
@[go_sem] theorem Variable.zero : zeroAV Tryz.prog 233 = some (.agg (Variable.z.cf (some 1))):=by kernel_rfl
def Variable.ok (x : Variable) : Prop:=(x.name.size <= reachBytes) /\ (IntKind.i64.min <= x.family /\ x.family <= IntKind.i64.max) /\ (lI64_ok x.widths) /\ (IntKind.i64.min <= x.n /\ x.n <= IntKind.i64.max) /\ (IntKind.i64.min <= x.m /\ x.m <= IntKind.i64.max)
theorem Variable.rd {a : AV} (h : Rd Tryz.prog 233 a) : ∃ x : Variable,a = .agg x.c /\ x.ok:=by
 obtain ⟨ps,rfl,hp⟩:=Rd.unpack (ts:=[9,3,50,3,3]) (by kernel_rfl) h
 obtain ⟨a0,a1,a2,a3,a4,rfl,g0,g1,g2,g3,g4⟩:=RdAll.split5 hp
 obtain ⟨v0,rfl,k0⟩:=Rd.str_of (t:=9) (by kernel_rfl) g0
 obtain ⟨v1,rfl,k1⟩:=Rd.int_of (t:=3) (k:=.i64) (by kernel_rfl) g1
 obtain ⟨v2,rfl,k2⟩:=lI64_rd50 g2
 obtain ⟨v3,rfl,k3⟩:=Rd.int_of (t:=3) (k:=.i64) (by kernel_rfl) g3
 obtain ⟨v4,rfl,k4⟩:=Rd.int_of (t:=3) (k:=.i64) (by kernel_rfl) g4
 exact ⟨⟨v0,v1,v2,v3,v4⟩,rfl,⟨k0,k1,k2,k3,k4⟩⟩
@[ext] structure Sizes where
 nodes : Int
 depth : Int
 deriving DecidableEq,Inhabited
def Sizes.c (x : Sizes) : List AV:=[.int .i64 x.nodes,.int .i64 x.depth]
theorem Sizes.bk1 (x : Sizes) : 1 <= bulkL x.c:=by
 have h1 : 1 <= (.int .i64 x.nodes : AV).bulk:=by simp [AV.bulk]
 exact Nat.le_trans h1 (bulk_mem (List.mem_of_getElem? (i:=0) rfl))
@[go_sem] theorem Sizes.cf_len (x : Sizes) : x.c.length = 2:=rfl
theorem Sizes.c_len (x : Sizes) : x.c.length = 2:=rfl
@[go_sem] theorem Sizes.cf_bor (x : Sizes) : x.c.map borrow1 = x.c:=rfl
theorem Sizes.c_bor (x : Sizes) : x.c.map borrow1 = x.c:=rfl
@[go_sem] theorem Sizes.cf_own (x : Sizes) : x.c.any owned1 = false:=by
 rfl
@[go_sem] theorem Sizes.cf_take (x : Sizes) : x.c.take 2 = x.c:=rfl
@[go_sem] theorem Sizes.cf_pure (x : Sizes) : pureL x.c = true:=by
 simp [Sizes.c,pureL,AV.pure]
theorem Sizes.c_pure (x : Sizes) : pureL x.c = true:=x.cf_pure
@[go_sem] theorem Sizes.cf_bnd (k : Nat) (x : Sizes) : bndL k x.c = true:=by
 simp [Sizes.c,bndL,AV.bnd]
theorem Sizes.c_bnd (k : Nat) (x : Sizes) : bndL k x.c = true:=Sizes.cf_bnd k x
@[go_sem] theorem Sizes.cf_at0 (x : Sizes) : x.c[0]? = some (.int .i64 x.nodes):=rfl
@[go_sem] theorem Sizes.cf_at1 (x : Sizes) : x.c[1]? = some (.int .i64 x.depth):=rfl
@[go_sem] theorem Sizes.cf_putN_nodes (x : Sizes) (v : Int) : spliceN x.c [.int .i64 v] = ({ x with nodes:=v } : Sizes).c:=rfl
@[go_sem] theorem Sizes.cf_put_depth (x : Sizes) (v : Int) : splice x.c 1 [.int .i64 v] = ({ x with depth:=v } : Sizes).c:=rfl
def Sizes.z : Sizes:=⟨0,0⟩
@[go_sem] theorem Sizes.zero : zeroAV Tryz.prog 219 = some (.agg Sizes.z.c):=by kernel_rfl
def Sizes.ok (x : Sizes) : Prop:=(IntKind.i64.min <= x.nodes /\ x.nodes <= IntKind.i64.max) /\ (IntKind.i64.min <= x.depth /\ x.depth <= IntKind.i64.max)
theorem Sizes.rd {a : AV} (h : Rd Tryz.prog 219 a) : ∃ x : Sizes,a = .agg x.c /\ x.ok:=by
 obtain ⟨ps,rfl,hp⟩:=Rd.unpack (ts:=[3,3]) (by kernel_rfl) h
 obtain ⟨a0,a1,rfl,g0,g1⟩:=RdAll.split2 hp
 obtain ⟨v0,rfl,k0⟩:=Rd.int_of (t:=3) (k:=.i64) (by kernel_rfl) g0
 obtain ⟨v1,rfl,k1⟩:=Rd.int_of (t:=3) (k:=.i64) (by kernel_rfl) g1
 exact ⟨⟨v0,v1⟩,rfl,⟨k0,k1⟩⟩
@[ext] structure Entry where
 var : ByteArray
 key : List Int
 n : Int
 at_ : Int
 deriving DecidableEq,Inhabited
def Entry.cf (x : Entry) (o0 : Option Nat) : List AV:=[.str x.var,.sl o0 (lI64 x.key),.int .i64 x.n,.int .i64 x.at_]
abbrev Entry.c (x : Entry) : List AV:=x.cf none
abbrev Entry.co (x : Entry) : List AV:=x.cf (some 1)
theorem Entry.bk1 (x : Entry) : 1 <= bulkL x.c:=by
 have h1 : 1 <= (.str x.var : AV).bulk:=by simp [AV.bulk]
 exact Nat.le_trans h1 (bulk_mem (List.mem_of_getElem? (i:=0) rfl))
@[go_sem] theorem Entry.cf_len (x : Entry) (o0 : Option Nat) : (x.cf o0).length = 4:=rfl
theorem Entry.c_len (x : Entry) : x.c.length = 4:=rfl
@[go_sem] theorem Entry.cf_bor (x : Entry) (o0 : Option Nat) : (x.cf o0).map borrow1 = x.cf none:=rfl
theorem Entry.c_bor (x : Entry) : x.c.map borrow1 = x.c:=rfl
@[go_sem] theorem Entry.cf_own (x : Entry) (o0 : Option Nat) : (x.cf o0).any owned1 = (o0.isSome):=by
 cases o0 <;> rfl
@[go_sem] theorem Entry.cf_take (x : Entry) (o0 : Option Nat) : (x.cf o0).take 4 = x.cf o0:=rfl
@[go_sem] theorem Entry.cf_pure (x : Entry) (o0 : Option Nat) : pureL (x.cf o0) = true:=by
 simp [Entry.cf,pureL,AV.pure,lI64_pure]
theorem Entry.c_pure (x : Entry) : pureL x.c = true:=x.cf_pure none
@[go_sem] theorem Entry.cf_bnd (k : Nat) (x : Entry) (o0 : Option Nat) : bndL k (x.cf o0) = true:=by
 simp [Entry.cf,bndL,AV.bnd,lI64_bnd]
theorem Entry.c_bnd (k : Nat) (x : Entry) : bndL k x.c = true:=Entry.cf_bnd k x none
theorem Entry.fit_key {x : Entry} (h : fitL x.c) : x.key.length <= 9223372036854775807:=by
 have h1 : (AV.sl none (lI64 x.key)).fit:=fitL_iff.1 h _ (List.mem_of_getElem? (i:=1) rfl)
 have h2:=h1.1
 rwa [lI64_len] at h2
theorem Entry.bk_var {x : Entry} {B : Nat} (h : bulkL x.c <= B) : x.var.size <= B:=bulk_str (List.mem_of_getElem? (i:=0) rfl) h
theorem Entry.bl_key {x : Entry} {B : Nat} (h : bulkL x.c <= B) : bulkL (lI64 x.key) <= B:=bulk_sl (o:=none) (List.mem_of_getElem? (i:=1) rfl) h
@[go_sem] theorem Entry.cf_at0 (x : Entry) (o0 : Option Nat) : (x.cf o0)[0]? = some (.str x.var):=rfl
@[go_sem] theorem Entry.cf_at1 (x : Entry) (o0 : Option Nat) : (x.cf o0)[1]? = some (.sl o0 (lI64 x.key)):=rfl
@[go_sem] theorem Entry.cf_at2 (x : Entry) (o0 : Option Nat) : (x.cf o0)[2]? = some (.int .i64 x.n):=rfl
@[go_sem] theorem Entry.cf_at3 (x : Entry) (o0 : Option Nat) : (x.cf o0)[3]? = some (.int .i64 x.at_):=rfl
@[go_sem] theorem Entry.cf_putN_var (x : Entry) (v : ByteArray) (o0 : Option Nat) : spliceN (x.cf o0) [.str v] = ({ x with var:=v } : Entry).cf o0:=rfl
@[go_sem] theorem Entry.cf_put_key (x : Entry) (v : List Int) (o0 : Option Nat) (p : Option Nat) : splice (x.cf o0) 1 [.sl p (lI64 v)] = ({ x with key:=v } : Entry).cf p:=rfl
def Entry.z : Entry:=⟨.empty,[],0,0⟩
@[go_sem] theorem Entry.zero : zeroAV Tryz.prog 107 = some (.agg (Entry.z.cf (some 1))):=by kernel_rfl
def Entry.ok (x : Entry) : Prop:=(x.var.size <= reachBytes) /\ (lI64_ok x.key) /\ (IntKind.i64.min <= x.n /\ x.n <= IntKind.i64.max) /\ (IntKind.i64.min <= x.at_ /\ x.at_ <= IntKind.i64.max)
theorem Entry.rd {a : AV} (h : Rd Tryz.prog 107 a) : ∃ x : Entry,a = .agg x.c /\ x.ok:=by
 obtain ⟨ps,rfl,hp⟩:=Rd.unpack (ts:=[9,50,3,3]) (by kernel_rfl) h
 obtain ⟨a0,a1,a2,a3,rfl,g0,g1,g2,g3⟩:=RdAll.split4 hp
 obtain ⟨v0,rfl,k0⟩:=Rd.str_of (t:=9) (by kernel_rfl) g0
 obtain ⟨v1,rfl,k1⟩:=lI64_rd50 g1
 obtain ⟨v2,rfl,k2⟩:=Rd.int_of (t:=3) (k:=.i64) (by kernel_rfl) g2
 obtain ⟨v3,rfl,k3⟩:=Rd.int_of (t:=3) (k:=.i64) (by kernel_rfl) g3
 exact ⟨⟨v0,v1,v2,v3⟩,rfl,⟨k0,k1,k2,k3⟩⟩
@[ext] structure Delivery where
 tenant : Int
 head : Head
 chain : List Int
 deriving DecidableEq,Inhabited
def Delivery.cf (x : Delivery) (o0 : Option Nat) : List AV:=[.int .i64 x.tenant,.int .i64 x.head.h0,.int .i64 x.head.h1,.int .i64 x.head.h2,.int .i64 x.head.h3,.int .i64 x.head.h4,.int .i64 x.head.h5,.int .i64 x.head.h6,.int .i64 x.head.h7,.int .i64 x.head.h8,.int .i64 x.head.h9,.sl o0 (lI64 x.chain)]
abbrev Delivery.c (x : Delivery) : List AV:=x.cf none
abbrev Delivery.co (x : Delivery) : List AV:=x.cf (some 1)
theorem Delivery.bk1 (x : Delivery) : 1 <= bulkL x.c:=by
 have h1 : 1 <= (.int .i64 x.tenant : AV).bulk:=by simp [AV.bulk]
 exact Nat.le_trans h1 (bulk_mem (List.mem_of_getElem? (i:=0) rfl))
@[go_sem] theorem Delivery.cf_len (x : Delivery) (o0 : Option Nat) : (x.cf o0).length = 12:=rfl
theorem Delivery.c_len (x : Delivery) : x.c.length = 12:=rfl
@[go_sem] theorem Delivery.cf_bor (x : Delivery) (o0 : Option Nat) : (x.cf o0).map borrow1 = x.cf none:=rfl
theorem Delivery.c_bor (x : Delivery) : x.c.map borrow1 = x.c:=rfl
@[go_sem] theorem Delivery.cf_own (x : Delivery) (o0 : Option Nat) : (x.cf o0).any owned1 = (o0.isSome):=by
 cases o0 <;> rfl
@[go_sem] theorem Delivery.cf_take (x : Delivery) (o0 : Option Nat) : (x.cf o0).take 12 = x.cf o0:=rfl
@[go_sem] theorem Delivery.cf_pure (x : Delivery) (o0 : Option Nat) : pureL (x.cf o0) = true:=by
 simp [Delivery.cf,pureL,AV.pure,lI64_pure]
theorem Delivery.c_pure (x : Delivery) : pureL x.c = true:=x.cf_pure none
@[go_sem] theorem Delivery.cf_bnd (k : Nat) (x : Delivery) (o0 : Option Nat) : bndL k (x.cf o0) = true:=by
 simp [Delivery.cf,bndL,AV.bnd,lI64_bnd]
theorem Delivery.c_bnd (k : Nat) (x : Delivery) : bndL k x.c = true:=Delivery.cf_bnd k x none
theorem Delivery.fit_chain {x : Delivery} (h : fitL x.c) : x.chain.length <= 9223372036854775807:=by
 have h1 : (AV.sl none (lI64 x.chain)).fit:=fitL_iff.1 h _ (List.mem_of_getElem? (i:=11) rfl)
 have h2:=h1.1
 rwa [lI64_len] at h2
theorem Delivery.bs_head {x : Delivery} {B : Nat} (h : bulkL x.c <= B) : bulkL x.head.c <= B:=by
 have h1:=bulkL_part x.c 1 10
 rw [show (x.c.drop 1).take 10 = x.head.c from rfl] at h1
 omega
theorem Delivery.bl_chain {x : Delivery} {B : Nat} (h : bulkL x.c <= B) : bulkL (lI64 x.chain) <= B:=bulk_sl (o:=none) (List.mem_of_getElem? (i:=11) rfl) h
@[go_sem] theorem Delivery.cf_at0 (x : Delivery) (o0 : Option Nat) : (x.cf o0)[0]? = some (.int .i64 x.tenant):=rfl
@[go_sem] theorem Delivery.cf_at1 (x : Delivery) (o0 : Option Nat) : (x.cf o0)[1]? = some (.int .i64 x.head.h0):=rfl
@[go_sem] theorem Delivery.cf_at11 (x : Delivery) (o0 : Option Nat) : (x.cf o0)[11]? = some (.sl o0 (lI64 x.chain)):=rfl
@[go_sem] theorem Delivery.cf_putN_tenant (x : Delivery) (v : Int) (o0 : Option Nat) : spliceN (x.cf o0) [.int .i64 v] = ({ x with tenant:=v } : Delivery).cf o0:=rfl
@[go_sem] theorem Delivery.cf_put_head (x : Delivery) (v : Head) (o0 : Option Nat) : splice (x.cf o0) 1 v.c = ({ x with head:=v } : Delivery).cf o0:=rfl
@[go_sem] theorem Delivery.cf_put_chain (x : Delivery) (v : List Int) (o0 : Option Nat) (p : Option Nat) : splice (x.cf o0) 11 [.sl p (lI64 v)] = ({ x with chain:=v } : Delivery).cf p:=rfl
def Delivery.z : Delivery:=⟨0,⟨0,0,0,0,0,0,0,0,0,0⟩,[]⟩
@[go_sem] theorem Delivery.zero : zeroAV Tryz.prog 52 = some (.agg (Delivery.z.cf (some 1))):=by kernel_rfl
def Delivery.ok (x : Delivery) : Prop:=(IntKind.i64.min <= x.tenant /\ x.tenant <= IntKind.i64.max) /\ (x.head.ok) /\ (lI64_ok x.chain)
theorem Delivery.rd {a : AV} (h : Rd Tryz.prog 52 a) : ∃ x : Delivery,a = .agg x.c /\ x.ok:=by
 obtain ⟨ps,rfl,hp⟩:=Rd.unpack (ts:=[3,34,50]) (by kernel_rfl) h
 obtain ⟨a0,a1,a2,rfl,g0,g1,g2⟩:=RdAll.split3 hp
 obtain ⟨v0,rfl,k0⟩:=Rd.int_of (t:=3) (k:=.i64) (by kernel_rfl) g0
 obtain ⟨v1,rfl,k1⟩:=Head.rd g1
 obtain ⟨v2,rfl,k2⟩:=lI64_rd50 g2
 exact ⟨⟨v0,v1,v2⟩,rfl,⟨k0,k1,k2⟩⟩
@[ext] structure Arrival where
 head : Head
 tick : Int
 deriving DecidableEq,Inhabited
def Arrival.c (x : Arrival) : List AV:=[.int .i64 x.head.h0,.int .i64 x.head.h1,.int .i64 x.head.h2,.int .i64 x.head.h3,.int .i64 x.head.h4,.int .i64 x.head.h5,.int .i64 x.head.h6,.int .i64 x.head.h7,.int .i64 x.head.h8,.int .i64 x.head.h9,.int .i64 x.tick]
theorem Arrival.bk1 (x : Arrival) : 1 <= bulkL x.c:=by
 have h1 : 1 <= (.int .i64 x.head.h0 : AV).bulk:=by simp [AV.bulk]
 exact Nat.le_trans h1 (bulk_mem (List.mem_of_getElem? (i:=0) rfl))
@[go_sem] theorem Arrival.cf_len (x : Arrival) : x.c.length = 11:=rfl
theorem Arrival.c_len (x : Arrival) : x.c.length = 11:=rfl
@[go_sem] theorem Arrival.cf_bor (x : Arrival) : x.c.map borrow1 = x.c:=rfl
theorem Arrival.c_bor (x : Arrival) : x.c.map borrow1 = x.c:=rfl
@[go_sem] theorem Arrival.cf_own (x : Arrival) : x.c.any owned1 = false:=by
 rfl
@[go_sem] theorem Arrival.cf_take (x : Arrival) : x.c.take 11 = x.c:=rfl
@[go_sem] theorem Arrival.cf_pure (x : Arrival) : pureL x.c = true:=by
 simp [Arrival.c,pureL,AV.pure]
theorem Arrival.c_pure (x : Arrival) : pureL x.c = true:=x.cf_pure
@[go_sem] theorem Arrival.cf_bnd (k : Nat) (x : Arrival) : bndL k x.c = true:=by
 simp [Arrival.c,bndL,AV.bnd]
theorem Arrival.c_bnd (k : Nat) (x : Arrival) : bndL k x.c = true:=Arrival.cf_bnd k x
theorem Arrival.bs_head {x : Arrival} {B : Nat} (h : bulkL x.c <= B) : bulkL x.head.c <= B:=by
 have h1:=bulkL_part x.c 0 10
 rw [show (x.c.drop 0).take 10 = x.head.c from rfl] at h1
 omega
@[go_sem] theorem Arrival.cf_at9 (x : Arrival) : x.c[9]? = some (.int .i64 x.head.h9):=rfl
@[go_sem] theorem Arrival.cf_at10 (x : Arrival) : x.c[10]? = some (.int .i64 x.tick):=rfl
@[go_sem] theorem Arrival.cf_part_head (x : Arrival) : x.c.take 10 = x.head.c:=rfl
def Arrival.z : Arrival:=⟨⟨0,0,0,0,0,0,0,0,0,0⟩,0⟩
@[go_sem] theorem Arrival.zero : zeroAV Tryz.prog 36 = some (.agg Arrival.z.c):=by kernel_rfl
def Arrival.ok (x : Arrival) : Prop:=(x.head.ok) /\ (IntKind.i64.min <= x.tick /\ x.tick <= IntKind.i64.max)
theorem Arrival.rd {a : AV} (h : Rd Tryz.prog 36 a) : ∃ x : Arrival,a = .agg x.c /\ x.ok:=by
 obtain ⟨ps,rfl,hp⟩:=Rd.unpack (ts:=[34,3]) (by kernel_rfl) h
 obtain ⟨a0,a1,rfl,g0,g1⟩:=RdAll.split2 hp
 obtain ⟨v0,rfl,k0⟩:=Head.rd g0
 obtain ⟨v1,rfl,k1⟩:=Rd.int_of (t:=3) (k:=.i64) (by kernel_rfl) g1
 exact ⟨⟨v0,v1⟩,rfl,⟨k0,k1⟩⟩
def lEntry (l : List Entry) : List AV:=l.map fun x => .agg x.c
@[go_sem] theorem lEntry_len (l : List Entry) : (lEntry l).length = l.length:=by simp [lEntry]
theorem lEntry_get {l : List Entry} {i : Nat} {x : Entry} (h : l[i]? = some x) : (lEntry l)[i]? = some (.agg x.c):=by simp [lEntry,h]
theorem lEntry_mem {l : List Entry} {x : Entry} (h : x ∈ l) : .agg x.c ∈ lEntry l:=by rw [lEntry]; exact List.mem_map.2 ⟨x,h,rfl⟩
theorem lEntry_cells (l : List Entry) : ∀ x ∈ lEntry l,x.cells.length = 4:=by
 intro x hx; obtain ⟨y,_,rfl⟩:=List.mem_map.1 hx; rfl
@[go_sem] theorem lEntry_cells' (l : List Entry) : (∀ x ∈ lEntry l,x.cells.length = 4) = True:=eq_true (lEntry_cells l)
@[go_sem] theorem lEntry_nil : lEntry [] = []:=rfl
@[go_sem] theorem lEntry_takeF (l : List Entry) (k : Nat) : (lEntry l).take k = lEntry (l.take k):=by simp [lEntry]
@[go_sem] theorem lEntry_pure (l : List Entry) : pureL (lEntry l) = true:=by
 induction l with
 | nil => rfl
 | cons x xs ih => simpa [lEntry,pureL,AV.pure] using ⟨Entry.c_pure x,ih⟩
@[go_sem] theorem lEntry_bnd (k : Nat) (l : List Entry) : bndL k (lEntry l) = true:=bndL_map fun x => Entry.c_bnd k x
theorem lEntry_bk {l : List Entry} {B : Nat} (h : bulkL (lEntry l) <= B) {x : Entry} (hx : x ∈ l) : (.agg x.c : AV).bulk <= B:=Nat.le_trans (bulk_mem (lEntry_mem hx)) h
theorem lEntry_bn {l : List Entry} {B : Nat} (h : bulkL (lEntry l) <= B) : l.length <= B:=by
 refine Nat.le_trans ?_ h
 exact bulk_cnt (f:=fun (x : Entry) => .agg x.c) (fun x => by exact Entry.bk1 x) l
def lEntry_ok (l : List Entry) : Prop:=l.length * 56 <= reachBytes /\ ∀ x ∈ l,x.ok
theorem lEntry_rd49 {a : AV} (h : Rd Tryz.prog 49 a) : ∃ l,a = .sl none (lEntry l) /\ lEntry_ok l:=by
 obtain ⟨l,h1,h2,h3⟩:=Rd.list (f:=fun (x : Entry) => .agg x.c) (ok:=fun (x : Entry) => x.ok) (P:=Tryz.prog) (t:=49) (e:=107) (by kernel_rfl) (fun x hx => Entry.rd hx) h
 exact ⟨l,h1,by rw [show Tryz.prog.bytesOf 107 = 56 by kernel_rfl] at h2; exact h2,h3⟩
@[ext] structure Doing where
 fields : List Fld
 step : Stp
 st : List Entry
 head : Head
 tick : Int
 entry : Entry
 is : Bool
 deriving DecidableEq,Inhabited
def Doing.cf (x : Doing) (o0 o1 o2 o3 : Option Nat) : List AV:=[.sl o0 (lFld x.fields),.int .i64 x.step.kind,.str x.step.var,.sl o1 (lStr x.step.key),.str x.step.field,.int .i64 x.step.n,.int .i64 x.step.m,.sl o2 (lEntry x.st),.int .i64 x.head.h0,.int .i64 x.head.h1,.int .i64 x.head.h2,.int .i64 x.head.h3,.int .i64 x.head.h4,.int .i64 x.head.h5,.int .i64 x.head.h6,.int .i64 x.head.h7,.int .i64 x.head.h8,.int .i64 x.head.h9,.int .i64 x.tick,.str x.entry.var,.sl o3 (lI64 x.entry.key),.int .i64 x.entry.n,.int .i64 x.entry.at_,.bool x.is]
abbrev Doing.c (x : Doing) : List AV:=x.cf none none none none
abbrev Doing.co (x : Doing) : List AV:=x.cf (some 3) (some 1) (some 4) (some 1)
theorem Doing.bk1 (x : Doing) : 1 <= bulkL x.c:=by
 have h1 : 1 <= (.sl none (lFld x.fields) : AV).bulk:=by simp [AV.bulk]
 exact Nat.le_trans h1 (bulk_mem (List.mem_of_getElem? (i:=0) rfl))
@[go_sem] theorem Doing.cf_len (x : Doing) (o0 o1 o2 o3 : Option Nat) : (x.cf o0 o1 o2 o3).length = 24:=rfl
theorem Doing.c_len (x : Doing) : x.c.length = 24:=rfl
@[go_sem] theorem Doing.cf_bor (x : Doing) (o0 o1 o2 o3 : Option Nat) : (x.cf o0 o1 o2 o3).map borrow1 = x.cf none none none none:=rfl
theorem Doing.c_bor (x : Doing) : x.c.map borrow1 = x.c:=rfl
@[go_sem] theorem Doing.cf_own (x : Doing) (o0 o1 o2 o3 : Option Nat) : (x.cf o0 o1 o2 o3).any owned1 = (o0.isSome || o1.isSome || o2.isSome || o3.isSome):=by
 cases o0 <;> cases o1 <;> cases o2 <;> cases o3 <;> rfl
@[go_sem] theorem Doing.cf_pure (x : Doing) (o0 o1 o2 o3 : Option Nat) : pureL (x.cf o0 o1 o2 o3) = true:=by
 simp [Doing.cf,pureL,AV.pure,lEntry_pure,lFld_pure,lI64_pure,lStr_pure]
theorem Doing.c_pure (x : Doing) : pureL x.c = true:=x.cf_pure none none none none
@[go_sem] theorem Doing.cf_bnd (k : Nat) (x : Doing) (o0 o1 o2 o3 : Option Nat) : bndL k (x.cf o0 o1 o2 o3) = true:=by
 simp [Doing.cf,bndL,AV.bnd,lEntry_bnd,lFld_bnd,lI64_bnd,lStr_bnd]
theorem Doing.c_bnd (k : Nat) (x : Doing) : bndL k x.c = true:=Doing.cf_bnd k x none none none none
theorem Doing.fit_fields {x : Doing} (h : fitL x.c) : x.fields.length <= 9223372036854775807:=by
 have h1 : (AV.sl none (lFld x.fields)).fit:=fitL_iff.1 h _ (List.mem_of_getElem? (i:=0) rfl)
 have h2:=h1.1
 rwa [lFld_len] at h2
theorem Doing.in_fields {x : Doing} (h : fitL x.c) {y : Fld} (hy : y ∈ x.fields) : fitL y.c:=by
 have h1 : (AV.sl none (lFld x.fields)).fit:=fitL_iff.1 h _ (List.mem_of_getElem? (i:=0) rfl)
 exact fitL_iff.1 h1.2 _ (lFld_mem hy)
theorem Doing.fit_step_key {x : Doing} (h : fitL x.c) : x.step.key.length <= 9223372036854775807:=by
 have h1 : (AV.sl none (lStr x.step.key)).fit:=fitL_iff.1 h _ (List.mem_of_getElem? (i:=3) rfl)
 have h2:=h1.1
 rwa [lStr_len] at h2
theorem Doing.bl_fields {x : Doing} {B : Nat} (h : bulkL x.c <= B) : bulkL (lFld x.fields) <= B:=bulk_sl (o:=none) (List.mem_of_getElem? (i:=0) rfl) h
theorem Doing.bs_step {x : Doing} {B : Nat} (h : bulkL x.c <= B) : bulkL x.step.c <= B:=by
 have h1:=bulkL_part x.c 1 6
 rw [show (x.c.drop 1).take 6 = x.step.c from rfl] at h1
 omega
theorem Doing.bk_step_var {x : Doing} {B : Nat} (h : bulkL x.c <= B) : x.step.var.size <= B:=bulk_str (List.mem_of_getElem? (i:=2) rfl) h
theorem Doing.bl_step_key {x : Doing} {B : Nat} (h : bulkL x.c <= B) : bulkL (lStr x.step.key) <= B:=bulk_sl (o:=none) (List.mem_of_getElem? (i:=3) rfl) h
theorem Doing.bk_step_field {x : Doing} {B : Nat} (h : bulkL x.c <= B) : x.step.field.size <= B:=bulk_str (List.mem_of_getElem? (i:=4) rfl) h
theorem Doing.bs_head {x : Doing} {B : Nat} (h : bulkL x.c <= B) : bulkL x.head.c <= B:=by
 have h1:=bulkL_part x.c 8 10
 rw [show (x.c.drop 8).take 10 = x.head.c from rfl] at h1
 omega
@[go_sem] theorem Doing.cf_at0 (x : Doing) (o0 o1 o2 o3 : Option Nat) : (x.cf o0 o1 o2 o3)[0]? = some (.sl o0 (lFld x.fields)):=rfl
@[go_sem] theorem Doing.cf_at2 (x : Doing) (o0 o1 o2 o3 : Option Nat) : (x.cf o0 o1 o2 o3)[2]? = some (.str x.step.var):=rfl
@[go_sem] theorem Doing.cf_at3 (x : Doing) (o0 o1 o2 o3 : Option Nat) : (x.cf o0 o1 o2 o3)[3]? = some (.sl o1 (lStr x.step.key)):=rfl
@[go_sem] theorem Doing.cf_at4 (x : Doing) (o0 o1 o2 o3 : Option Nat) : (x.cf o0 o1 o2 o3)[4]? = some (.str x.step.field):=rfl
@[go_sem] theorem Doing.cf_at5 (x : Doing) (o0 o1 o2 o3 : Option Nat) : (x.cf o0 o1 o2 o3)[5]? = some (.int .i64 x.step.n):=rfl
@[go_sem] theorem Doing.cf_at6 (x : Doing) (o0 o1 o2 o3 : Option Nat) : (x.cf o0 o1 o2 o3)[6]? = some (.int .i64 x.step.m):=rfl
@[go_sem] theorem Doing.cf_at7 (x : Doing) (o0 o1 o2 o3 : Option Nat) : (x.cf o0 o1 o2 o3)[7]? = some (.sl o2 (lEntry x.st)):=rfl
@[go_sem] theorem Doing.cf_at18 (x : Doing) (o0 o1 o2 o3 : Option Nat) : (x.cf o0 o1 o2 o3)[18]? = some (.int .i64 x.tick):=rfl
@[go_sem] theorem Doing.cf_at21 (x : Doing) (o0 o1 o2 o3 : Option Nat) : (x.cf o0 o1 o2 o3)[21]? = some (.int .i64 x.entry.n):=rfl
@[go_sem] theorem Doing.cf_at22 (x : Doing) (o0 o1 o2 o3 : Option Nat) : (x.cf o0 o1 o2 o3)[22]? = some (.int .i64 x.entry.at_):=rfl
@[go_sem] theorem Doing.cf_at23 (x : Doing) (o0 o1 o2 o3 : Option Nat) : (x.cf o0 o1 o2 o3)[23]? = some (.bool x.is):=rfl
@[go_sem] theorem Doing.cf_putN_fields (x : Doing) (v : List Fld) (o0 o1 o2 o3 : Option Nat) (p : Option Nat) : spliceN (x.cf o0 o1 o2 o3) [.sl p (lFld v)] = ({ x with fields:=v } : Doing).cf p o1 o2 o3:=rfl
@[go_sem] theorem Doing.cf_part_step (x : Doing) (o0 o1 o2 o3 : Option Nat) : ((x.cf o0 o1 o2 o3).drop 1).take 6 = x.step.cf o1:=rfl
@[go_sem] theorem Doing.cf_put_step (x : Doing) (v : Stp) (o0 o1 o2 o3 : Option Nat) (p0 : Option Nat) : splice (x.cf o0 o1 o2 o3) 1 (v.cf p0) = ({ x with step:=v } : Doing).cf o0 p0 o2 o3:=rfl
@[go_sem] theorem Doing.cf_put_st (x : Doing) (v : List Entry) (o0 o1 o2 o3 : Option Nat) (p : Option Nat) : splice (x.cf o0 o1 o2 o3) 7 [.sl p (lEntry v)] = ({ x with st:=v } : Doing).cf o0 o1 p o3:=rfl
@[go_sem] theorem Doing.cf_part_head (x : Doing) (o0 o1 o2 o3 : Option Nat) : ((x.cf o0 o1 o2 o3).drop 8).take 10 = x.head.c:=rfl
@[go_sem] theorem Doing.cf_put_head (x : Doing) (v : Head) (o0 o1 o2 o3 : Option Nat) : splice (x.cf o0 o1 o2 o3) 8 v.c = ({ x with head:=v } : Doing).cf o0 o1 o2 o3:=rfl
@[go_sem] theorem Doing.cf_put_tick (x : Doing) (v : Int) (o0 o1 o2 o3 : Option Nat) : splice (x.cf o0 o1 o2 o3) 18 [.int .i64 v] = ({ x with tick:=v } : Doing).cf o0 o1 o2 o3:=rfl
@[go_sem] theorem Doing.cf_part_entry (x : Doing) (o0 o1 o2 o3 : Option Nat) : ((x.cf o0 o1 o2 o3).drop 19).take 4 = x.entry.cf o3:=rfl
@[go_sem] theorem Doing.cf_put_entry (x : Doing) (v : Entry) (o0 o1 o2 o3 : Option Nat) (p0 : Option Nat) : splice (x.cf o0 o1 o2 o3) 19 (v.cf p0) = ({ x with entry:=v } : Doing).cf o0 o1 o2 p0:=rfl
@[go_sem] theorem Doing.cf_put_entry_n (x : Doing) (v : Int) (o0 o1 o2 o3 : Option Nat) : splice (x.cf o0 o1 o2 o3) 21 [.int .i64 v] = ({ x with entry:={ x.entry with n:=v } } : Doing).cf o0 o1 o2 o3:=rfl
@[go_sem] theorem Doing.cf_put_entry_at_ (x : Doing) (v : Int) (o0 o1 o2 o3 : Option Nat) : splice (x.cf o0 o1 o2 o3) 22 [.int .i64 v] = ({ x with entry:={ x.entry with at_:=v } } : Doing).cf o0 o1 o2 o3:=rfl
@[go_sem] theorem Doing.cf_put_is (x : Doing) (v : Bool) (o0 o1 o2 o3 : Option Nat) : splice (x.cf o0 o1 o2 o3) 23 [.bool v] = ({ x with is:=v } : Doing).cf o0 o1 o2 o3:=rfl
def Doing.z : Doing:=⟨[],⟨0,.empty,[],.empty,0,0⟩,[],⟨0,0,0,0,0,0,0,0,0,0⟩,0,⟨.empty,[],0,0⟩,false⟩
@[go_sem] theorem Doing.zero : zeroAV Tryz.prog 205 = some (.agg (Doing.z.cf (some 3) (some 1) (some 4) (some 1))):=by kernel_rfl
def Doing.ok (x : Doing) : Prop:=(lFld_ok x.fields) /\ (x.step.ok) /\ (lEntry_ok x.st) /\ (x.head.ok) /\ (IntKind.i64.min <= x.tick /\ x.tick <= IntKind.i64.max) /\ (x.entry.ok) /\ (True)
theorem Doing.rd {a : AV} (h : Rd Tryz.prog 205 a) : ∃ x : Doing,a = .agg x.c /\ x.ok:=by
 obtain ⟨ps,rfl,hp⟩:=Rd.unpack (ts:=[27,126,49,34,3,107,4]) (by kernel_rfl) h
 obtain ⟨a0,a1,a2,a3,a4,a5,a6,rfl,g0,g1,g2,g3,g4,g5,g6⟩:=RdAll.split7 hp
 obtain ⟨v0,rfl,k0⟩:=lFld_rd27 g0
 obtain ⟨v1,rfl,k1⟩:=Stp.rd g1
 obtain ⟨v2,rfl,k2⟩:=lEntry_rd49 g2
 obtain ⟨v3,rfl,k3⟩:=Head.rd g3
 obtain ⟨v4,rfl,k4⟩:=Rd.int_of (t:=3) (k:=.i64) (by kernel_rfl) g4
 obtain ⟨v5,rfl,k5⟩:=Entry.rd g5
 obtain ⟨v6,rfl,k6⟩:=Rd.bool_of (t:=4) (by kernel_rfl) g6
 exact ⟨⟨v0,v1,v2,v3,v4,v5,v6⟩,rfl,⟨k0,k1,k2,k3,k4,k5,k6⟩⟩
@[ext] structure Item where
 tenant : Int
 head : Head
 chain : List Int
 deriving DecidableEq,Inhabited
def Item.cf (x : Item) (o0 : Option Nat) : List AV:=[.int .i64 x.tenant,.int .i64 x.head.h0,.int .i64 x.head.h1,.int .i64 x.head.h2,.int .i64 x.head.h3,.int .i64 x.head.h4,.int .i64 x.head.h5,.int .i64 x.head.h6,.int .i64 x.head.h7,.int .i64 x.head.h8,.int .i64 x.head.h9,.sl o0 (lI64 x.chain)]
abbrev Item.c (x : Item) : List AV:=x.cf none
abbrev Item.co (x : Item) : List AV:=x.cf (some 1)
theorem Item.bk1 (x : Item) : 1 <= bulkL x.c:=by
 have h1 : 1 <= (.int .i64 x.tenant : AV).bulk:=by simp [AV.bulk]
 exact Nat.le_trans h1 (bulk_mem (List.mem_of_getElem? (i:=0) rfl))
@[go_sem] theorem Item.cf_len (x : Item) (o0 : Option Nat) : (x.cf o0).length = 12:=rfl
theorem Item.c_len (x : Item) : x.c.length = 12:=rfl
@[go_sem] theorem Item.cf_bor (x : Item) (o0 : Option Nat) : (x.cf o0).map borrow1 = x.cf none:=rfl
theorem Item.c_bor (x : Item) : x.c.map borrow1 = x.c:=rfl
@[go_sem] theorem Item.cf_own (x : Item) (o0 : Option Nat) : (x.cf o0).any owned1 = (o0.isSome):=by
 cases o0 <;> rfl
@[go_sem] theorem Item.cf_take (x : Item) (o0 : Option Nat) : (x.cf o0).take 12 = x.cf o0:=rfl
@[go_sem] theorem Item.cf_pure (x : Item) (o0 : Option Nat) : pureL (x.cf o0) = true:=by
 simp [Item.cf,pureL,AV.pure,lI64_pure]
theorem Item.c_pure (x : Item) : pureL x.c = true:=x.cf_pure none
@[go_sem] theorem Item.cf_bnd (k : Nat) (x : Item) (o0 : Option Nat) : bndL k (x.cf o0) = true:=by
 simp [Item.cf,bndL,AV.bnd,lI64_bnd]
theorem Item.c_bnd (k : Nat) (x : Item) : bndL k x.c = true:=Item.cf_bnd k x none
theorem Item.fit_chain {x : Item} (h : fitL x.c) : x.chain.length <= 9223372036854775807:=by
 have h1 : (AV.sl none (lI64 x.chain)).fit:=fitL_iff.1 h _ (List.mem_of_getElem? (i:=11) rfl)
 have h2:=h1.1
 rwa [lI64_len] at h2
theorem Item.bs_head {x : Item} {B : Nat} (h : bulkL x.c <= B) : bulkL x.head.c <= B:=by
 have h1:=bulkL_part x.c 1 10
 rw [show (x.c.drop 1).take 10 = x.head.c from rfl] at h1
 omega
theorem Item.bl_chain {x : Item} {B : Nat} (h : bulkL x.c <= B) : bulkL (lI64 x.chain) <= B:=bulk_sl (o:=none) (List.mem_of_getElem? (i:=11) rfl) h
@[go_sem] theorem Item.cf_at0 (x : Item) (o0 : Option Nat) : (x.cf o0)[0]? = some (.int .i64 x.tenant):=rfl
@[go_sem] theorem Item.cf_putN_tenant (x : Item) (v : Int) (o0 : Option Nat) : spliceN (x.cf o0) [.int .i64 v] = ({ x with tenant:=v } : Item).cf o0:=rfl
@[go_sem] theorem Item.cf_part_head (x : Item) (o0 : Option Nat) : ((x.cf o0).drop 1).take 10 = x.head.c:=rfl
@[go_sem] theorem Item.cf_put_head (x : Item) (v : Head) (o0 : Option Nat) : splice (x.cf o0) 1 v.c = ({ x with head:=v } : Item).cf o0:=rfl
@[go_sem] theorem Item.cf_put_chain (x : Item) (v : List Int) (o0 : Option Nat) (p : Option Nat) : splice (x.cf o0) 11 [.sl p (lI64 v)] = ({ x with chain:=v } : Item).cf p:=rfl
def Item.z : Item:=⟨0,⟨0,0,0,0,0,0,0,0,0,0⟩,[]⟩
@[go_sem] theorem Item.zero : zeroAV Tryz.prog 80 = some (.agg (Item.z.cf (some 1))):=by kernel_rfl
def Item.ok (x : Item) : Prop:=(IntKind.i64.min <= x.tenant /\ x.tenant <= IntKind.i64.max) /\ (x.head.ok) /\ (lI64_ok x.chain)
theorem Item.rd {a : AV} (h : Rd Tryz.prog 80 a) : ∃ x : Item,a = .agg x.c /\ x.ok:=by
 obtain ⟨ps,rfl,hp⟩:=Rd.unpack (ts:=[3,34,50]) (by kernel_rfl) h
 obtain ⟨a0,a1,a2,rfl,g0,g1,g2⟩:=RdAll.split3 hp
 obtain ⟨v0,rfl,k0⟩:=Rd.int_of (t:=3) (k:=.i64) (by kernel_rfl) g0
 obtain ⟨v1,rfl,k1⟩:=Head.rd g1
 obtain ⟨v2,rfl,k2⟩:=lI64_rd50 g2
 exact ⟨⟨v0,v1,v2⟩,rfl,⟨k0,k1,k2⟩⟩
end Go.AI
