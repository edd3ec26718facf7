/- Data of the laws as the model holds them: cells in order; and how data are read as them. Printed by gendata.py. -/
import Derived.Test.YtnfnohbfgiijdaaHn
set_option linter.unusedSimpArgs false
set_option linter.unusedVariables false
namespace Go.AI
open Go.Proofs

theorem RdAll.split1 {P : Program} {t0 : TypeId} {ps : List AV} (h : RdAll P [t0] ps) : ∃ a0, ps = [a0] ∧ Rd P t0 a0 := by
  match ps, h with
  | [a0], h => exact ⟨a0, rfl, h.1⟩

theorem RdAll.split2 {P : Program} {t0 t1 : TypeId} {ps : List AV} (h : RdAll P [t0, t1] ps) : ∃ a0 a1, ps = [a0, a1] ∧ Rd P t0 a0 ∧ Rd P t1 a1 := by
  match ps, h with
  | [a0, a1], h => exact ⟨a0, a1, rfl, h.1, h.2.1⟩

theorem RdAll.split3 {P : Program} {t0 t1 t2 : TypeId} {ps : List AV} (h : RdAll P [t0, t1, t2] ps) : ∃ a0 a1 a2, ps = [a0, a1, a2] ∧ Rd P t0 a0 ∧ Rd P t1 a1 ∧ Rd P t2 a2 := by
  match ps, h with
  | [a0, a1, a2], h => exact ⟨a0, a1, a2, rfl, h.1, h.2.1, h.2.2.1⟩

theorem RdAll.split4 {P : Program} {t0 t1 t2 t3 : TypeId} {ps : List AV} (h : RdAll P [t0, t1, t2, t3] ps) : ∃ a0 a1 a2 a3, ps = [a0, a1, a2, a3] ∧ Rd P t0 a0 ∧ Rd P t1 a1 ∧ Rd P t2 a2 ∧ Rd P t3 a3 := by
  match ps, h with
  | [a0, a1, a2, a3], h => exact ⟨a0, a1, a2, a3, rfl, h.1, h.2.1, h.2.2.1, h.2.2.2.1⟩

theorem RdAll.split5 {P : Program} {t0 t1 t2 t3 t4 : TypeId} {ps : List AV} (h : RdAll P [t0, t1, t2, t3, t4] ps) : ∃ a0 a1 a2 a3 a4, ps = [a0, a1, a2, a3, a4] ∧ Rd P t0 a0 ∧ Rd P t1 a1 ∧ Rd P t2 a2 ∧ Rd P t3 a3 ∧ Rd P t4 a4 := by
  match ps, h with
  | [a0, a1, a2, a3, a4], h => exact ⟨a0, a1, a2, a3, a4, rfl, h.1, h.2.1, h.2.2.1, h.2.2.2.1, h.2.2.2.2.1⟩

theorem RdAll.split6 {P : Program} {t0 t1 t2 t3 t4 t5 : TypeId} {ps : List AV} (h : RdAll P [t0, t1, t2, t3, t4, t5] ps) : ∃ a0 a1 a2 a3 a4 a5, ps = [a0, a1, a2, a3, a4, a5] ∧ Rd P t0 a0 ∧ Rd P t1 a1 ∧ Rd P t2 a2 ∧ Rd P t3 a3 ∧ Rd P t4 a4 ∧ Rd P t5 a5 := by
  match ps, h with
  | [a0, a1, a2, a3, a4, a5], h => exact ⟨a0, a1, a2, a3, a4, a5, rfl, h.1, h.2.1, h.2.2.1, h.2.2.2.1, h.2.2.2.2.1, h.2.2.2.2.2.1⟩

theorem RdAll.split10 {P : Program} {t0 t1 t2 t3 t4 t5 t6 t7 t8 t9 : TypeId} {ps : List AV} (h : RdAll P [t0, t1, t2, t3, t4, t5, t6, t7, t8, t9] ps) : ∃ a0 a1 a2 a3 a4 a5 a6 a7 a8 a9, ps = [a0, a1, a2, a3, a4, a5, a6, a7, a8, a9] ∧ Rd P t0 a0 ∧ Rd P t1 a1 ∧ Rd P t2 a2 ∧ Rd P t3 a3 ∧ Rd P t4 a4 ∧ Rd P t5 a5 ∧ Rd P t6 a6 ∧ Rd P t7 a7 ∧ Rd P t8 a8 ∧ Rd P t9 a9 := by
  match ps, h with
  | [a0, a1, a2, a3, a4, a5, a6, a7, a8, a9], h => exact ⟨a0, a1, a2, a3, a4, a5, a6, a7, a8, a9, rfl, h.1, h.2.1, h.2.2.1, h.2.2.2.1, h.2.2.2.2.1, h.2.2.2.2.2.1, h.2.2.2.2.2.2.1, h.2.2.2.2.2.2.2.1, h.2.2.2.2.2.2.2.2.1, h.2.2.2.2.2.2.2.2.2.1⟩

@[ext] structure Head where
  h0 : Int
  h1 : Int
  h2 : Int
  h3 : Int
  h4 : Int
  h5 : Int
  h6 : Int
  h7 : Int
  h8 : Int
  h9 : Int
  deriving DecidableEq, Inhabited

def Head.c (x : Head) : List AV := [.int .i64 x.h0, .int .i64 x.h1, .int .i64 x.h2, .int .i64 x.h3, .int .i64 x.h4, .int .i64 x.h5, .int .i64 x.h6, .int .i64 x.h7, .int .i64 x.h8, .int .i64 x.h9]
@[go_sem] theorem Head.cf_len (x : Head) : x.c.length = 10 := rfl
theorem Head.c_len (x : Head) : x.c.length = 10 := rfl
@[go_sem] theorem Head.cf_bor (x : Head) : x.c.map borrow1 = x.c := rfl
theorem Head.c_bor (x : Head) : x.c.map borrow1 = x.c := rfl
@[go_sem] theorem Head.cf_own (x : Head) : x.c.any owned1 = false := by
  rfl
@[go_sem] theorem Head.cf_take (x : Head) : x.c.take 10 = x.c := rfl
@[go_sem] theorem Head.cf_pure (x : Head) : pureL x.c = true := by
  simp [Head.c, pureL, AV.pure]
theorem Head.c_pure (x : Head) : pureL x.c = true := x.cf_pure
@[go_sem] theorem Head.cf_bnd (k : Nat) (x : Head) : bndL k x.c = true := by
  simp [Head.c, bndL, AV.bnd]
theorem Head.c_bnd (k : Nat) (x : Head) : bndL k x.c = true := Head.cf_bnd k x
@[go_sem] theorem Head.cf_at0 (x : Head) : x.c[0]? = some (.int .i64 x.h0) := rfl
@[go_sem] theorem Head.cf_at1 (x : Head) : x.c[1]? = some (.int .i64 x.h1) := rfl
@[go_sem] theorem Head.cf_at2 (x : Head) : x.c[2]? = some (.int .i64 x.h2) := rfl
@[go_sem] theorem Head.cf_at3 (x : Head) : x.c[3]? = some (.int .i64 x.h3) := rfl
@[go_sem] theorem Head.cf_at4 (x : Head) : x.c[4]? = some (.int .i64 x.h4) := rfl
@[go_sem] theorem Head.cf_at5 (x : Head) : x.c[5]? = some (.int .i64 x.h5) := rfl
@[go_sem] theorem Head.cf_at6 (x : Head) : x.c[6]? = some (.int .i64 x.h6) := rfl
@[go_sem] theorem Head.cf_at7 (x : Head) : x.c[7]? = some (.int .i64 x.h7) := rfl
@[go_sem] theorem Head.cf_at8 (x : Head) : x.c[8]? = some (.int .i64 x.h8) := rfl
@[go_sem] theorem Head.cf_at9 (x : Head) : x.c[9]? = some (.int .i64 x.h9) := rfl
@[go_sem] theorem Head.cf_put_h0 (x : Head) (v : Int) : splice x.c 0 [.int .i64 v] = ({ x with h0 := v } : Head).c := rfl
@[go_sem] theorem Head.cf_putN_h0 (x : Head) (v : Int) : spliceN x.c [.int .i64 v] = ({ x with h0 := v } : Head).c := rfl
@[go_sem] theorem Head.cf_put_h1 (x : Head) (v : Int) : splice x.c 1 [.int .i64 v] = ({ x with h1 := v } : Head).c := rfl
@[go_sem] theorem Head.cf_put_h2 (x : Head) (v : Int) : splice x.c 2 [.int .i64 v] = ({ x with h2 := v } : Head).c := rfl
@[go_sem] theorem Head.cf_put_h3 (x : Head) (v : Int) : splice x.c 3 [.int .i64 v] = ({ x with h3 := v } : Head).c := rfl
@[go_sem] theorem Head.cf_put_h4 (x : Head) (v : Int) : splice x.c 4 [.int .i64 v] = ({ x with h4 := v } : Head).c := rfl
@[go_sem] theorem Head.cf_put_h5 (x : Head) (v : Int) : splice x.c 5 [.int .i64 v] = ({ x with h5 := v } : Head).c := rfl
@[go_sem] theorem Head.cf_put_h6 (x : Head) (v : Int) : splice x.c 6 [.int .i64 v] = ({ x with h6 := v } : Head).c := rfl
@[go_sem] theorem Head.cf_put_h7 (x : Head) (v : Int) : splice x.c 7 [.int .i64 v] = ({ x with h7 := v } : Head).c := rfl
@[go_sem] theorem Head.cf_put_h8 (x : Head) (v : Int) : splice x.c 8 [.int .i64 v] = ({ x with h8 := v } : Head).c := rfl
@[go_sem] theorem Head.cf_put_h9 (x : Head) (v : Int) : splice x.c 9 [.int .i64 v] = ({ x with h9 := v } : Head).c := rfl
def Head.z : Head := ⟨0, 0, 0, 0, 0, 0, 0, 0, 0, 0⟩
@[go_sem] theorem Head.zero : zeroAV Try.prog 43 = some (.agg Head.z.c) := by kernel_rfl
def Head.ok (x : Head) : Prop := (IntKind.i64.min ≤ x.h0 ∧ x.h0 ≤ IntKind.i64.max) ∧ (IntKind.i64.min ≤ x.h1 ∧ x.h1 ≤ IntKind.i64.max) ∧ (IntKind.i64.min ≤ x.h2 ∧ x.h2 ≤ IntKind.i64.max) ∧ (IntKind.i64.min ≤ x.h3 ∧ x.h3 ≤ IntKind.i64.max) ∧ (IntKind.i64.min ≤ x.h4 ∧ x.h4 ≤ IntKind.i64.max) ∧ (IntKind.i64.min ≤ x.h5 ∧ x.h5 ≤ IntKind.i64.max) ∧ (IntKind.i64.min ≤ x.h6 ∧ x.h6 ≤ IntKind.i64.max) ∧ (IntKind.i64.min ≤ x.h7 ∧ x.h7 ≤ IntKind.i64.max) ∧ (IntKind.i64.min ≤ x.h8 ∧ x.h8 ≤ IntKind.i64.max) ∧ (IntKind.i64.min ≤ x.h9 ∧ x.h9 ≤ IntKind.i64.max)
theorem Head.rd {a : AV} (h : Rd Try.prog 43 a) : ∃ x : Head, a = .agg x.c ∧ x.ok := by
  obtain ⟨ps, rfl, hp⟩ := Rd.unpack (ts := [3, 3, 3, 3, 3, 3, 3, 3, 3, 3]) (by kernel_rfl) h
  obtain ⟨a0, a1, a2, a3, a4, a5, a6, a7, a8, a9, rfl, g0, g1, g2, g3, g4, g5, g6, g7, g8, g9⟩ := RdAll.split10 hp
  obtain ⟨v0, rfl, k0⟩ := Rd.int_of (t := 3) (k := .i64) (by kernel_rfl) g0
  obtain ⟨v1, rfl, k1⟩ := Rd.int_of (t := 3) (k := .i64) (by kernel_rfl) g1
  obtain ⟨v2, rfl, k2⟩ := Rd.int_of (t := 3) (k := .i64) (by kernel_rfl) g2
  obtain ⟨v3, rfl, k3⟩ := Rd.int_of (t := 3) (k := .i64) (by kernel_rfl) g3
  obtain ⟨v4, rfl, k4⟩ := Rd.int_of (t := 3) (k := .i64) (by kernel_rfl) g4
  obtain ⟨v5, rfl, k5⟩ := Rd.int_of (t := 3) (k := .i64) (by kernel_rfl) g5
  obtain ⟨v6, rfl, k6⟩ := Rd.int_of (t := 3) (k := .i64) (by kernel_rfl) g6
  obtain ⟨v7, rfl, k7⟩ := Rd.int_of (t := 3) (k := .i64) (by kernel_rfl) g7
  obtain ⟨v8, rfl, k8⟩ := Rd.int_of (t := 3) (k := .i64) (by kernel_rfl) g8
  obtain ⟨v9, rfl, k9⟩ := Rd.int_of (t := 3) (k := .i64) (by kernel_rfl) g9
  exact ⟨⟨v0, v1, v2, v3, v4, v5, v6, v7, v8, v9⟩, rfl, ⟨k0, k1, k2, k3, k4, k5, k6, k7, k8, k9⟩⟩

theorem Head.eq (x y : Head) : aeql Try.prog 43 (.agg x.c) (.agg y.c) = some (decide (x = y)) := by
  have e : aeql Try.prog 43 (.agg x.c) (.agg y.c) = some ((x.h0 == y.h0) && ((x.h1 == y.h1) && ((x.h2 == y.h2) && ((x.h3 == y.h3) && ((x.h4 == y.h4) && ((x.h5 == y.h5) && ((x.h6 == y.h6) && ((x.h7 == y.h7) && ((x.h8 == y.h8) && ((x.h9 == y.h9) && true)))))))))) := by kernel_rfl
  rw [e, Option.some.injEq, Bool.eq_iff_iff]
  simp [Head.ext_iff]
@[go_sem] theorem Head.eqk (x y : Head) {d : Tmp} {K : Kt} {e : Env} {H : Heap} : binK Try.prog .eql 43 (.agg x.c) (.agg y.c) d K e H = K ((d, .bool (decide (x = y))) :: e) H := binK_eqlA (Head.eq x y)
@[go_sem] theorem Head.nek (x y : Head) {d : Tmp} {K : Kt} {e : Env} {H : Heap} : binK Try.prog .neq 43 (.agg x.c) (.agg y.c) d K e H = K ((d, .bool !(decide (x = y))) :: e) H := binK_neqA (Head.eq x y)

@[ext] structure Packet where
  id : Int
  head : Head
  deriving DecidableEq, Inhabited

def Packet.c (x : Packet) : List AV := [.int .i64 x.id, .int .i64 x.head.h0, .int .i64 x.head.h1, .int .i64 x.head.h2, .int .i64 x.head.h3, .int .i64 x.head.h4, .int .i64 x.head.h5, .int .i64 x.head.h6, .int .i64 x.head.h7, .int .i64 x.head.h8, .int .i64 x.head.h9]
@[go_sem] theorem Packet.cf_len (x : Packet) : x.c.length = 11 := rfl
theorem Packet.c_len (x : Packet) : x.c.length = 11 := rfl
@[go_sem] theorem Packet.cf_bor (x : Packet) : x.c.map borrow1 = x.c := rfl
theorem Packet.c_bor (x : Packet) : x.c.map borrow1 = x.c := rfl
@[go_sem] theorem Packet.cf_own (x : Packet) : x.c.any owned1 = false := by
  rfl
@[go_sem] theorem Packet.cf_take (x : Packet) : x.c.take 11 = x.c := rfl
@[go_sem] theorem Packet.cf_pure (x : Packet) : pureL x.c = true := by
  simp [Packet.c, pureL, AV.pure]
theorem Packet.c_pure (x : Packet) : pureL x.c = true := x.cf_pure
@[go_sem] theorem Packet.cf_bnd (k : Nat) (x : Packet) : bndL k x.c = true := by
  simp [Packet.c, bndL, AV.bnd]
theorem Packet.c_bnd (k : Nat) (x : Packet) : bndL k x.c = true := Packet.cf_bnd k x
@[go_sem] theorem Packet.cf_at0 (x : Packet) : x.c[0]? = some (.int .i64 x.id) := rfl
@[go_sem] theorem Packet.cf_at1 (x : Packet) : x.c[1]? = some (.int .i64 x.head.h0) := rfl
@[go_sem] theorem Packet.cf_at2 (x : Packet) : x.c[2]? = some (.int .i64 x.head.h1) := rfl
@[go_sem] theorem Packet.cf_at3 (x : Packet) : x.c[3]? = some (.int .i64 x.head.h2) := rfl
@[go_sem] theorem Packet.cf_at4 (x : Packet) : x.c[4]? = some (.int .i64 x.head.h3) := rfl
@[go_sem] theorem Packet.cf_at5 (x : Packet) : x.c[5]? = some (.int .i64 x.head.h4) := rfl
@[go_sem] theorem Packet.cf_at6 (x : Packet) : x.c[6]? = some (.int .i64 x.head.h5) := rfl
@[go_sem] theorem Packet.cf_at7 (x : Packet) : x.c[7]? = some (.int .i64 x.head.h6) := rfl
@[go_sem] theorem Packet.cf_at8 (x : Packet) : x.c[8]? = some (.int .i64 x.head.h7) := rfl
@[go_sem] theorem Packet.cf_at9 (x : Packet) : x.c[9]? = some (.int .i64 x.head.h8) := rfl
@[go_sem] theorem Packet.cf_at10 (x : Packet) : x.c[10]? = some (.int .i64 x.head.h9) := rfl
@[go_sem] theorem Packet.cf_put_id (x : Packet) (v : Int) : splice x.c 0 [.int .i64 v] = ({ x with id := v } : Packet).c := rfl
@[go_sem] theorem Packet.cf_putN_id (x : Packet) (v : Int) : spliceN x.c [.int .i64 v] = ({ x with id := v } : Packet).c := rfl
@[go_sem] theorem Packet.cf_part_head (x : Packet) : (x.c.drop 1).take 10 = x.head.c := rfl
@[go_sem] theorem Packet.cf_put_head (x : Packet) (v : Head) : splice x.c 1 v.c = ({ x with head := v } : Packet).c := rfl
@[go_sem] theorem Packet.cf_put_head_h0 (x : Packet) (v : Int) : splice x.c 1 [.int .i64 v] = ({ x with head := { x.head with h0 := v } } : Packet).c := rfl
@[go_sem] theorem Packet.cf_put_head_h1 (x : Packet) (v : Int) : splice x.c 2 [.int .i64 v] = ({ x with head := { x.head with h1 := v } } : Packet).c := rfl
@[go_sem] theorem Packet.cf_put_head_h2 (x : Packet) (v : Int) : splice x.c 3 [.int .i64 v] = ({ x with head := { x.head with h2 := v } } : Packet).c := rfl
@[go_sem] theorem Packet.cf_put_head_h3 (x : Packet) (v : Int) : splice x.c 4 [.int .i64 v] = ({ x with head := { x.head with h3 := v } } : Packet).c := rfl
@[go_sem] theorem Packet.cf_put_head_h4 (x : Packet) (v : Int) : splice x.c 5 [.int .i64 v] = ({ x with head := { x.head with h4 := v } } : Packet).c := rfl
@[go_sem] theorem Packet.cf_put_head_h5 (x : Packet) (v : Int) : splice x.c 6 [.int .i64 v] = ({ x with head := { x.head with h5 := v } } : Packet).c := rfl
@[go_sem] theorem Packet.cf_put_head_h6 (x : Packet) (v : Int) : splice x.c 7 [.int .i64 v] = ({ x with head := { x.head with h6 := v } } : Packet).c := rfl
@[go_sem] theorem Packet.cf_put_head_h7 (x : Packet) (v : Int) : splice x.c 8 [.int .i64 v] = ({ x with head := { x.head with h7 := v } } : Packet).c := rfl
@[go_sem] theorem Packet.cf_put_head_h8 (x : Packet) (v : Int) : splice x.c 9 [.int .i64 v] = ({ x with head := { x.head with h8 := v } } : Packet).c := rfl
@[go_sem] theorem Packet.cf_put_head_h9 (x : Packet) (v : Int) : splice x.c 10 [.int .i64 v] = ({ x with head := { x.head with h9 := v } } : Packet).c := rfl
def Packet.z : Packet := ⟨0, ⟨0, 0, 0, 0, 0, 0, 0, 0, 0, 0⟩⟩
@[go_sem] theorem Packet.zero : zeroAV Try.prog 45 = some (.agg Packet.z.c) := by kernel_rfl
def Packet.ok (x : Packet) : Prop := (IntKind.i64.min ≤ x.id ∧ x.id ≤ IntKind.i64.max) ∧ (x.head.ok)
theorem Packet.rd {a : AV} (h : Rd Try.prog 45 a) : ∃ x : Packet, a = .agg x.c ∧ x.ok := by
  obtain ⟨ps, rfl, hp⟩ := Rd.unpack (ts := [3, 43]) (by kernel_rfl) h
  obtain ⟨a0, a1, rfl, g0, g1⟩ := RdAll.split2 hp
  obtain ⟨v0, rfl, k0⟩ := Rd.int_of (t := 3) (k := .i64) (by kernel_rfl) g0
  obtain ⟨v1, rfl, k1⟩ := Head.rd g1
  exact ⟨⟨v0, v1⟩, rfl, ⟨k0, k1⟩⟩

theorem Packet.eq (x y : Packet) : aeql Try.prog 45 (.agg x.c) (.agg y.c) = some (decide (x = y)) := by
  have e : aeql Try.prog 45 (.agg x.c) (.agg y.c) = some ((x.id == y.id) && (((x.head.h0 == y.head.h0) && ((x.head.h1 == y.head.h1) && ((x.head.h2 == y.head.h2) && ((x.head.h3 == y.head.h3) && ((x.head.h4 == y.head.h4) && ((x.head.h5 == y.head.h5) && ((x.head.h6 == y.head.h6) && ((x.head.h7 == y.head.h7) && ((x.head.h8 == y.head.h8) && ((x.head.h9 == y.head.h9) && true)))))))))) && true)) := by kernel_rfl
  rw [e, Option.some.injEq, Bool.eq_iff_iff]
  simp [Packet.ext_iff, Head.ext_iff]
@[go_sem] theorem Packet.eqk (x y : Packet) {d : Tmp} {K : Kt} {e : Env} {H : Heap} : binK Try.prog .eql 45 (.agg x.c) (.agg y.c) d K e H = K ((d, .bool (decide (x = y))) :: e) H := binK_eqlA (Packet.eq x y)
@[go_sem] theorem Packet.nek (x y : Packet) {d : Tmp} {K : Kt} {e : Env} {H : Heap} : binK Try.prog .neq 45 (.agg x.c) (.agg y.c) d K e H = K ((d, .bool !(decide (x = y))) :: e) H := binK_neqA (Packet.eq x y)

@[ext] structure Passed where
  link : Int
  packet : Packet
  deriving DecidableEq, Inhabited

def Passed.c (x : Passed) : List AV := [.int .i64 x.link, .int .i64 x.packet.id, .int .i64 x.packet.head.h0, .int .i64 x.packet.head.h1, .int .i64 x.packet.head.h2, .int .i64 x.packet.head.h3, .int .i64 x.packet.head.h4, .int .i64 x.packet.head.h5, .int .i64 x.packet.head.h6, .int .i64 x.packet.head.h7, .int .i64 x.packet.head.h8, .int .i64 x.packet.head.h9]
@[go_sem] theorem Passed.cf_len (x : Passed) : x.c.length = 12 := rfl
theorem Passed.c_len (x : Passed) : x.c.length = 12 := rfl
@[go_sem] theorem Passed.cf_bor (x : Passed) : x.c.map borrow1 = x.c := rfl
theorem Passed.c_bor (x : Passed) : x.c.map borrow1 = x.c := rfl
@[go_sem] theorem Passed.cf_own (x : Passed) : x.c.any owned1 = false := by
  rfl
@[go_sem] theorem Passed.cf_take (x : Passed) : x.c.take 12 = x.c := rfl
@[go_sem] theorem Passed.cf_pure (x : Passed) : pureL x.c = true := by
  simp [Passed.c, pureL, AV.pure]
theorem Passed.c_pure (x : Passed) : pureL x.c = true := x.cf_pure
@[go_sem] theorem Passed.cf_bnd (k : Nat) (x : Passed) : bndL k x.c = true := by
  simp [Passed.c, bndL, AV.bnd]
theorem Passed.c_bnd (k : Nat) (x : Passed) : bndL k x.c = true := Passed.cf_bnd k x
@[go_sem] theorem Passed.cf_at0 (x : Passed) : x.c[0]? = some (.int .i64 x.link) := rfl
@[go_sem] theorem Passed.cf_at1 (x : Passed) : x.c[1]? = some (.int .i64 x.packet.id) := rfl
@[go_sem] theorem Passed.cf_at2 (x : Passed) : x.c[2]? = some (.int .i64 x.packet.head.h0) := rfl
@[go_sem] theorem Passed.cf_at3 (x : Passed) : x.c[3]? = some (.int .i64 x.packet.head.h1) := rfl
@[go_sem] theorem Passed.cf_at4 (x : Passed) : x.c[4]? = some (.int .i64 x.packet.head.h2) := rfl
@[go_sem] theorem Passed.cf_at5 (x : Passed) : x.c[5]? = some (.int .i64 x.packet.head.h3) := rfl
@[go_sem] theorem Passed.cf_at6 (x : Passed) : x.c[6]? = some (.int .i64 x.packet.head.h4) := rfl
@[go_sem] theorem Passed.cf_at7 (x : Passed) : x.c[7]? = some (.int .i64 x.packet.head.h5) := rfl
@[go_sem] theorem Passed.cf_at8 (x : Passed) : x.c[8]? = some (.int .i64 x.packet.head.h6) := rfl
@[go_sem] theorem Passed.cf_at9 (x : Passed) : x.c[9]? = some (.int .i64 x.packet.head.h7) := rfl
@[go_sem] theorem Passed.cf_at10 (x : Passed) : x.c[10]? = some (.int .i64 x.packet.head.h8) := rfl
@[go_sem] theorem Passed.cf_at11 (x : Passed) : x.c[11]? = some (.int .i64 x.packet.head.h9) := rfl
@[go_sem] theorem Passed.cf_put_link (x : Passed) (v : Int) : splice x.c 0 [.int .i64 v] = ({ x with link := v } : Passed).c := rfl
@[go_sem] theorem Passed.cf_putN_link (x : Passed) (v : Int) : spliceN x.c [.int .i64 v] = ({ x with link := v } : Passed).c := rfl
@[go_sem] theorem Passed.cf_part_packet (x : Passed) : (x.c.drop 1).take 11 = x.packet.c := rfl
@[go_sem] theorem Passed.cf_put_packet (x : Passed) (v : Packet) : splice x.c 1 v.c = ({ x with packet := v } : Passed).c := rfl
@[go_sem] theorem Passed.cf_put_packet_id (x : Passed) (v : Int) : splice x.c 1 [.int .i64 v] = ({ x with packet := { x.packet with id := v } } : Passed).c := rfl
@[go_sem] theorem Passed.cf_part_packet_head (x : Passed) : (x.c.drop 2).take 10 = x.packet.head.c := rfl
@[go_sem] theorem Passed.cf_put_packet_head (x : Passed) (v : Head) : splice x.c 2 v.c = ({ x with packet := { x.packet with head := v } } : Passed).c := rfl
@[go_sem] theorem Passed.cf_put_packet_head_h0 (x : Passed) (v : Int) : splice x.c 2 [.int .i64 v] = ({ x with packet := { x.packet with head := { x.packet.head with h0 := v } } } : Passed).c := rfl
@[go_sem] theorem Passed.cf_put_packet_head_h1 (x : Passed) (v : Int) : splice x.c 3 [.int .i64 v] = ({ x with packet := { x.packet with head := { x.packet.head with h1 := v } } } : Passed).c := rfl
@[go_sem] theorem Passed.cf_put_packet_head_h2 (x : Passed) (v : Int) : splice x.c 4 [.int .i64 v] = ({ x with packet := { x.packet with head := { x.packet.head with h2 := v } } } : Passed).c := rfl
@[go_sem] theorem Passed.cf_put_packet_head_h3 (x : Passed) (v : Int) : splice x.c 5 [.int .i64 v] = ({ x with packet := { x.packet with head := { x.packet.head with h3 := v } } } : Passed).c := rfl
@[go_sem] theorem Passed.cf_put_packet_head_h4 (x : Passed) (v : Int) : splice x.c 6 [.int .i64 v] = ({ x with packet := { x.packet with head := { x.packet.head with h4 := v } } } : Passed).c := rfl
@[go_sem] theorem Passed.cf_put_packet_head_h5 (x : Passed) (v : Int) : splice x.c 7 [.int .i64 v] = ({ x with packet := { x.packet with head := { x.packet.head with h5 := v } } } : Passed).c := rfl
@[go_sem] theorem Passed.cf_put_packet_head_h6 (x : Passed) (v : Int) : splice x.c 8 [.int .i64 v] = ({ x with packet := { x.packet with head := { x.packet.head with h6 := v } } } : Passed).c := rfl
@[go_sem] theorem Passed.cf_put_packet_head_h7 (x : Passed) (v : Int) : splice x.c 9 [.int .i64 v] = ({ x with packet := { x.packet with head := { x.packet.head with h7 := v } } } : Passed).c := rfl
@[go_sem] theorem Passed.cf_put_packet_head_h8 (x : Passed) (v : Int) : splice x.c 10 [.int .i64 v] = ({ x with packet := { x.packet with head := { x.packet.head with h8 := v } } } : Passed).c := rfl
@[go_sem] theorem Passed.cf_put_packet_head_h9 (x : Passed) (v : Int) : splice x.c 11 [.int .i64 v] = ({ x with packet := { x.packet with head := { x.packet.head with h9 := v } } } : Passed).c := rfl
def Passed.z : Passed := ⟨0, ⟨0, ⟨0, 0, 0, 0, 0, 0, 0, 0, 0, 0⟩⟩⟩
@[go_sem] theorem Passed.zero : zeroAV Try.prog 57 = some (.agg Passed.z.c) := by kernel_rfl
def Passed.ok (x : Passed) : Prop := (IntKind.i64.min ≤ x.link ∧ x.link ≤ IntKind.i64.max) ∧ (x.packet.ok)
theorem Passed.rd {a : AV} (h : Rd Try.prog 57 a) : ∃ x : Passed, a = .agg x.c ∧ x.ok := by
  obtain ⟨ps, rfl, hp⟩ := Rd.unpack (ts := [3, 45]) (by kernel_rfl) h
  obtain ⟨a0, a1, rfl, g0, g1⟩ := RdAll.split2 hp
  obtain ⟨v0, rfl, k0⟩ := Rd.int_of (t := 3) (k := .i64) (by kernel_rfl) g0
  obtain ⟨v1, rfl, k1⟩ := Packet.rd g1
  exact ⟨⟨v0, v1⟩, rfl, ⟨k0, k1⟩⟩

theorem Passed.eq (x y : Passed) : aeql Try.prog 57 (.agg x.c) (.agg y.c) = some (decide (x = y)) := by
  have e : aeql Try.prog 57 (.agg x.c) (.agg y.c) = some ((x.link == y.link) && (((x.packet.id == y.packet.id) && (((x.packet.head.h0 == y.packet.head.h0) && ((x.packet.head.h1 == y.packet.head.h1) && ((x.packet.head.h2 == y.packet.head.h2) && ((x.packet.head.h3 == y.packet.head.h3) && ((x.packet.head.h4 == y.packet.head.h4) && ((x.packet.head.h5 == y.packet.head.h5) && ((x.packet.head.h6 == y.packet.head.h6) && ((x.packet.head.h7 == y.packet.head.h7) && ((x.packet.head.h8 == y.packet.head.h8) && ((x.packet.head.h9 == y.packet.head.h9) && true)))))))))) && true)) && true)) := by kernel_rfl
  rw [e, Option.some.injEq, Bool.eq_iff_iff]
  simp [Passed.ext_iff, Packet.ext_iff, Head.ext_iff]
@[go_sem] theorem Passed.eqk (x y : Passed) {d : Tmp} {K : Kt} {e : Env} {H : Heap} : binK Try.prog .eql 57 (.agg x.c) (.agg y.c) d K e H = K ((d, .bool (decide (x = y))) :: e) H := binK_eqlA (Passed.eq x y)
@[go_sem] theorem Passed.nek (x y : Passed) {d : Tmp} {K : Kt} {e : Env} {H : Heap} : binK Try.prog .neq 57 (.agg x.c) (.agg y.c) d K e H = K ((d, .bool !(decide (x = y))) :: e) H := binK_neqA (Passed.eq x y)

@[ext] structure Meter where
  in_ : Int
  out : Int
  full : Int
  down : Int
  lost : Int
  deriving DecidableEq, Inhabited

def Meter.c (x : Meter) : List AV := [.int .i64 x.in_, .int .i64 x.out, .int .i64 x.full, .int .i64 x.down, .int .i64 x.lost]
@[go_sem] theorem Meter.cf_len (x : Meter) : x.c.length = 5 := rfl
theorem Meter.c_len (x : Meter) : x.c.length = 5 := rfl
@[go_sem] theorem Meter.cf_bor (x : Meter) : x.c.map borrow1 = x.c := rfl
theorem Meter.c_bor (x : Meter) : x.c.map borrow1 = x.c := rfl
@[go_sem] theorem Meter.cf_own (x : Meter) : x.c.any owned1 = false := by
  rfl
@[go_sem] theorem Meter.cf_take (x : Meter) : x.c.take 5 = x.c := rfl
@[go_sem] theorem Meter.cf_pure (x : Meter) : pureL x.c = true := by
  simp [Meter.c, pureL, AV.pure]
theorem Meter.c_pure (x : Meter) : pureL x.c = true := x.cf_pure
@[go_sem] theorem Meter.cf_bnd (k : Nat) (x : Meter) : bndL k x.c = true := by
  simp [Meter.c, bndL, AV.bnd]
theorem Meter.c_bnd (k : Nat) (x : Meter) : bndL k x.c = true := Meter.cf_bnd k x
@[go_sem] theorem Meter.cf_at0 (x : Meter) : x.c[0]? = some (.int .i64 x.in_) := rfl
@[go_sem] theorem Meter.cf_at1 (x : Meter) : x.c[1]? = some (.int .i64 x.out) := rfl
@[go_sem] theorem Meter.cf_at2 (x : Meter) : x.c[2]? = some (.int .i64 x.full) := rfl
@[go_sem] theorem Meter.cf_at3 (x : Meter) : x.c[3]? = some (.int .i64 x.down) := rfl
@[go_sem] theorem Meter.cf_at4 (x : Meter) : x.c[4]? = some (.int .i64 x.lost) := rfl
@[go_sem] theorem Meter.cf_put_in_ (x : Meter) (v : Int) : splice x.c 0 [.int .i64 v] = ({ x with in_ := v } : Meter).c := rfl
@[go_sem] theorem Meter.cf_putN_in_ (x : Meter) (v : Int) : spliceN x.c [.int .i64 v] = ({ x with in_ := v } : Meter).c := rfl
@[go_sem] theorem Meter.cf_put_out (x : Meter) (v : Int) : splice x.c 1 [.int .i64 v] = ({ x with out := v } : Meter).c := rfl
@[go_sem] theorem Meter.cf_put_full (x : Meter) (v : Int) : splice x.c 2 [.int .i64 v] = ({ x with full := v } : Meter).c := rfl
@[go_sem] theorem Meter.cf_put_down (x : Meter) (v : Int) : splice x.c 3 [.int .i64 v] = ({ x with down := v } : Meter).c := rfl
@[go_sem] theorem Meter.cf_put_lost (x : Meter) (v : Int) : splice x.c 4 [.int .i64 v] = ({ x with lost := v } : Meter).c := rfl
def Meter.z : Meter := ⟨0, 0, 0, 0, 0⟩
@[go_sem] theorem Meter.zero : zeroAV Try.prog 59 = some (.agg Meter.z.c) := by kernel_rfl
def Meter.ok (x : Meter) : Prop := (IntKind.i64.min ≤ x.in_ ∧ x.in_ ≤ IntKind.i64.max) ∧ (IntKind.i64.min ≤ x.out ∧ x.out ≤ IntKind.i64.max) ∧ (IntKind.i64.min ≤ x.full ∧ x.full ≤ IntKind.i64.max) ∧ (IntKind.i64.min ≤ x.down ∧ x.down ≤ IntKind.i64.max) ∧ (IntKind.i64.min ≤ x.lost ∧ x.lost ≤ IntKind.i64.max)
theorem Meter.rd {a : AV} (h : Rd Try.prog 59 a) : ∃ x : Meter, a = .agg x.c ∧ x.ok := by
  obtain ⟨ps, rfl, hp⟩ := Rd.unpack (ts := [3, 3, 3, 3, 3]) (by kernel_rfl) h
  obtain ⟨a0, a1, a2, a3, a4, rfl, g0, g1, g2, g3, g4⟩ := RdAll.split5 hp
  obtain ⟨v0, rfl, k0⟩ := Rd.int_of (t := 3) (k := .i64) (by kernel_rfl) g0
  obtain ⟨v1, rfl, k1⟩ := Rd.int_of (t := 3) (k := .i64) (by kernel_rfl) g1
  obtain ⟨v2, rfl, k2⟩ := Rd.int_of (t := 3) (k := .i64) (by kernel_rfl) g2
  obtain ⟨v3, rfl, k3⟩ := Rd.int_of (t := 3) (k := .i64) (by kernel_rfl) g3
  obtain ⟨v4, rfl, k4⟩ := Rd.int_of (t := 3) (k := .i64) (by kernel_rfl) g4
  exact ⟨⟨v0, v1, v2, v3, v4⟩, rfl, ⟨k0, k1, k2, k3, k4⟩⟩

theorem Meter.eq (x y : Meter) : aeql Try.prog 59 (.agg x.c) (.agg y.c) = some (decide (x = y)) := by
  have e : aeql Try.prog 59 (.agg x.c) (.agg y.c) = some ((x.in_ == y.in_) && ((x.out == y.out) && ((x.full == y.full) && ((x.down == y.down) && ((x.lost == y.lost) && true))))) := by kernel_rfl
  rw [e, Option.some.injEq, Bool.eq_iff_iff]
  simp [Meter.ext_iff]
@[go_sem] theorem Meter.eqk (x y : Meter) {d : Tmp} {K : Kt} {e : Env} {H : Heap} : binK Try.prog .eql 59 (.agg x.c) (.agg y.c) d K e H = K ((d, .bool (decide (x = y))) :: e) H := binK_eqlA (Meter.eq x y)
@[go_sem] theorem Meter.nek (x y : Meter) {d : Tmp} {K : Kt} {e : Env} {H : Heap} : binK Try.prog .neq 59 (.agg x.c) (.agg y.c) d K e H = K ((d, .bool !(decide (x = y))) :: e) H := binK_neqA (Meter.eq x y)

@[ext] structure Link where
  src : Int
  dst : Int
  capacity : Int
  deriving DecidableEq, Inhabited

def Link.c (x : Link) : List AV := [.int .i64 x.src, .int .i64 x.dst, .int .i64 x.capacity]
@[go_sem] theorem Link.cf_len (x : Link) : x.c.length = 3 := rfl
theorem Link.c_len (x : Link) : x.c.length = 3 := rfl
@[go_sem] theorem Link.cf_bor (x : Link) : x.c.map borrow1 = x.c := rfl
theorem Link.c_bor (x : Link) : x.c.map borrow1 = x.c := rfl
@[go_sem] theorem Link.cf_own (x : Link) : x.c.any owned1 = false := by
  rfl
@[go_sem] theorem Link.cf_take (x : Link) : x.c.take 3 = x.c := rfl
@[go_sem] theorem Link.cf_pure (x : Link) : pureL x.c = true := by
  simp [Link.c, pureL, AV.pure]
theorem Link.c_pure (x : Link) : pureL x.c = true := x.cf_pure
@[go_sem] theorem Link.cf_bnd (k : Nat) (x : Link) : bndL k x.c = true := by
  simp [Link.c, bndL, AV.bnd]
theorem Link.c_bnd (k : Nat) (x : Link) : bndL k x.c = true := Link.cf_bnd k x
@[go_sem] theorem Link.cf_at0 (x : Link) : x.c[0]? = some (.int .i64 x.src) := rfl
@[go_sem] theorem Link.cf_at1 (x : Link) : x.c[1]? = some (.int .i64 x.dst) := rfl
@[go_sem] theorem Link.cf_at2 (x : Link) : x.c[2]? = some (.int .i64 x.capacity) := rfl
@[go_sem] theorem Link.cf_put_src (x : Link) (v : Int) : splice x.c 0 [.int .i64 v] = ({ x with src := v } : Link).c := rfl
@[go_sem] theorem Link.cf_putN_src (x : Link) (v : Int) : spliceN x.c [.int .i64 v] = ({ x with src := v } : Link).c := rfl
@[go_sem] theorem Link.cf_put_dst (x : Link) (v : Int) : splice x.c 1 [.int .i64 v] = ({ x with dst := v } : Link).c := rfl
@[go_sem] theorem Link.cf_put_capacity (x : Link) (v : Int) : splice x.c 2 [.int .i64 v] = ({ x with capacity := v } : Link).c := rfl
def Link.z : Link := ⟨0, 0, 0⟩
@[go_sem] theorem Link.zero : zeroAV Try.prog 65 = some (.agg Link.z.c) := by kernel_rfl
def Link.ok (x : Link) : Prop := (IntKind.i64.min ≤ x.src ∧ x.src ≤ IntKind.i64.max) ∧ (IntKind.i64.min ≤ x.dst ∧ x.dst ≤ IntKind.i64.max) ∧ (IntKind.i64.min ≤ x.capacity ∧ x.capacity ≤ IntKind.i64.max)
theorem Link.rd {a : AV} (h : Rd Try.prog 65 a) : ∃ x : Link, a = .agg x.c ∧ x.ok := by
  obtain ⟨ps, rfl, hp⟩ := Rd.unpack (ts := [3, 3, 3]) (by kernel_rfl) h
  obtain ⟨a0, a1, a2, rfl, g0, g1, g2⟩ := RdAll.split3 hp
  obtain ⟨v0, rfl, k0⟩ := Rd.int_of (t := 3) (k := .i64) (by kernel_rfl) g0
  obtain ⟨v1, rfl, k1⟩ := Rd.int_of (t := 3) (k := .i64) (by kernel_rfl) g1
  obtain ⟨v2, rfl, k2⟩ := Rd.int_of (t := 3) (k := .i64) (by kernel_rfl) g2
  exact ⟨⟨v0, v1, v2⟩, rfl, ⟨k0, k1, k2⟩⟩

@[ext] structure Node where
  name : ByteArray
  box : Bool
  rules : Int
  entries : Int
  deriving DecidableEq, Inhabited

def Node.c (x : Node) : List AV := [.str x.name, .bool x.box, .int .i64 x.rules, .int .i64 x.entries]
@[go_sem] theorem Node.cf_len (x : Node) : x.c.length = 4 := rfl
theorem Node.c_len (x : Node) : x.c.length = 4 := rfl
@[go_sem] theorem Node.cf_bor (x : Node) : x.c.map borrow1 = x.c := rfl
theorem Node.c_bor (x : Node) : x.c.map borrow1 = x.c := rfl
@[go_sem] theorem Node.cf_own (x : Node) : x.c.any owned1 = false := by
  rfl
@[go_sem] theorem Node.cf_take (x : Node) : x.c.take 4 = x.c := rfl
@[go_sem] theorem Node.cf_pure (x : Node) : pureL x.c = true := by
  simp [Node.c, pureL, AV.pure]
theorem Node.c_pure (x : Node) : pureL x.c = true := x.cf_pure
@[go_sem] theorem Node.cf_bnd (k : Nat) (x : Node) : bndL k x.c = true := by
  simp [Node.c, bndL, AV.bnd]
theorem Node.c_bnd (k : Nat) (x : Node) : bndL k x.c = true := Node.cf_bnd k x
@[go_sem] theorem Node.cf_at0 (x : Node) : x.c[0]? = some (.str x.name) := rfl
@[go_sem] theorem Node.cf_at1 (x : Node) : x.c[1]? = some (.bool x.box) := rfl
@[go_sem] theorem Node.cf_at2 (x : Node) : x.c[2]? = some (.int .i64 x.rules) := rfl
@[go_sem] theorem Node.cf_at3 (x : Node) : x.c[3]? = some (.int .i64 x.entries) := rfl
@[go_sem] theorem Node.cf_put_name (x : Node) (v : ByteArray) : splice x.c 0 [.str v] = ({ x with name := v } : Node).c := rfl
@[go_sem] theorem Node.cf_putN_name (x : Node) (v : ByteArray) : spliceN x.c [.str v] = ({ x with name := v } : Node).c := rfl
@[go_sem] theorem Node.cf_put_box (x : Node) (v : Bool) : splice x.c 1 [.bool v] = ({ x with box := v } : Node).c := rfl
@[go_sem] theorem Node.cf_put_rules (x : Node) (v : Int) : splice x.c 2 [.int .i64 v] = ({ x with rules := v } : Node).c := rfl
@[go_sem] theorem Node.cf_put_entries (x : Node) (v : Int) : splice x.c 3 [.int .i64 v] = ({ x with entries := v } : Node).c := rfl
def Node.z : Node := ⟨.empty, false, 0, 0⟩
@[go_sem] theorem Node.zero : zeroAV Try.prog 111 = some (.agg Node.z.c) := by kernel_rfl
def Node.ok (x : Node) : Prop := (x.name.size ≤ reachBytes) ∧ (True) ∧ (IntKind.i64.min ≤ x.rules ∧ x.rules ≤ IntKind.i64.max) ∧ (IntKind.i64.min ≤ x.entries ∧ x.entries ≤ IntKind.i64.max)
theorem Node.rd {a : AV} (h : Rd Try.prog 111 a) : ∃ x : Node, a = .agg x.c ∧ x.ok := by
  obtain ⟨ps, rfl, hp⟩ := Rd.unpack (ts := [9, 4, 3, 3]) (by kernel_rfl) h
  obtain ⟨a0, a1, a2, a3, rfl, g0, g1, g2, g3⟩ := RdAll.split4 hp
  obtain ⟨v0, rfl, k0⟩ := Rd.str_of (t := 9) (by kernel_rfl) g0
  obtain ⟨v1, rfl, k1⟩ := Rd.bool_of (t := 4) (by kernel_rfl) g1
  obtain ⟨v2, rfl, k2⟩ := Rd.int_of (t := 3) (k := .i64) (by kernel_rfl) g2
  obtain ⟨v3, rfl, k3⟩ := Rd.int_of (t := 3) (k := .i64) (by kernel_rfl) g3
  exact ⟨⟨v0, v1, v2, v3⟩, rfl, ⟨k0, k1, k2, k3⟩⟩

@[ext] structure Edge where
  name : ByteArray
  node : Int
  deriving DecidableEq, Inhabited

def Edge.c (x : Edge) : List AV := [.str x.name, .int .i64 x.node]
@[go_sem] theorem Edge.cf_len (x : Edge) : x.c.length = 2 := rfl
theorem Edge.c_len (x : Edge) : x.c.length = 2 := rfl
@[go_sem] theorem Edge.cf_bor (x : Edge) : x.c.map borrow1 = x.c := rfl
theorem Edge.c_bor (x : Edge) : x.c.map borrow1 = x.c := rfl
@[go_sem] theorem Edge.cf_own (x : Edge) : x.c.any owned1 = false := by
  rfl
@[go_sem] theorem Edge.cf_take (x : Edge) : x.c.take 2 = x.c := rfl
@[go_sem] theorem Edge.cf_pure (x : Edge) : pureL x.c = true := by
  simp [Edge.c, pureL, AV.pure]
theorem Edge.c_pure (x : Edge) : pureL x.c = true := x.cf_pure
@[go_sem] theorem Edge.cf_bnd (k : Nat) (x : Edge) : bndL k x.c = true := by
  simp [Edge.c, bndL, AV.bnd]
theorem Edge.c_bnd (k : Nat) (x : Edge) : bndL k x.c = true := Edge.cf_bnd k x
@[go_sem] theorem Edge.cf_at0 (x : Edge) : x.c[0]? = some (.str x.name) := rfl
@[go_sem] theorem Edge.cf_at1 (x : Edge) : x.c[1]? = some (.int .i64 x.node) := rfl
@[go_sem] theorem Edge.cf_put_name (x : Edge) (v : ByteArray) : splice x.c 0 [.str v] = ({ x with name := v } : Edge).c := rfl
@[go_sem] theorem Edge.cf_putN_name (x : Edge) (v : ByteArray) : spliceN x.c [.str v] = ({ x with name := v } : Edge).c := rfl
@[go_sem] theorem Edge.cf_put_node (x : Edge) (v : Int) : splice x.c 1 [.int .i64 v] = ({ x with node := v } : Edge).c := rfl
def Edge.z : Edge := ⟨.empty, 0⟩
@[go_sem] theorem Edge.zero : zeroAV Try.prog 114 = some (.agg Edge.z.c) := by kernel_rfl
def Edge.ok (x : Edge) : Prop := (x.name.size ≤ reachBytes) ∧ (IntKind.i64.min ≤ x.node ∧ x.node ≤ IntKind.i64.max)
theorem Edge.rd {a : AV} (h : Rd Try.prog 114 a) : ∃ x : Edge, a = .agg x.c ∧ x.ok := by
  obtain ⟨ps, rfl, hp⟩ := Rd.unpack (ts := [9, 3]) (by kernel_rfl) h
  obtain ⟨a0, a1, rfl, g0, g1⟩ := RdAll.split2 hp
  obtain ⟨v0, rfl, k0⟩ := Rd.str_of (t := 9) (by kernel_rfl) g0
  obtain ⟨v1, rfl, k1⟩ := Rd.int_of (t := 3) (k := .i64) (by kernel_rfl) g1
  exact ⟨⟨v0, v1⟩, rfl, ⟨k0, k1⟩⟩

def l111 (l : List Node) : List AV := l.map fun x => .agg x.c
@[go_sem] theorem l111_len (l : List Node) : (l111 l).length = l.length := by simp [l111]
theorem l111_get {l : List Node} {i : Nat} {x : Node} (h : l[i]? = some x) : (l111 l)[i]? = some (.agg x.c) := by simp [l111, h]
theorem l111_cells (l : List Node) : ∀ x ∈ l111 l, x.cells.length = 4 := by
  intro x hx; obtain ⟨y, _, rfl⟩ := List.mem_map.1 hx; rfl
@[go_sem] theorem l111_cells' (l : List Node) : (∀ x ∈ l111 l, x.cells.length = 4) = True := eq_true (l111_cells l)
theorem l111_append (a b : List Node) : l111 (a ++ b) = l111 a ++ l111 b := by simp [l111]
theorem l111_take (l : List Node) (k : Nat) : l111 (l.take k) = (l111 l).take k := by simp [l111]
theorem l111_drop (l : List Node) (k : Nat) : l111 (l.drop k) = (l111 l).drop k := by simp [l111]
@[go_sem] theorem l111_nil : l111 [] = [] := rfl
@[go_sem] theorem l111_takeF (l : List Node) (k : Nat) : (l111 l).take k = l111 (l.take k) := by simp [l111]
@[go_sem] theorem l111_dropF (l : List Node) (k : Nat) : (l111 l).drop k = l111 (l.drop k) := by simp [l111]
@[go_sem] theorem l111_app (a b : List Node) : l111 a ++ l111 b = l111 (a ++ b) := by simp [l111]
@[go_sem] theorem l111_snoc (a : List Node) (x : Node) : l111 a ++ [.agg x.c] = l111 (a ++ [x]) := by simp [l111]
theorem l111_cat (l : List Node) : cat (l111 l) = l.flatMap Node.c := by simp [l111, cat, List.flatMap_map]; rfl
@[go_sem] theorem l111_pure (l : List Node) : pureL (l111 l) = true := by
  induction l with
  | nil => rfl
  | cons x xs ih => simpa [l111, pureL, AV.pure] using ⟨Node.c_pure x, ih⟩
@[go_sem] theorem l111_bnd (k : Nat) (l : List Node) : bndL k (l111 l) = true := bndL_map fun x => Node.c_bnd k x
theorem l111_bor (l : List Node) : (l.flatMap Node.c).map borrow1 = l.flatMap Node.c := by
  simp only [List.map_flatMap, Node.c_bor]
def l111_ok (l : List Node) : Prop := l.length * 40 ≤ reachBytes ∧ ∀ x ∈ l, x.ok
theorem l111_rd {a : AV} (h : Rd Try.prog 22 a) : ∃ l, a = .sl none (l111 l) ∧ l111_ok l := by
  obtain ⟨l, h1, h2, h3⟩ := Rd.list (f := fun (x : Node) => .agg x.c) (ok := fun (x : Node) => x.ok) (P := Try.prog) (t := 22) (e := 111) (by kernel_rfl) (fun x hx => Node.rd hx) h
  exact ⟨l, h1, by rw [show Try.prog.bytesOf 111 = 40 by kernel_rfl] at h2; exact h2, h3⟩

def l65 (l : List Link) : List AV := l.map fun x => .agg x.c
@[go_sem] theorem l65_len (l : List Link) : (l65 l).length = l.length := by simp [l65]
theorem l65_get {l : List Link} {i : Nat} {x : Link} (h : l[i]? = some x) : (l65 l)[i]? = some (.agg x.c) := by simp [l65, h]
theorem l65_cells (l : List Link) : ∀ x ∈ l65 l, x.cells.length = 3 := by
  intro x hx; obtain ⟨y, _, rfl⟩ := List.mem_map.1 hx; rfl
@[go_sem] theorem l65_cells' (l : List Link) : (∀ x ∈ l65 l, x.cells.length = 3) = True := eq_true (l65_cells l)
theorem l65_append (a b : List Link) : l65 (a ++ b) = l65 a ++ l65 b := by simp [l65]
theorem l65_take (l : List Link) (k : Nat) : l65 (l.take k) = (l65 l).take k := by simp [l65]
theorem l65_drop (l : List Link) (k : Nat) : l65 (l.drop k) = (l65 l).drop k := by simp [l65]
@[go_sem] theorem l65_nil : l65 [] = [] := rfl
@[go_sem] theorem l65_takeF (l : List Link) (k : Nat) : (l65 l).take k = l65 (l.take k) := by simp [l65]
@[go_sem] theorem l65_dropF (l : List Link) (k : Nat) : (l65 l).drop k = l65 (l.drop k) := by simp [l65]
@[go_sem] theorem l65_app (a b : List Link) : l65 a ++ l65 b = l65 (a ++ b) := by simp [l65]
@[go_sem] theorem l65_snoc (a : List Link) (x : Link) : l65 a ++ [.agg x.c] = l65 (a ++ [x]) := by simp [l65]
theorem l65_cat (l : List Link) : cat (l65 l) = l.flatMap Link.c := by simp [l65, cat, List.flatMap_map]; rfl
@[go_sem] theorem l65_pure (l : List Link) : pureL (l65 l) = true := by
  induction l with
  | nil => rfl
  | cons x xs ih => simpa [l65, pureL, AV.pure] using ⟨Link.c_pure x, ih⟩
@[go_sem] theorem l65_bnd (k : Nat) (l : List Link) : bndL k (l65 l) = true := bndL_map fun x => Link.c_bnd k x
theorem l65_bor (l : List Link) : (l.flatMap Link.c).map borrow1 = l.flatMap Link.c := by
  simp only [List.map_flatMap, Link.c_bor]
def l65_ok (l : List Link) : Prop := l.length * 24 ≤ reachBytes ∧ ∀ x ∈ l, x.ok
theorem l65_rd {a : AV} (h : Rd Try.prog 23 a) : ∃ l, a = .sl none (l65 l) ∧ l65_ok l := by
  obtain ⟨l, h1, h2, h3⟩ := Rd.list (f := fun (x : Link) => .agg x.c) (ok := fun (x : Link) => x.ok) (P := Try.prog) (t := 23) (e := 65) (by kernel_rfl) (fun x hx => Link.rd hx) h
  exact ⟨l, h1, by rw [show Try.prog.bytesOf 65 = 24 by kernel_rfl] at h2; exact h2, h3⟩

def l114 (l : List Edge) : List AV := l.map fun x => .agg x.c
@[go_sem] theorem l114_len (l : List Edge) : (l114 l).length = l.length := by simp [l114]
theorem l114_get {l : List Edge} {i : Nat} {x : Edge} (h : l[i]? = some x) : (l114 l)[i]? = some (.agg x.c) := by simp [l114, h]
theorem l114_cells (l : List Edge) : ∀ x ∈ l114 l, x.cells.length = 2 := by
  intro x hx; obtain ⟨y, _, rfl⟩ := List.mem_map.1 hx; rfl
@[go_sem] theorem l114_cells' (l : List Edge) : (∀ x ∈ l114 l, x.cells.length = 2) = True := eq_true (l114_cells l)
theorem l114_append (a b : List Edge) : l114 (a ++ b) = l114 a ++ l114 b := by simp [l114]
theorem l114_take (l : List Edge) (k : Nat) : l114 (l.take k) = (l114 l).take k := by simp [l114]
theorem l114_drop (l : List Edge) (k : Nat) : l114 (l.drop k) = (l114 l).drop k := by simp [l114]
@[go_sem] theorem l114_nil : l114 [] = [] := rfl
@[go_sem] theorem l114_takeF (l : List Edge) (k : Nat) : (l114 l).take k = l114 (l.take k) := by simp [l114]
@[go_sem] theorem l114_dropF (l : List Edge) (k : Nat) : (l114 l).drop k = l114 (l.drop k) := by simp [l114]
@[go_sem] theorem l114_app (a b : List Edge) : l114 a ++ l114 b = l114 (a ++ b) := by simp [l114]
@[go_sem] theorem l114_snoc (a : List Edge) (x : Edge) : l114 a ++ [.agg x.c] = l114 (a ++ [x]) := by simp [l114]
theorem l114_cat (l : List Edge) : cat (l114 l) = l.flatMap Edge.c := by simp [l114, cat, List.flatMap_map]; rfl
@[go_sem] theorem l114_pure (l : List Edge) : pureL (l114 l) = true := by
  induction l with
  | nil => rfl
  | cons x xs ih => simpa [l114, pureL, AV.pure] using ⟨Edge.c_pure x, ih⟩
@[go_sem] theorem l114_bnd (k : Nat) (l : List Edge) : bndL k (l114 l) = true := bndL_map fun x => Edge.c_bnd k x
theorem l114_bor (l : List Edge) : (l.flatMap Edge.c).map borrow1 = l.flatMap Edge.c := by
  simp only [List.map_flatMap, Edge.c_bor]
def l114_ok (l : List Edge) : Prop := l.length * 24 ≤ reachBytes ∧ ∀ x ∈ l, x.ok
theorem l114_rd {a : AV} (h : Rd Try.prog 24 a) : ∃ l, a = .sl none (l114 l) ∧ l114_ok l := by
  obtain ⟨l, h1, h2, h3⟩ := Rd.list (f := fun (x : Edge) => .agg x.c) (ok := fun (x : Edge) => x.ok) (P := Try.prog) (t := 24) (e := 114) (by kernel_rfl) (fun x hx => Edge.rd hx) h
  exact ⟨l, h1, by rw [show Try.prog.bytesOf 114 = 24 by kernel_rfl] at h2; exact h2, h3⟩

@[ext] structure Network where
  nodes : List Node
  links : List Link
  edges : List Edge
  deriving DecidableEq, Inhabited

def Network.cf (x : Network) (o0 o1 o2 : Option Nat) : List AV := [.sl o0 (l111 x.nodes), .sl o1 (l65 x.links), .sl o2 (l114 x.edges)]
abbrev Network.c (x : Network) : List AV := x.cf none none none
abbrev Network.co (x : Network) : List AV := x.cf (some 4) (some 3) (some 2)
@[go_sem] theorem Network.cf_len (x : Network) (o0 o1 o2 : Option Nat) : (x.cf o0 o1 o2).length = 3 := rfl
theorem Network.c_len (x : Network) : x.c.length = 3 := rfl
@[go_sem] theorem Network.cf_bor (x : Network) (o0 o1 o2 : Option Nat) : (x.cf o0 o1 o2).map borrow1 = x.cf none none none := rfl
theorem Network.c_bor (x : Network) : x.c.map borrow1 = x.c := rfl
@[go_sem] theorem Network.cf_own (x : Network) (o0 o1 o2 : Option Nat) : (x.cf o0 o1 o2).any owned1 = (o0.isSome || o1.isSome || o2.isSome) := by
  cases o0 <;> cases o1 <;> cases o2 <;> rfl
@[go_sem] theorem Network.cf_take (x : Network) (o0 o1 o2 : Option Nat) : (x.cf o0 o1 o2).take 3 = x.cf o0 o1 o2 := rfl
@[go_sem] theorem Network.cf_pure (x : Network) (o0 o1 o2 : Option Nat) : pureL (x.cf o0 o1 o2) = true := by
  simp [Network.cf, pureL, AV.pure, l111_pure, l114_pure, l65_pure]
theorem Network.c_pure (x : Network) : pureL x.c = true := x.cf_pure none none none
@[go_sem] theorem Network.cf_bnd (k : Nat) (x : Network) (o0 o1 o2 : Option Nat) : bndL k (x.cf o0 o1 o2) = true := by
  simp [Network.cf, bndL, AV.bnd, l111_bnd, l114_bnd, l65_bnd]
theorem Network.c_bnd (k : Nat) (x : Network) : bndL k x.c = true := Network.cf_bnd k x none none none
@[go_sem] theorem Network.cf_at0 (x : Network) (o0 o1 o2 : Option Nat) : (x.cf o0 o1 o2)[0]? = some (.sl o0 (l111 x.nodes)) := rfl
@[go_sem] theorem Network.cf_at1 (x : Network) (o0 o1 o2 : Option Nat) : (x.cf o0 o1 o2)[1]? = some (.sl o1 (l65 x.links)) := rfl
@[go_sem] theorem Network.cf_at2 (x : Network) (o0 o1 o2 : Option Nat) : (x.cf o0 o1 o2)[2]? = some (.sl o2 (l114 x.edges)) := rfl
@[go_sem] theorem Network.cf_put_nodes (x : Network) (v : List Node) (o0 o1 o2 : Option Nat) (p : Option Nat) : splice (x.cf o0 o1 o2) 0 [.sl p (l111 v)] = ({ x with nodes := v } : Network).cf p o1 o2 := rfl
@[go_sem] theorem Network.cf_put0_nodes (x : Network) (o0 o1 o2 : Option Nat) (p : Option Nat) : splice (x.cf o0 o1 o2) 0 [.sl p []] = ({ x with nodes := [] } : Network).cf p o1 o2 := rfl
@[go_sem] theorem Network.cf_putN_nodes (x : Network) (v : List Node) (o0 o1 o2 : Option Nat) (p : Option Nat) : spliceN (x.cf o0 o1 o2) [.sl p (l111 v)] = ({ x with nodes := v } : Network).cf p o1 o2 := rfl
@[go_sem] theorem Network.cf_put_links (x : Network) (v : List Link) (o0 o1 o2 : Option Nat) (p : Option Nat) : splice (x.cf o0 o1 o2) 1 [.sl p (l65 v)] = ({ x with links := v } : Network).cf o0 p o2 := rfl
@[go_sem] theorem Network.cf_put0_links (x : Network) (o0 o1 o2 : Option Nat) (p : Option Nat) : splice (x.cf o0 o1 o2) 1 [.sl p []] = ({ x with links := [] } : Network).cf o0 p o2 := rfl
@[go_sem] theorem Network.cf_put_edges (x : Network) (v : List Edge) (o0 o1 o2 : Option Nat) (p : Option Nat) : splice (x.cf o0 o1 o2) 2 [.sl p (l114 v)] = ({ x with edges := v } : Network).cf o0 o1 p := rfl
@[go_sem] theorem Network.cf_put0_edges (x : Network) (o0 o1 o2 : Option Nat) (p : Option Nat) : splice (x.cf o0 o1 o2) 2 [.sl p []] = ({ x with edges := [] } : Network).cf o0 o1 p := rfl
def Network.z : Network := ⟨[], [], []⟩
@[go_sem] theorem Network.zero : zeroAV Try.prog 26 = some (.agg (Network.z.cf (some 4) (some 3) (some 2))) := by kernel_rfl
def Network.ok (x : Network) : Prop := (l111_ok x.nodes) ∧ (l65_ok x.links) ∧ (l114_ok x.edges)
theorem Network.rd {a : AV} (h : Rd Try.prog 26 a) : ∃ x : Network, a = .agg x.c ∧ x.ok := by
  obtain ⟨ps, rfl, hp⟩ := Rd.unpack (ts := [22, 23, 24]) (by kernel_rfl) h
  obtain ⟨a0, a1, a2, rfl, g0, g1, g2⟩ := RdAll.split3 hp
  obtain ⟨v0, rfl, k0⟩ := l111_rd g0
  obtain ⟨v1, rfl, k1⟩ := l65_rd g1
  obtain ⟨v2, rfl, k2⟩ := l114_rd g2
  exact ⟨⟨v0, v1, v2⟩, rfl, ⟨k0, k1, k2⟩⟩

@[ext] structure Step where
  kind : Int
  link : Int
  packet : Packet
  deriving DecidableEq, Inhabited

def Step.c (x : Step) : List AV := [.int .i64 x.kind, .int .i64 x.link, .int .i64 x.packet.id, .int .i64 x.packet.head.h0, .int .i64 x.packet.head.h1, .int .i64 x.packet.head.h2, .int .i64 x.packet.head.h3, .int .i64 x.packet.head.h4, .int .i64 x.packet.head.h5, .int .i64 x.packet.head.h6, .int .i64 x.packet.head.h7, .int .i64 x.packet.head.h8, .int .i64 x.packet.head.h9]
@[go_sem] theorem Step.cf_len (x : Step) : x.c.length = 13 := rfl
theorem Step.c_len (x : Step) : x.c.length = 13 := rfl
@[go_sem] theorem Step.cf_bor (x : Step) : x.c.map borrow1 = x.c := rfl
theorem Step.c_bor (x : Step) : x.c.map borrow1 = x.c := rfl
@[go_sem] theorem Step.cf_own (x : Step) : x.c.any owned1 = false := by
  rfl
@[go_sem] theorem Step.cf_take (x : Step) : x.c.take 13 = x.c := rfl
@[go_sem] theorem Step.cf_pure (x : Step) : pureL x.c = true := by
  simp [Step.c, pureL, AV.pure]
theorem Step.c_pure (x : Step) : pureL x.c = true := x.cf_pure
@[go_sem] theorem Step.cf_bnd (k : Nat) (x : Step) : bndL k x.c = true := by
  simp [Step.c, bndL, AV.bnd]
theorem Step.c_bnd (k : Nat) (x : Step) : bndL k x.c = true := Step.cf_bnd k x
@[go_sem] theorem Step.cf_at0 (x : Step) : x.c[0]? = some (.int .i64 x.kind) := rfl
@[go_sem] theorem Step.cf_at1 (x : Step) : x.c[1]? = some (.int .i64 x.link) := rfl
@[go_sem] theorem Step.cf_at2 (x : Step) : x.c[2]? = some (.int .i64 x.packet.id) := rfl
@[go_sem] theorem Step.cf_at3 (x : Step) : x.c[3]? = some (.int .i64 x.packet.head.h0) := rfl
@[go_sem] theorem Step.cf_at4 (x : Step) : x.c[4]? = some (.int .i64 x.packet.head.h1) := rfl
@[go_sem] theorem Step.cf_at5 (x : Step) : x.c[5]? = some (.int .i64 x.packet.head.h2) := rfl
@[go_sem] theorem Step.cf_at6 (x : Step) : x.c[6]? = some (.int .i64 x.packet.head.h3) := rfl
@[go_sem] theorem Step.cf_at7 (x : Step) : x.c[7]? = some (.int .i64 x.packet.head.h4) := rfl
@[go_sem] theorem Step.cf_at8 (x : Step) : x.c[8]? = some (.int .i64 x.packet.head.h5) := rfl
@[go_sem] theorem Step.cf_at9 (x : Step) : x.c[9]? = some (.int .i64 x.packet.head.h6) := rfl
@[go_sem] theorem Step.cf_at10 (x : Step) : x.c[10]? = some (.int .i64 x.packet.head.h7) := rfl
@[go_sem] theorem Step.cf_at11 (x : Step) : x.c[11]? = some (.int .i64 x.packet.head.h8) := rfl
@[go_sem] theorem Step.cf_at12 (x : Step) : x.c[12]? = some (.int .i64 x.packet.head.h9) := rfl
@[go_sem] theorem Step.cf_put_kind (x : Step) (v : Int) : splice x.c 0 [.int .i64 v] = ({ x with kind := v } : Step).c := rfl
@[go_sem] theorem Step.cf_putN_kind (x : Step) (v : Int) : spliceN x.c [.int .i64 v] = ({ x with kind := v } : Step).c := rfl
@[go_sem] theorem Step.cf_put_link (x : Step) (v : Int) : splice x.c 1 [.int .i64 v] = ({ x with link := v } : Step).c := rfl
@[go_sem] theorem Step.cf_part_packet (x : Step) : (x.c.drop 2).take 11 = x.packet.c := rfl
@[go_sem] theorem Step.cf_put_packet (x : Step) (v : Packet) : splice x.c 2 v.c = ({ x with packet := v } : Step).c := rfl
@[go_sem] theorem Step.cf_put_packet_id (x : Step) (v : Int) : splice x.c 2 [.int .i64 v] = ({ x with packet := { x.packet with id := v } } : Step).c := rfl
@[go_sem] theorem Step.cf_part_packet_head (x : Step) : (x.c.drop 3).take 10 = x.packet.head.c := rfl
@[go_sem] theorem Step.cf_put_packet_head (x : Step) (v : Head) : splice x.c 3 v.c = ({ x with packet := { x.packet with head := v } } : Step).c := rfl
@[go_sem] theorem Step.cf_put_packet_head_h0 (x : Step) (v : Int) : splice x.c 3 [.int .i64 v] = ({ x with packet := { x.packet with head := { x.packet.head with h0 := v } } } : Step).c := rfl
@[go_sem] theorem Step.cf_put_packet_head_h1 (x : Step) (v : Int) : splice x.c 4 [.int .i64 v] = ({ x with packet := { x.packet with head := { x.packet.head with h1 := v } } } : Step).c := rfl
@[go_sem] theorem Step.cf_put_packet_head_h2 (x : Step) (v : Int) : splice x.c 5 [.int .i64 v] = ({ x with packet := { x.packet with head := { x.packet.head with h2 := v } } } : Step).c := rfl
@[go_sem] theorem Step.cf_put_packet_head_h3 (x : Step) (v : Int) : splice x.c 6 [.int .i64 v] = ({ x with packet := { x.packet with head := { x.packet.head with h3 := v } } } : Step).c := rfl
@[go_sem] theorem Step.cf_put_packet_head_h4 (x : Step) (v : Int) : splice x.c 7 [.int .i64 v] = ({ x with packet := { x.packet with head := { x.packet.head with h4 := v } } } : Step).c := rfl
@[go_sem] theorem Step.cf_put_packet_head_h5 (x : Step) (v : Int) : splice x.c 8 [.int .i64 v] = ({ x with packet := { x.packet with head := { x.packet.head with h5 := v } } } : Step).c := rfl
@[go_sem] theorem Step.cf_put_packet_head_h6 (x : Step) (v : Int) : splice x.c 9 [.int .i64 v] = ({ x with packet := { x.packet with head := { x.packet.head with h6 := v } } } : Step).c := rfl
@[go_sem] theorem Step.cf_put_packet_head_h7 (x : Step) (v : Int) : splice x.c 10 [.int .i64 v] = ({ x with packet := { x.packet with head := { x.packet.head with h7 := v } } } : Step).c := rfl
@[go_sem] theorem Step.cf_put_packet_head_h8 (x : Step) (v : Int) : splice x.c 11 [.int .i64 v] = ({ x with packet := { x.packet with head := { x.packet.head with h8 := v } } } : Step).c := rfl
@[go_sem] theorem Step.cf_put_packet_head_h9 (x : Step) (v : Int) : splice x.c 12 [.int .i64 v] = ({ x with packet := { x.packet with head := { x.packet.head with h9 := v } } } : Step).c := rfl
def Step.z : Step := ⟨0, 0, ⟨0, ⟨0, 0, 0, 0, 0, 0, 0, 0, 0, 0⟩⟩⟩
@[go_sem] theorem Step.zero : zeroAV Try.prog 47 = some (.agg Step.z.c) := by kernel_rfl
def Step.ok (x : Step) : Prop := (IntKind.i64.min ≤ x.kind ∧ x.kind ≤ IntKind.i64.max) ∧ (IntKind.i64.min ≤ x.link ∧ x.link ≤ IntKind.i64.max) ∧ (x.packet.ok)
theorem Step.rd {a : AV} (h : Rd Try.prog 47 a) : ∃ x : Step, a = .agg x.c ∧ x.ok := by
  obtain ⟨ps, rfl, hp⟩ := Rd.unpack (ts := [3, 3, 45]) (by kernel_rfl) h
  obtain ⟨a0, a1, a2, rfl, g0, g1, g2⟩ := RdAll.split3 hp
  obtain ⟨v0, rfl, k0⟩ := Rd.int_of (t := 3) (k := .i64) (by kernel_rfl) g0
  obtain ⟨v1, rfl, k1⟩ := Rd.int_of (t := 3) (k := .i64) (by kernel_rfl) g1
  obtain ⟨v2, rfl, k2⟩ := Packet.rd g2
  exact ⟨⟨v0, v1, v2⟩, rfl, ⟨k0, k1, k2⟩⟩

def l3 (l : List Int) : List AV := l.map fun x => .int .i64 x
@[go_sem] theorem l3_len (l : List Int) : (l3 l).length = l.length := by simp [l3]
theorem l3_get {l : List Int} {i : Nat} {x : Int} (h : l[i]? = some x) : (l3 l)[i]? = some (.int .i64 x) := by simp [l3, h]
theorem l3_cells (l : List Int) : ∀ x ∈ l3 l, x.cells.length = 1 := by
  intro x hx; obtain ⟨y, _, rfl⟩ := List.mem_map.1 hx; rfl
@[go_sem] theorem l3_cells' (l : List Int) : (∀ x ∈ l3 l, x.cells.length = 1) = True := eq_true (l3_cells l)
theorem l3_append (a b : List Int) : l3 (a ++ b) = l3 a ++ l3 b := by simp [l3]
theorem l3_take (l : List Int) (k : Nat) : l3 (l.take k) = (l3 l).take k := by simp [l3]
theorem l3_drop (l : List Int) (k : Nat) : l3 (l.drop k) = (l3 l).drop k := by simp [l3]
@[go_sem] theorem l3_nil : l3 [] = [] := rfl
@[go_sem] theorem l3_takeF (l : List Int) (k : Nat) : (l3 l).take k = l3 (l.take k) := by simp [l3]
@[go_sem] theorem l3_dropF (l : List Int) (k : Nat) : (l3 l).drop k = l3 (l.drop k) := by simp [l3]
@[go_sem] theorem l3_app (a b : List Int) : l3 a ++ l3 b = l3 (a ++ b) := by simp [l3]
@[go_sem] theorem l3_snoc (a : List Int) (x : Int) : l3 a ++ [.int .i64 x] = l3 (a ++ [x]) := by simp [l3]
@[go_sem] theorem l3_pure (l : List Int) : pureL (l3 l) = true := by
  induction l with
  | nil => rfl
  | cons x xs ih => simpa [l3, pureL, AV.pure] using ih
@[go_sem] theorem l3_bnd (k : Nat) (l : List Int) : bndL k (l3 l) = true := bndL_map fun x => rfl
def l3_ok (l : List Int) : Prop := l.length * 8 ≤ reachBytes ∧ ∀ x ∈ l, IntKind.i64.min ≤ x ∧ x ≤ IntKind.i64.max
theorem l3_rd {a : AV} (h : Rd Try.prog 27 a) : ∃ l, a = .sl none (l3 l) ∧ l3_ok l := by
  obtain ⟨l, h1, h2, h3⟩ := Rd.list (f := fun (x : Int) => .int .i64 x) (ok := fun (x : Int) => IntKind.i64.min ≤ x ∧ x ≤ IntKind.i64.max) (P := Try.prog) (t := 27) (e := 3) (by kernel_rfl) (fun x hx => Rd.int_of (t := 3) (k := .i64) (by kernel_rfl) hx) h
  exact ⟨l, h1, by rw [show Try.prog.bytesOf 3 = 8 by kernel_rfl] at h2; exact h2, h3⟩

def l47 (l : List Step) : List AV := l.map fun x => .agg x.c
@[go_sem] theorem l47_len (l : List Step) : (l47 l).length = l.length := by simp [l47]
theorem l47_get {l : List Step} {i : Nat} {x : Step} (h : l[i]? = some x) : (l47 l)[i]? = some (.agg x.c) := by simp [l47, h]
theorem l47_cells (l : List Step) : ∀ x ∈ l47 l, x.cells.length = 13 := by
  intro x hx; obtain ⟨y, _, rfl⟩ := List.mem_map.1 hx; rfl
@[go_sem] theorem l47_cells' (l : List Step) : (∀ x ∈ l47 l, x.cells.length = 13) = True := eq_true (l47_cells l)
theorem l47_append (a b : List Step) : l47 (a ++ b) = l47 a ++ l47 b := by simp [l47]
theorem l47_take (l : List Step) (k : Nat) : l47 (l.take k) = (l47 l).take k := by simp [l47]
theorem l47_drop (l : List Step) (k : Nat) : l47 (l.drop k) = (l47 l).drop k := by simp [l47]
@[go_sem] theorem l47_nil : l47 [] = [] := rfl
@[go_sem] theorem l47_takeF (l : List Step) (k : Nat) : (l47 l).take k = l47 (l.take k) := by simp [l47]
@[go_sem] theorem l47_dropF (l : List Step) (k : Nat) : (l47 l).drop k = l47 (l.drop k) := by simp [l47]
@[go_sem] theorem l47_app (a b : List Step) : l47 a ++ l47 b = l47 (a ++ b) := by simp [l47]
@[go_sem] theorem l47_snoc (a : List Step) (x : Step) : l47 a ++ [.agg x.c] = l47 (a ++ [x]) := by simp [l47]
theorem l47_cat (l : List Step) : cat (l47 l) = l.flatMap Step.c := by simp [l47, cat, List.flatMap_map]; rfl
@[go_sem] theorem l47_pure (l : List Step) : pureL (l47 l) = true := by
  induction l with
  | nil => rfl
  | cons x xs ih => simpa [l47, pureL, AV.pure] using ⟨Step.c_pure x, ih⟩
@[go_sem] theorem l47_bnd (k : Nat) (l : List Step) : bndL k (l47 l) = true := bndL_map fun x => Step.c_bnd k x
theorem l47_bor (l : List Step) : (l.flatMap Step.c).map borrow1 = l.flatMap Step.c := by
  simp only [List.map_flatMap, Step.c_bor]
def l47_ok (l : List Step) : Prop := l.length * 104 ≤ reachBytes ∧ ∀ x ∈ l, x.ok
theorem l47_rd {a : AV} (h : Rd Try.prog 28 a) : ∃ l, a = .sl none (l47 l) ∧ l47_ok l := by
  obtain ⟨l, h1, h2, h3⟩ := Rd.list (f := fun (x : Step) => .agg x.c) (ok := fun (x : Step) => x.ok) (P := Try.prog) (t := 28) (e := 47) (by kernel_rfl) (fun x hx => Step.rd hx) h
  exact ⟨l, h1, by rw [show Try.prog.bytesOf 47 = 104 by kernel_rfl] at h2; exact h2, h3⟩

@[ext] structure Case where
  n : Network
  delays : List Int
  length : Int
  l : List Step
  deriving DecidableEq, Inhabited

def Case.cf (x : Case) (o0 o1 o2 o3 o4 : Option Nat) : List AV := [.sl o0 (l111 x.n.nodes), .sl o1 (l65 x.n.links), .sl o2 (l114 x.n.edges), .sl o3 (l3 x.delays), .int .i64 x.length, .sl o4 (l47 x.l)]
abbrev Case.c (x : Case) : List AV := x.cf none none none none none
abbrev Case.co (x : Case) : List AV := x.cf (some 4) (some 3) (some 2) (some 1) (some 13)
@[go_sem] theorem Case.cf_len (x : Case) (o0 o1 o2 o3 o4 : Option Nat) : (x.cf o0 o1 o2 o3 o4).length = 6 := rfl
theorem Case.c_len (x : Case) : x.c.length = 6 := rfl
@[go_sem] theorem Case.cf_bor (x : Case) (o0 o1 o2 o3 o4 : Option Nat) : (x.cf o0 o1 o2 o3 o4).map borrow1 = x.cf none none none none none := rfl
theorem Case.c_bor (x : Case) : x.c.map borrow1 = x.c := rfl
@[go_sem] theorem Case.cf_own (x : Case) (o0 o1 o2 o3 o4 : Option Nat) : (x.cf o0 o1 o2 o3 o4).any owned1 = (o0.isSome || o1.isSome || o2.isSome || o3.isSome || o4.isSome) := by
  cases o0 <;> cases o1 <;> cases o2 <;> cases o3 <;> cases o4 <;> rfl
@[go_sem] theorem Case.cf_take (x : Case) (o0 o1 o2 o3 o4 : Option Nat) : (x.cf o0 o1 o2 o3 o4).take 6 = x.cf o0 o1 o2 o3 o4 := rfl
@[go_sem] theorem Case.cf_pure (x : Case) (o0 o1 o2 o3 o4 : Option Nat) : pureL (x.cf o0 o1 o2 o3 o4) = true := by
  simp [Case.cf, pureL, AV.pure, l111_pure, l114_pure, l3_pure, l47_pure, l65_pure]
theorem Case.c_pure (x : Case) : pureL x.c = true := x.cf_pure none none none none none
@[go_sem] theorem Case.cf_bnd (k : Nat) (x : Case) (o0 o1 o2 o3 o4 : Option Nat) : bndL k (x.cf o0 o1 o2 o3 o4) = true := by
  simp [Case.cf, bndL, AV.bnd, l111_bnd, l114_bnd, l3_bnd, l47_bnd, l65_bnd]
theorem Case.c_bnd (k : Nat) (x : Case) : bndL k x.c = true := Case.cf_bnd k x none none none none none
@[go_sem] theorem Case.cf_at0 (x : Case) (o0 o1 o2 o3 o4 : Option Nat) : (x.cf o0 o1 o2 o3 o4)[0]? = some (.sl o0 (l111 x.n.nodes)) := rfl
@[go_sem] theorem Case.cf_at1 (x : Case) (o0 o1 o2 o3 o4 : Option Nat) : (x.cf o0 o1 o2 o3 o4)[1]? = some (.sl o1 (l65 x.n.links)) := rfl
@[go_sem] theorem Case.cf_at2 (x : Case) (o0 o1 o2 o3 o4 : Option Nat) : (x.cf o0 o1 o2 o3 o4)[2]? = some (.sl o2 (l114 x.n.edges)) := rfl
@[go_sem] theorem Case.cf_at3 (x : Case) (o0 o1 o2 o3 o4 : Option Nat) : (x.cf o0 o1 o2 o3 o4)[3]? = some (.sl o3 (l3 x.delays)) := rfl
@[go_sem] theorem Case.cf_at4 (x : Case) (o0 o1 o2 o3 o4 : Option Nat) : (x.cf o0 o1 o2 o3 o4)[4]? = some (.int .i64 x.length) := rfl
@[go_sem] theorem Case.cf_at5 (x : Case) (o0 o1 o2 o3 o4 : Option Nat) : (x.cf o0 o1 o2 o3 o4)[5]? = some (.sl o4 (l47 x.l)) := rfl
@[go_sem] theorem Case.cf_part_n (x : Case) (o0 o1 o2 o3 o4 : Option Nat) : (x.cf o0 o1 o2 o3 o4).take 3 = x.n.cf o0 o1 o2 := rfl
@[go_sem] theorem Case.cf_put_n (x : Case) (v : Network) (o0 o1 o2 o3 o4 : Option Nat) (p0 p1 p2 : Option Nat) : splice (x.cf o0 o1 o2 o3 o4) 0 (v.cf p0 p1 p2) = ({ x with n := v } : Case).cf p0 p1 p2 o3 o4 := rfl
@[go_sem] theorem Case.cf_putN_n (x : Case) (v : Network) (o0 o1 o2 o3 o4 : Option Nat) (p0 p1 p2 : Option Nat) : spliceN (x.cf o0 o1 o2 o3 o4) (v.cf p0 p1 p2) = ({ x with n := v } : Case).cf p0 p1 p2 o3 o4 := rfl
@[go_sem] theorem Case.cf_put_n_nodes (x : Case) (v : List Node) (o0 o1 o2 o3 o4 : Option Nat) (p : Option Nat) : splice (x.cf o0 o1 o2 o3 o4) 0 [.sl p (l111 v)] = ({ x with n := { x.n with nodes := v } } : Case).cf p o1 o2 o3 o4 := rfl
@[go_sem] theorem Case.cf_put0_n_nodes (x : Case) (o0 o1 o2 o3 o4 : Option Nat) (p : Option Nat) : splice (x.cf o0 o1 o2 o3 o4) 0 [.sl p []] = ({ x with n := { x.n with nodes := [] } } : Case).cf p o1 o2 o3 o4 := rfl
@[go_sem] theorem Case.cf_putN_n_nodes (x : Case) (v : List Node) (o0 o1 o2 o3 o4 : Option Nat) (p : Option Nat) : spliceN (x.cf o0 o1 o2 o3 o4) [.sl p (l111 v)] = ({ x with n := { x.n with nodes := v } } : Case).cf p o1 o2 o3 o4 := rfl
@[go_sem] theorem Case.cf_put_n_links (x : Case) (v : List Link) (o0 o1 o2 o3 o4 : Option Nat) (p : Option Nat) : splice (x.cf o0 o1 o2 o3 o4) 1 [.sl p (l65 v)] = ({ x with n := { x.n with links := v } } : Case).cf o0 p o2 o3 o4 := rfl
@[go_sem] theorem Case.cf_put0_n_links (x : Case) (o0 o1 o2 o3 o4 : Option Nat) (p : Option Nat) : splice (x.cf o0 o1 o2 o3 o4) 1 [.sl p []] = ({ x with n := { x.n with links := [] } } : Case).cf o0 p o2 o3 o4 := rfl
@[go_sem] theorem Case.cf_put_n_edges (x : Case) (v : List Edge) (o0 o1 o2 o3 o4 : Option Nat) (p : Option Nat) : splice (x.cf o0 o1 o2 o3 o4) 2 [.sl p (l114 v)] = ({ x with n := { x.n with edges := v } } : Case).cf o0 o1 p o3 o4 := rfl
@[go_sem] theorem Case.cf_put0_n_edges (x : Case) (o0 o1 o2 o3 o4 : Option Nat) (p : Option Nat) : splice (x.cf o0 o1 o2 o3 o4) 2 [.sl p []] = ({ x with n := { x.n with edges := [] } } : Case).cf o0 o1 p o3 o4 := rfl
@[go_sem] theorem Case.cf_put_delays (x : Case) (v : List Int) (o0 o1 o2 o3 o4 : Option Nat) (p : Option Nat) : splice (x.cf o0 o1 o2 o3 o4) 3 [.sl p (l3 v)] = ({ x with delays := v } : Case).cf o0 o1 o2 p o4 := rfl
@[go_sem] theorem Case.cf_put0_delays (x : Case) (o0 o1 o2 o3 o4 : Option Nat) (p : Option Nat) : splice (x.cf o0 o1 o2 o3 o4) 3 [.sl p []] = ({ x with delays := [] } : Case).cf o0 o1 o2 p o4 := rfl
@[go_sem] theorem Case.cf_put_length (x : Case) (v : Int) (o0 o1 o2 o3 o4 : Option Nat) : splice (x.cf o0 o1 o2 o3 o4) 4 [.int .i64 v] = ({ x with length := v } : Case).cf o0 o1 o2 o3 o4 := rfl
@[go_sem] theorem Case.cf_put_l (x : Case) (v : List Step) (o0 o1 o2 o3 o4 : Option Nat) (p : Option Nat) : splice (x.cf o0 o1 o2 o3 o4) 5 [.sl p (l47 v)] = ({ x with l := v } : Case).cf o0 o1 o2 o3 p := rfl
@[go_sem] theorem Case.cf_put0_l (x : Case) (o0 o1 o2 o3 o4 : Option Nat) (p : Option Nat) : splice (x.cf o0 o1 o2 o3 o4) 5 [.sl p []] = ({ x with l := [] } : Case).cf o0 o1 o2 o3 p := rfl
def Case.z : Case := ⟨⟨[], [], []⟩, [], 0, []⟩
@[go_sem] theorem Case.zero : zeroAV Try.prog 30 = some (.agg (Case.z.cf (some 4) (some 3) (some 2) (some 1) (some 13))) := by kernel_rfl
def Case.ok (x : Case) : Prop := (x.n.ok) ∧ (l3_ok x.delays) ∧ (IntKind.i64.min ≤ x.length ∧ x.length ≤ IntKind.i64.max) ∧ (l47_ok x.l)
theorem Case.rd {a : AV} (h : Rd Try.prog 30 a) : ∃ x : Case, a = .agg x.c ∧ x.ok := by
  obtain ⟨ps, rfl, hp⟩ := Rd.unpack (ts := [26, 27, 3, 28]) (by kernel_rfl) h
  obtain ⟨a0, a1, a2, a3, rfl, g0, g1, g2, g3⟩ := RdAll.split4 hp
  obtain ⟨v0, rfl, k0⟩ := Network.rd g0
  obtain ⟨v1, rfl, k1⟩ := l3_rd g1
  obtain ⟨v2, rfl, k2⟩ := Rd.int_of (t := 3) (k := .i64) (by kernel_rfl) g2
  obtain ⟨v3, rfl, k3⟩ := l47_rd g3
  exact ⟨⟨v0, v1, v2, v3⟩, rfl, ⟨k0, k1, k2, k3⟩⟩

@[ext] structure Flight where
  at_ : Int
  packet : Packet
  deriving DecidableEq, Inhabited

def Flight.c (x : Flight) : List AV := [.int .i64 x.at_, .int .i64 x.packet.id, .int .i64 x.packet.head.h0, .int .i64 x.packet.head.h1, .int .i64 x.packet.head.h2, .int .i64 x.packet.head.h3, .int .i64 x.packet.head.h4, .int .i64 x.packet.head.h5, .int .i64 x.packet.head.h6, .int .i64 x.packet.head.h7, .int .i64 x.packet.head.h8, .int .i64 x.packet.head.h9]
@[go_sem] theorem Flight.cf_len (x : Flight) : x.c.length = 12 := rfl
theorem Flight.c_len (x : Flight) : x.c.length = 12 := rfl
@[go_sem] theorem Flight.cf_bor (x : Flight) : x.c.map borrow1 = x.c := rfl
theorem Flight.c_bor (x : Flight) : x.c.map borrow1 = x.c := rfl
@[go_sem] theorem Flight.cf_own (x : Flight) : x.c.any owned1 = false := by
  rfl
@[go_sem] theorem Flight.cf_take (x : Flight) : x.c.take 12 = x.c := rfl
@[go_sem] theorem Flight.cf_pure (x : Flight) : pureL x.c = true := by
  simp [Flight.c, pureL, AV.pure]
theorem Flight.c_pure (x : Flight) : pureL x.c = true := x.cf_pure
@[go_sem] theorem Flight.cf_bnd (k : Nat) (x : Flight) : bndL k x.c = true := by
  simp [Flight.c, bndL, AV.bnd]
theorem Flight.c_bnd (k : Nat) (x : Flight) : bndL k x.c = true := Flight.cf_bnd k x
@[go_sem] theorem Flight.cf_at0 (x : Flight) : x.c[0]? = some (.int .i64 x.at_) := rfl
@[go_sem] theorem Flight.cf_at1 (x : Flight) : x.c[1]? = some (.int .i64 x.packet.id) := rfl
@[go_sem] theorem Flight.cf_at2 (x : Flight) : x.c[2]? = some (.int .i64 x.packet.head.h0) := rfl
@[go_sem] theorem Flight.cf_at3 (x : Flight) : x.c[3]? = some (.int .i64 x.packet.head.h1) := rfl
@[go_sem] theorem Flight.cf_at4 (x : Flight) : x.c[4]? = some (.int .i64 x.packet.head.h2) := rfl
@[go_sem] theorem Flight.cf_at5 (x : Flight) : x.c[5]? = some (.int .i64 x.packet.head.h3) := rfl
@[go_sem] theorem Flight.cf_at6 (x : Flight) : x.c[6]? = some (.int .i64 x.packet.head.h4) := rfl
@[go_sem] theorem Flight.cf_at7 (x : Flight) : x.c[7]? = some (.int .i64 x.packet.head.h5) := rfl
@[go_sem] theorem Flight.cf_at8 (x : Flight) : x.c[8]? = some (.int .i64 x.packet.head.h6) := rfl
@[go_sem] theorem Flight.cf_at9 (x : Flight) : x.c[9]? = some (.int .i64 x.packet.head.h7) := rfl
@[go_sem] theorem Flight.cf_at10 (x : Flight) : x.c[10]? = some (.int .i64 x.packet.head.h8) := rfl
@[go_sem] theorem Flight.cf_at11 (x : Flight) : x.c[11]? = some (.int .i64 x.packet.head.h9) := rfl
@[go_sem] theorem Flight.cf_put_at_ (x : Flight) (v : Int) : splice x.c 0 [.int .i64 v] = ({ x with at_ := v } : Flight).c := rfl
@[go_sem] theorem Flight.cf_putN_at_ (x : Flight) (v : Int) : spliceN x.c [.int .i64 v] = ({ x with at_ := v } : Flight).c := rfl
@[go_sem] theorem Flight.cf_part_packet (x : Flight) : (x.c.drop 1).take 11 = x.packet.c := rfl
@[go_sem] theorem Flight.cf_put_packet (x : Flight) (v : Packet) : splice x.c 1 v.c = ({ x with packet := v } : Flight).c := rfl
@[go_sem] theorem Flight.cf_put_packet_id (x : Flight) (v : Int) : splice x.c 1 [.int .i64 v] = ({ x with packet := { x.packet with id := v } } : Flight).c := rfl
@[go_sem] theorem Flight.cf_part_packet_head (x : Flight) : (x.c.drop 2).take 10 = x.packet.head.c := rfl
@[go_sem] theorem Flight.cf_put_packet_head (x : Flight) (v : Head) : splice x.c 2 v.c = ({ x with packet := { x.packet with head := v } } : Flight).c := rfl
@[go_sem] theorem Flight.cf_put_packet_head_h0 (x : Flight) (v : Int) : splice x.c 2 [.int .i64 v] = ({ x with packet := { x.packet with head := { x.packet.head with h0 := v } } } : Flight).c := rfl
@[go_sem] theorem Flight.cf_put_packet_head_h1 (x : Flight) (v : Int) : splice x.c 3 [.int .i64 v] = ({ x with packet := { x.packet with head := { x.packet.head with h1 := v } } } : Flight).c := rfl
@[go_sem] theorem Flight.cf_put_packet_head_h2 (x : Flight) (v : Int) : splice x.c 4 [.int .i64 v] = ({ x with packet := { x.packet with head := { x.packet.head with h2 := v } } } : Flight).c := rfl
@[go_sem] theorem Flight.cf_put_packet_head_h3 (x : Flight) (v : Int) : splice x.c 5 [.int .i64 v] = ({ x with packet := { x.packet with head := { x.packet.head with h3 := v } } } : Flight).c := rfl
@[go_sem] theorem Flight.cf_put_packet_head_h4 (x : Flight) (v : Int) : splice x.c 6 [.int .i64 v] = ({ x with packet := { x.packet with head := { x.packet.head with h4 := v } } } : Flight).c := rfl
@[go_sem] theorem Flight.cf_put_packet_head_h5 (x : Flight) (v : Int) : splice x.c 7 [.int .i64 v] = ({ x with packet := { x.packet with head := { x.packet.head with h5 := v } } } : Flight).c := rfl
@[go_sem] theorem Flight.cf_put_packet_head_h6 (x : Flight) (v : Int) : splice x.c 8 [.int .i64 v] = ({ x with packet := { x.packet with head := { x.packet.head with h6 := v } } } : Flight).c := rfl
@[go_sem] theorem Flight.cf_put_packet_head_h7 (x : Flight) (v : Int) : splice x.c 9 [.int .i64 v] = ({ x with packet := { x.packet with head := { x.packet.head with h7 := v } } } : Flight).c := rfl
@[go_sem] theorem Flight.cf_put_packet_head_h8 (x : Flight) (v : Int) : splice x.c 10 [.int .i64 v] = ({ x with packet := { x.packet with head := { x.packet.head with h8 := v } } } : Flight).c := rfl
@[go_sem] theorem Flight.cf_put_packet_head_h9 (x : Flight) (v : Int) : splice x.c 11 [.int .i64 v] = ({ x with packet := { x.packet with head := { x.packet.head with h9 := v } } } : Flight).c := rfl
def Flight.z : Flight := ⟨0, ⟨0, ⟨0, 0, 0, 0, 0, 0, 0, 0, 0, 0⟩⟩⟩
@[go_sem] theorem Flight.zero : zeroAV Try.prog 121 = some (.agg Flight.z.c) := by kernel_rfl
def Flight.ok (x : Flight) : Prop := (IntKind.i64.min ≤ x.at_ ∧ x.at_ ≤ IntKind.i64.max) ∧ (x.packet.ok)
theorem Flight.rd {a : AV} (h : Rd Try.prog 121 a) : ∃ x : Flight, a = .agg x.c ∧ x.ok := by
  obtain ⟨ps, rfl, hp⟩ := Rd.unpack (ts := [3, 45]) (by kernel_rfl) h
  obtain ⟨a0, a1, rfl, g0, g1⟩ := RdAll.split2 hp
  obtain ⟨v0, rfl, k0⟩ := Rd.int_of (t := 3) (k := .i64) (by kernel_rfl) g0
  obtain ⟨v1, rfl, k1⟩ := Packet.rd g1
  exact ⟨⟨v0, v1⟩, rfl, ⟨k0, k1⟩⟩

def l45 (l : List Packet) : List AV := l.map fun x => .agg x.c
@[go_sem] theorem l45_len (l : List Packet) : (l45 l).length = l.length := by simp [l45]
theorem l45_get {l : List Packet} {i : Nat} {x : Packet} (h : l[i]? = some x) : (l45 l)[i]? = some (.agg x.c) := by simp [l45, h]
theorem l45_cells (l : List Packet) : ∀ x ∈ l45 l, x.cells.length = 11 := by
  intro x hx; obtain ⟨y, _, rfl⟩ := List.mem_map.1 hx; rfl
@[go_sem] theorem l45_cells' (l : List Packet) : (∀ x ∈ l45 l, x.cells.length = 11) = True := eq_true (l45_cells l)
theorem l45_append (a b : List Packet) : l45 (a ++ b) = l45 a ++ l45 b := by simp [l45]
theorem l45_take (l : List Packet) (k : Nat) : l45 (l.take k) = (l45 l).take k := by simp [l45]
theorem l45_drop (l : List Packet) (k : Nat) : l45 (l.drop k) = (l45 l).drop k := by simp [l45]
@[go_sem] theorem l45_nil : l45 [] = [] := rfl
@[go_sem] theorem l45_takeF (l : List Packet) (k : Nat) : (l45 l).take k = l45 (l.take k) := by simp [l45]
@[go_sem] theorem l45_dropF (l : List Packet) (k : Nat) : (l45 l).drop k = l45 (l.drop k) := by simp [l45]
@[go_sem] theorem l45_app (a b : List Packet) : l45 a ++ l45 b = l45 (a ++ b) := by simp [l45]
@[go_sem] theorem l45_snoc (a : List Packet) (x : Packet) : l45 a ++ [.agg x.c] = l45 (a ++ [x]) := by simp [l45]
theorem l45_cat (l : List Packet) : cat (l45 l) = l.flatMap Packet.c := by simp [l45, cat, List.flatMap_map]; rfl
@[go_sem] theorem l45_pure (l : List Packet) : pureL (l45 l) = true := by
  induction l with
  | nil => rfl
  | cons x xs ih => simpa [l45, pureL, AV.pure] using ⟨Packet.c_pure x, ih⟩
@[go_sem] theorem l45_bnd (k : Nat) (l : List Packet) : bndL k (l45 l) = true := bndL_map fun x => Packet.c_bnd k x
theorem l45_bor (l : List Packet) : (l.flatMap Packet.c).map borrow1 = l.flatMap Packet.c := by
  simp only [List.map_flatMap, Packet.c_bor]
def l45_ok (l : List Packet) : Prop := l.length * 88 ≤ reachBytes ∧ ∀ x ∈ l, x.ok
theorem l45_rd {a : AV} (h : Rd Try.prog 62 a) : ∃ l, a = .sl none (l45 l) ∧ l45_ok l := by
  obtain ⟨l, h1, h2, h3⟩ := Rd.list (f := fun (x : Packet) => .agg x.c) (ok := fun (x : Packet) => x.ok) (P := Try.prog) (t := 62) (e := 45) (by kernel_rfl) (fun x hx => Packet.rd hx) h
  exact ⟨l, h1, by rw [show Try.prog.bytesOf 45 = 88 by kernel_rfl] at h2; exact h2, h3⟩

def l121 (l : List Flight) : List AV := l.map fun x => .agg x.c
@[go_sem] theorem l121_len (l : List Flight) : (l121 l).length = l.length := by simp [l121]
theorem l121_get {l : List Flight} {i : Nat} {x : Flight} (h : l[i]? = some x) : (l121 l)[i]? = some (.agg x.c) := by simp [l121, h]
theorem l121_cells (l : List Flight) : ∀ x ∈ l121 l, x.cells.length = 12 := by
  intro x hx; obtain ⟨y, _, rfl⟩ := List.mem_map.1 hx; rfl
@[go_sem] theorem l121_cells' (l : List Flight) : (∀ x ∈ l121 l, x.cells.length = 12) = True := eq_true (l121_cells l)
theorem l121_append (a b : List Flight) : l121 (a ++ b) = l121 a ++ l121 b := by simp [l121]
theorem l121_take (l : List Flight) (k : Nat) : l121 (l.take k) = (l121 l).take k := by simp [l121]
theorem l121_drop (l : List Flight) (k : Nat) : l121 (l.drop k) = (l121 l).drop k := by simp [l121]
@[go_sem] theorem l121_nil : l121 [] = [] := rfl
@[go_sem] theorem l121_takeF (l : List Flight) (k : Nat) : (l121 l).take k = l121 (l.take k) := by simp [l121]
@[go_sem] theorem l121_dropF (l : List Flight) (k : Nat) : (l121 l).drop k = l121 (l.drop k) := by simp [l121]
@[go_sem] theorem l121_app (a b : List Flight) : l121 a ++ l121 b = l121 (a ++ b) := by simp [l121]
@[go_sem] theorem l121_snoc (a : List Flight) (x : Flight) : l121 a ++ [.agg x.c] = l121 (a ++ [x]) := by simp [l121]
theorem l121_cat (l : List Flight) : cat (l121 l) = l.flatMap Flight.c := by simp [l121, cat, List.flatMap_map]; rfl
@[go_sem] theorem l121_pure (l : List Flight) : pureL (l121 l) = true := by
  induction l with
  | nil => rfl
  | cons x xs ih => simpa [l121, pureL, AV.pure] using ⟨Flight.c_pure x, ih⟩
@[go_sem] theorem l121_bnd (k : Nat) (l : List Flight) : bndL k (l121 l) = true := bndL_map fun x => Flight.c_bnd k x
theorem l121_bor (l : List Flight) : (l.flatMap Flight.c).map borrow1 = l.flatMap Flight.c := by
  simp only [List.map_flatMap, Flight.c_bor]
def l121_ok (l : List Flight) : Prop := l.length * 96 ≤ reachBytes ∧ ∀ x ∈ l, x.ok
theorem l121_rd {a : AV} (h : Rd Try.prog 88 a) : ∃ l, a = .sl none (l121 l) ∧ l121_ok l := by
  obtain ⟨l, h1, h2, h3⟩ := Rd.list (f := fun (x : Flight) => .agg x.c) (ok := fun (x : Flight) => x.ok) (P := Try.prog) (t := 88) (e := 121) (by kernel_rfl) (fun x hx => Flight.rd hx) h
  exact ⟨l, h1, by rw [show Try.prog.bytesOf 121 = 96 by kernel_rfl] at h2; exact h2, h3⟩

@[ext] structure RLine where
  up : Bool
  meter : Meter
  waiting : List Packet
  flights : List Flight
  deriving DecidableEq, Inhabited

def RLine.cf (x : RLine) (o0 o1 : Option Nat) : List AV := [.bool x.up, .int .i64 x.meter.in_, .int .i64 x.meter.out, .int .i64 x.meter.full, .int .i64 x.meter.down, .int .i64 x.meter.lost, .sl o0 (l45 x.waiting), .sl o1 (l121 x.flights)]
abbrev RLine.c (x : RLine) : List AV := x.cf none none
abbrev RLine.co (x : RLine) : List AV := x.cf (some 11) (some 12)
@[go_sem] theorem RLine.cf_len (x : RLine) (o0 o1 : Option Nat) : (x.cf o0 o1).length = 8 := rfl
theorem RLine.c_len (x : RLine) : x.c.length = 8 := rfl
@[go_sem] theorem RLine.cf_bor (x : RLine) (o0 o1 : Option Nat) : (x.cf o0 o1).map borrow1 = x.cf none none := rfl
theorem RLine.c_bor (x : RLine) : x.c.map borrow1 = x.c := rfl
@[go_sem] theorem RLine.cf_own (x : RLine) (o0 o1 : Option Nat) : (x.cf o0 o1).any owned1 = (o0.isSome || o1.isSome) := by
  cases o0 <;> cases o1 <;> rfl
@[go_sem] theorem RLine.cf_take (x : RLine) (o0 o1 : Option Nat) : (x.cf o0 o1).take 8 = x.cf o0 o1 := rfl
@[go_sem] theorem RLine.cf_pure (x : RLine) (o0 o1 : Option Nat) : pureL (x.cf o0 o1) = true := by
  simp [RLine.cf, pureL, AV.pure, l121_pure, l45_pure]
theorem RLine.c_pure (x : RLine) : pureL x.c = true := x.cf_pure none none
@[go_sem] theorem RLine.cf_bnd (k : Nat) (x : RLine) (o0 o1 : Option Nat) : bndL k (x.cf o0 o1) = true := by
  simp [RLine.cf, bndL, AV.bnd, l121_bnd, l45_bnd]
theorem RLine.c_bnd (k : Nat) (x : RLine) : bndL k x.c = true := RLine.cf_bnd k x none none
@[go_sem] theorem RLine.cf_at0 (x : RLine) (o0 o1 : Option Nat) : (x.cf o0 o1)[0]? = some (.bool x.up) := rfl
@[go_sem] theorem RLine.cf_at1 (x : RLine) (o0 o1 : Option Nat) : (x.cf o0 o1)[1]? = some (.int .i64 x.meter.in_) := rfl
@[go_sem] theorem RLine.cf_at2 (x : RLine) (o0 o1 : Option Nat) : (x.cf o0 o1)[2]? = some (.int .i64 x.meter.out) := rfl
@[go_sem] theorem RLine.cf_at3 (x : RLine) (o0 o1 : Option Nat) : (x.cf o0 o1)[3]? = some (.int .i64 x.meter.full) := rfl
@[go_sem] theorem RLine.cf_at4 (x : RLine) (o0 o1 : Option Nat) : (x.cf o0 o1)[4]? = some (.int .i64 x.meter.down) := rfl
@[go_sem] theorem RLine.cf_at5 (x : RLine) (o0 o1 : Option Nat) : (x.cf o0 o1)[5]? = some (.int .i64 x.meter.lost) := rfl
@[go_sem] theorem RLine.cf_at6 (x : RLine) (o0 o1 : Option Nat) : (x.cf o0 o1)[6]? = some (.sl o0 (l45 x.waiting)) := rfl
@[go_sem] theorem RLine.cf_at7 (x : RLine) (o0 o1 : Option Nat) : (x.cf o0 o1)[7]? = some (.sl o1 (l121 x.flights)) := rfl
@[go_sem] theorem RLine.cf_put_up (x : RLine) (v : Bool) (o0 o1 : Option Nat) : splice (x.cf o0 o1) 0 [.bool v] = ({ x with up := v } : RLine).cf o0 o1 := rfl
@[go_sem] theorem RLine.cf_putN_up (x : RLine) (v : Bool) (o0 o1 : Option Nat) : spliceN (x.cf o0 o1) [.bool v] = ({ x with up := v } : RLine).cf o0 o1 := rfl
@[go_sem] theorem RLine.cf_part_meter (x : RLine) (o0 o1 : Option Nat) : ((x.cf o0 o1).drop 1).take 5 = x.meter.c := rfl
@[go_sem] theorem RLine.cf_put_meter (x : RLine) (v : Meter) (o0 o1 : Option Nat) : splice (x.cf o0 o1) 1 v.c = ({ x with meter := v } : RLine).cf o0 o1 := rfl
@[go_sem] theorem RLine.cf_put_meter_in_ (x : RLine) (v : Int) (o0 o1 : Option Nat) : splice (x.cf o0 o1) 1 [.int .i64 v] = ({ x with meter := { x.meter with in_ := v } } : RLine).cf o0 o1 := rfl
@[go_sem] theorem RLine.cf_put_meter_out (x : RLine) (v : Int) (o0 o1 : Option Nat) : splice (x.cf o0 o1) 2 [.int .i64 v] = ({ x with meter := { x.meter with out := v } } : RLine).cf o0 o1 := rfl
@[go_sem] theorem RLine.cf_put_meter_full (x : RLine) (v : Int) (o0 o1 : Option Nat) : splice (x.cf o0 o1) 3 [.int .i64 v] = ({ x with meter := { x.meter with full := v } } : RLine).cf o0 o1 := rfl
@[go_sem] theorem RLine.cf_put_meter_down (x : RLine) (v : Int) (o0 o1 : Option Nat) : splice (x.cf o0 o1) 4 [.int .i64 v] = ({ x with meter := { x.meter with down := v } } : RLine).cf o0 o1 := rfl
@[go_sem] theorem RLine.cf_put_meter_lost (x : RLine) (v : Int) (o0 o1 : Option Nat) : splice (x.cf o0 o1) 5 [.int .i64 v] = ({ x with meter := { x.meter with lost := v } } : RLine).cf o0 o1 := rfl
@[go_sem] theorem RLine.cf_put_waiting (x : RLine) (v : List Packet) (o0 o1 : Option Nat) (p : Option Nat) : splice (x.cf o0 o1) 6 [.sl p (l45 v)] = ({ x with waiting := v } : RLine).cf p o1 := rfl
@[go_sem] theorem RLine.cf_put0_waiting (x : RLine) (o0 o1 : Option Nat) (p : Option Nat) : splice (x.cf o0 o1) 6 [.sl p []] = ({ x with waiting := [] } : RLine).cf p o1 := rfl
@[go_sem] theorem RLine.cf_put_flights (x : RLine) (v : List Flight) (o0 o1 : Option Nat) (p : Option Nat) : splice (x.cf o0 o1) 7 [.sl p (l121 v)] = ({ x with flights := v } : RLine).cf o0 p := rfl
@[go_sem] theorem RLine.cf_put0_flights (x : RLine) (o0 o1 : Option Nat) (p : Option Nat) : splice (x.cf o0 o1) 7 [.sl p []] = ({ x with flights := [] } : RLine).cf o0 p := rfl
def RLine.z : RLine := ⟨false, ⟨0, 0, 0, 0, 0⟩, [], []⟩
@[go_sem] theorem RLine.zero : zeroAV Try.prog 90 = some (.agg (RLine.z.cf (some 11) (some 12))) := by kernel_rfl
def RLine.ok (x : RLine) : Prop := (True) ∧ (x.meter.ok) ∧ (l45_ok x.waiting) ∧ (l121_ok x.flights)
theorem RLine.rd {a : AV} (h : Rd Try.prog 90 a) : ∃ x : RLine, a = .agg x.c ∧ x.ok := by
  obtain ⟨ps, rfl, hp⟩ := Rd.unpack (ts := [4, 59, 62, 88]) (by kernel_rfl) h
  obtain ⟨a0, a1, a2, a3, rfl, g0, g1, g2, g3⟩ := RdAll.split4 hp
  obtain ⟨v0, rfl, k0⟩ := Rd.bool_of (t := 4) (by kernel_rfl) g0
  obtain ⟨v1, rfl, k1⟩ := Meter.rd g1
  obtain ⟨v2, rfl, k2⟩ := l45_rd g2
  obtain ⟨v3, rfl, k3⟩ := l121_rd g3
  exact ⟨⟨v0, v1, v2, v3⟩, rfl, ⟨k0, k1, k2, k3⟩⟩

def l90 (l : List RLine) : List AV := l.map fun x => .agg x.c
@[go_sem] theorem l90_len (l : List RLine) : (l90 l).length = l.length := by simp [l90]
theorem l90_get {l : List RLine} {i : Nat} {x : RLine} (h : l[i]? = some x) : (l90 l)[i]? = some (.agg x.c) := by simp [l90, h]
theorem l90_cells (l : List RLine) : ∀ x ∈ l90 l, x.cells.length = 8 := by
  intro x hx; obtain ⟨y, _, rfl⟩ := List.mem_map.1 hx; rfl
@[go_sem] theorem l90_cells' (l : List RLine) : (∀ x ∈ l90 l, x.cells.length = 8) = True := eq_true (l90_cells l)
theorem l90_append (a b : List RLine) : l90 (a ++ b) = l90 a ++ l90 b := by simp [l90]
theorem l90_take (l : List RLine) (k : Nat) : l90 (l.take k) = (l90 l).take k := by simp [l90]
theorem l90_drop (l : List RLine) (k : Nat) : l90 (l.drop k) = (l90 l).drop k := by simp [l90]
@[go_sem] theorem l90_nil : l90 [] = [] := rfl
@[go_sem] theorem l90_takeF (l : List RLine) (k : Nat) : (l90 l).take k = l90 (l.take k) := by simp [l90]
@[go_sem] theorem l90_dropF (l : List RLine) (k : Nat) : (l90 l).drop k = l90 (l.drop k) := by simp [l90]
@[go_sem] theorem l90_app (a b : List RLine) : l90 a ++ l90 b = l90 (a ++ b) := by simp [l90]
@[go_sem] theorem l90_snoc (a : List RLine) (x : RLine) : l90 a ++ [.agg x.c] = l90 (a ++ [x]) := by simp [l90]
theorem l90_cat (l : List RLine) : cat (l90 l) = l.flatMap RLine.c := by simp [l90, cat, List.flatMap_map]; rfl
@[go_sem] theorem l90_pure (l : List RLine) : pureL (l90 l) = true := by
  induction l with
  | nil => rfl
  | cons x xs ih => simpa [l90, pureL, AV.pure] using ⟨RLine.c_pure x, ih⟩
@[go_sem] theorem l90_bnd (k : Nat) (l : List RLine) : bndL k (l90 l) = true := bndL_map fun x => RLine.c_bnd k x
theorem l90_bor (l : List RLine) : (l.flatMap RLine.c).map borrow1 = l.flatMap RLine.c := by
  simp only [List.map_flatMap, RLine.c_bor]
def l90_ok (l : List RLine) : Prop := l.length * 96 ≤ reachBytes ∧ ∀ x ∈ l, x.ok
theorem l90_rd {a : AV} (h : Rd Try.prog 37 a) : ∃ l, a = .sl none (l90 l) ∧ l90_ok l := by
  obtain ⟨l, h1, h2, h3⟩ := Rd.list (f := fun (x : RLine) => .agg x.c) (ok := fun (x : RLine) => x.ok) (P := Try.prog) (t := 37) (e := 90) (by kernel_rfl) (fun x hx => RLine.rd hx) h
  exact ⟨l, h1, by rw [show Try.prog.bytesOf 90 = 96 by kernel_rfl] at h2; exact h2, h3⟩

@[ext] structure RQ where
  n : Network
  delays : List Int
  length : Int
  time : Int
  l : List RLine
  deriving DecidableEq, Inhabited

def RQ.cf (x : RQ) (o0 o1 o2 o3 o4 : Option Nat) : List AV := [.sl o0 (l111 x.n.nodes), .sl o1 (l65 x.n.links), .sl o2 (l114 x.n.edges), .sl o3 (l3 x.delays), .int .i64 x.length, .int .i64 x.time, .sl o4 (l90 x.l)]
abbrev RQ.c (x : RQ) : List AV := x.cf none none none none none
abbrev RQ.co (x : RQ) : List AV := x.cf (some 4) (some 3) (some 2) (some 1) (some 8)
@[go_sem] theorem RQ.cf_len (x : RQ) (o0 o1 o2 o3 o4 : Option Nat) : (x.cf o0 o1 o2 o3 o4).length = 7 := rfl
theorem RQ.c_len (x : RQ) : x.c.length = 7 := rfl
@[go_sem] theorem RQ.cf_bor (x : RQ) (o0 o1 o2 o3 o4 : Option Nat) : (x.cf o0 o1 o2 o3 o4).map borrow1 = x.cf none none none none none := rfl
theorem RQ.c_bor (x : RQ) : x.c.map borrow1 = x.c := rfl
@[go_sem] theorem RQ.cf_own (x : RQ) (o0 o1 o2 o3 o4 : Option Nat) : (x.cf o0 o1 o2 o3 o4).any owned1 = (o0.isSome || o1.isSome || o2.isSome || o3.isSome || o4.isSome) := by
  cases o0 <;> cases o1 <;> cases o2 <;> cases o3 <;> cases o4 <;> rfl
@[go_sem] theorem RQ.cf_take (x : RQ) (o0 o1 o2 o3 o4 : Option Nat) : (x.cf o0 o1 o2 o3 o4).take 7 = x.cf o0 o1 o2 o3 o4 := rfl
@[go_sem] theorem RQ.cf_pure (x : RQ) (o0 o1 o2 o3 o4 : Option Nat) : pureL (x.cf o0 o1 o2 o3 o4) = true := by
  simp [RQ.cf, pureL, AV.pure, l111_pure, l114_pure, l3_pure, l65_pure, l90_pure]
theorem RQ.c_pure (x : RQ) : pureL x.c = true := x.cf_pure none none none none none
@[go_sem] theorem RQ.cf_bnd (k : Nat) (x : RQ) (o0 o1 o2 o3 o4 : Option Nat) : bndL k (x.cf o0 o1 o2 o3 o4) = true := by
  simp [RQ.cf, bndL, AV.bnd, l111_bnd, l114_bnd, l3_bnd, l65_bnd, l90_bnd]
theorem RQ.c_bnd (k : Nat) (x : RQ) : bndL k x.c = true := RQ.cf_bnd k x none none none none none
@[go_sem] theorem RQ.cf_at0 (x : RQ) (o0 o1 o2 o3 o4 : Option Nat) : (x.cf o0 o1 o2 o3 o4)[0]? = some (.sl o0 (l111 x.n.nodes)) := rfl
@[go_sem] theorem RQ.cf_at1 (x : RQ) (o0 o1 o2 o3 o4 : Option Nat) : (x.cf o0 o1 o2 o3 o4)[1]? = some (.sl o1 (l65 x.n.links)) := rfl
@[go_sem] theorem RQ.cf_at2 (x : RQ) (o0 o1 o2 o3 o4 : Option Nat) : (x.cf o0 o1 o2 o3 o4)[2]? = some (.sl o2 (l114 x.n.edges)) := rfl
@[go_sem] theorem RQ.cf_at3 (x : RQ) (o0 o1 o2 o3 o4 : Option Nat) : (x.cf o0 o1 o2 o3 o4)[3]? = some (.sl o3 (l3 x.delays)) := rfl
@[go_sem] theorem RQ.cf_at4 (x : RQ) (o0 o1 o2 o3 o4 : Option Nat) : (x.cf o0 o1 o2 o3 o4)[4]? = some (.int .i64 x.length) := rfl
@[go_sem] theorem RQ.cf_at5 (x : RQ) (o0 o1 o2 o3 o4 : Option Nat) : (x.cf o0 o1 o2 o3 o4)[5]? = some (.int .i64 x.time) := rfl
@[go_sem] theorem RQ.cf_at6 (x : RQ) (o0 o1 o2 o3 o4 : Option Nat) : (x.cf o0 o1 o2 o3 o4)[6]? = some (.sl o4 (l90 x.l)) := rfl
@[go_sem] theorem RQ.cf_part_n (x : RQ) (o0 o1 o2 o3 o4 : Option Nat) : (x.cf o0 o1 o2 o3 o4).take 3 = x.n.cf o0 o1 o2 := rfl
@[go_sem] theorem RQ.cf_put_n (x : RQ) (v : Network) (o0 o1 o2 o3 o4 : Option Nat) (p0 p1 p2 : Option Nat) : splice (x.cf o0 o1 o2 o3 o4) 0 (v.cf p0 p1 p2) = ({ x with n := v } : RQ).cf p0 p1 p2 o3 o4 := rfl
@[go_sem] theorem RQ.cf_putN_n (x : RQ) (v : Network) (o0 o1 o2 o3 o4 : Option Nat) (p0 p1 p2 : Option Nat) : spliceN (x.cf o0 o1 o2 o3 o4) (v.cf p0 p1 p2) = ({ x with n := v } : RQ).cf p0 p1 p2 o3 o4 := rfl
@[go_sem] theorem RQ.cf_put_n_nodes (x : RQ) (v : List Node) (o0 o1 o2 o3 o4 : Option Nat) (p : Option Nat) : splice (x.cf o0 o1 o2 o3 o4) 0 [.sl p (l111 v)] = ({ x with n := { x.n with nodes := v } } : RQ).cf p o1 o2 o3 o4 := rfl
@[go_sem] theorem RQ.cf_put0_n_nodes (x : RQ) (o0 o1 o2 o3 o4 : Option Nat) (p : Option Nat) : splice (x.cf o0 o1 o2 o3 o4) 0 [.sl p []] = ({ x with n := { x.n with nodes := [] } } : RQ).cf p o1 o2 o3 o4 := rfl
@[go_sem] theorem RQ.cf_putN_n_nodes (x : RQ) (v : List Node) (o0 o1 o2 o3 o4 : Option Nat) (p : Option Nat) : spliceN (x.cf o0 o1 o2 o3 o4) [.sl p (l111 v)] = ({ x with n := { x.n with nodes := v } } : RQ).cf p o1 o2 o3 o4 := rfl
@[go_sem] theorem RQ.cf_put_n_links (x : RQ) (v : List Link) (o0 o1 o2 o3 o4 : Option Nat) (p : Option Nat) : splice (x.cf o0 o1 o2 o3 o4) 1 [.sl p (l65 v)] = ({ x with n := { x.n with links := v } } : RQ).cf o0 p o2 o3 o4 := rfl
@[go_sem] theorem RQ.cf_put0_n_links (x : RQ) (o0 o1 o2 o3 o4 : Option Nat) (p : Option Nat) : splice (x.cf o0 o1 o2 o3 o4) 1 [.sl p []] = ({ x with n := { x.n with links := [] } } : RQ).cf o0 p o2 o3 o4 := rfl
@[go_sem] theorem RQ.cf_put_n_edges (x : RQ) (v : List Edge) (o0 o1 o2 o3 o4 : Option Nat) (p : Option Nat) : splice (x.cf o0 o1 o2 o3 o4) 2 [.sl p (l114 v)] = ({ x with n := { x.n with edges := v } } : RQ).cf o0 o1 p o3 o4 := rfl
@[go_sem] theorem RQ.cf_put0_n_edges (x : RQ) (o0 o1 o2 o3 o4 : Option Nat) (p : Option Nat) : splice (x.cf o0 o1 o2 o3 o4) 2 [.sl p []] = ({ x with n := { x.n with edges := [] } } : RQ).cf o0 o1 p o3 o4 := rfl
@[go_sem] theorem RQ.cf_put_delays (x : RQ) (v : List Int) (o0 o1 o2 o3 o4 : Option Nat) (p : Option Nat) : splice (x.cf o0 o1 o2 o3 o4) 3 [.sl p (l3 v)] = ({ x with delays := v } : RQ).cf o0 o1 o2 p o4 := rfl
@[go_sem] theorem RQ.cf_put0_delays (x : RQ) (o0 o1 o2 o3 o4 : Option Nat) (p : Option Nat) : splice (x.cf o0 o1 o2 o3 o4) 3 [.sl p []] = ({ x with delays := [] } : RQ).cf o0 o1 o2 p o4 := rfl
@[go_sem] theorem RQ.cf_put_length (x : RQ) (v : Int) (o0 o1 o2 o3 o4 : Option Nat) : splice (x.cf o0 o1 o2 o3 o4) 4 [.int .i64 v] = ({ x with length := v } : RQ).cf o0 o1 o2 o3 o4 := rfl
@[go_sem] theorem RQ.cf_put_time (x : RQ) (v : Int) (o0 o1 o2 o3 o4 : Option Nat) : splice (x.cf o0 o1 o2 o3 o4) 5 [.int .i64 v] = ({ x with time := v } : RQ).cf o0 o1 o2 o3 o4 := rfl
@[go_sem] theorem RQ.cf_put_l (x : RQ) (v : List RLine) (o0 o1 o2 o3 o4 : Option Nat) (p : Option Nat) : splice (x.cf o0 o1 o2 o3 o4) 6 [.sl p (l90 v)] = ({ x with l := v } : RQ).cf o0 o1 o2 o3 p := rfl
@[go_sem] theorem RQ.cf_put0_l (x : RQ) (o0 o1 o2 o3 o4 : Option Nat) (p : Option Nat) : splice (x.cf o0 o1 o2 o3 o4) 6 [.sl p []] = ({ x with l := [] } : RQ).cf o0 o1 o2 o3 p := rfl
def RQ.z : RQ := ⟨⟨[], [], []⟩, [], 0, 0, []⟩
@[go_sem] theorem RQ.zero : zeroAV Try.prog 39 = some (.agg (RQ.z.cf (some 4) (some 3) (some 2) (some 1) (some 8))) := by kernel_rfl
def RQ.ok (x : RQ) : Prop := (x.n.ok) ∧ (l3_ok x.delays) ∧ (IntKind.i64.min ≤ x.length ∧ x.length ≤ IntKind.i64.max) ∧ (IntKind.i64.min ≤ x.time ∧ x.time ≤ IntKind.i64.max) ∧ (l90_ok x.l)
theorem RQ.rd {a : AV} (h : Rd Try.prog 39 a) : ∃ x : RQ, a = .agg x.c ∧ x.ok := by
  obtain ⟨ps, rfl, hp⟩ := Rd.unpack (ts := [26, 27, 3, 3, 37]) (by kernel_rfl) h
  obtain ⟨a0, a1, a2, a3, a4, rfl, g0, g1, g2, g3, g4⟩ := RdAll.split5 hp
  obtain ⟨v0, rfl, k0⟩ := Network.rd g0
  obtain ⟨v1, rfl, k1⟩ := l3_rd g1
  obtain ⟨v2, rfl, k2⟩ := Rd.int_of (t := 3) (k := .i64) (by kernel_rfl) g2
  obtain ⟨v3, rfl, k3⟩ := Rd.int_of (t := 3) (k := .i64) (by kernel_rfl) g3
  obtain ⟨v4, rfl, k4⟩ := l90_rd g4
  exact ⟨⟨v0, v1, v2, v3, v4⟩, rfl, ⟨k0, k1, k2, k3, k4⟩⟩

@[ext] structure Cnts where
  meter : Meter
  deriving DecidableEq, Inhabited

def Cnts.c (x : Cnts) : List AV := [.int .i64 x.meter.in_, .int .i64 x.meter.out, .int .i64 x.meter.full, .int .i64 x.meter.down, .int .i64 x.meter.lost]
@[go_sem] theorem Cnts.cf_len (x : Cnts) : x.c.length = 5 := rfl
theorem Cnts.c_len (x : Cnts) : x.c.length = 5 := rfl
@[go_sem] theorem Cnts.cf_bor (x : Cnts) : x.c.map borrow1 = x.c := rfl
theorem Cnts.c_bor (x : Cnts) : x.c.map borrow1 = x.c := rfl
@[go_sem] theorem Cnts.cf_own (x : Cnts) : x.c.any owned1 = false := by
  rfl
@[go_sem] theorem Cnts.cf_take (x : Cnts) : x.c.take 5 = x.c := rfl
@[go_sem] theorem Cnts.cf_pure (x : Cnts) : pureL x.c = true := by
  simp [Cnts.c, pureL, AV.pure]
theorem Cnts.c_pure (x : Cnts) : pureL x.c = true := x.cf_pure
@[go_sem] theorem Cnts.cf_bnd (k : Nat) (x : Cnts) : bndL k x.c = true := by
  simp [Cnts.c, bndL, AV.bnd]
theorem Cnts.c_bnd (k : Nat) (x : Cnts) : bndL k x.c = true := Cnts.cf_bnd k x
@[go_sem] theorem Cnts.cf_at0 (x : Cnts) : x.c[0]? = some (.int .i64 x.meter.in_) := rfl
@[go_sem] theorem Cnts.cf_at1 (x : Cnts) : x.c[1]? = some (.int .i64 x.meter.out) := rfl
@[go_sem] theorem Cnts.cf_at2 (x : Cnts) : x.c[2]? = some (.int .i64 x.meter.full) := rfl
@[go_sem] theorem Cnts.cf_at3 (x : Cnts) : x.c[3]? = some (.int .i64 x.meter.down) := rfl
@[go_sem] theorem Cnts.cf_at4 (x : Cnts) : x.c[4]? = some (.int .i64 x.meter.lost) := rfl
@[go_sem] theorem Cnts.cf_put_meter (x : Cnts) (v : Meter) : splice x.c 0 v.c = ({ x with meter := v } : Cnts).c := rfl
@[go_sem] theorem Cnts.cf_put_meter_in_ (x : Cnts) (v : Int) : splice x.c 0 [.int .i64 v] = ({ x with meter := { x.meter with in_ := v } } : Cnts).c := rfl
@[go_sem] theorem Cnts.cf_putN_meter_in_ (x : Cnts) (v : Int) : spliceN x.c [.int .i64 v] = ({ x with meter := { x.meter with in_ := v } } : Cnts).c := rfl
@[go_sem] theorem Cnts.cf_put_meter_out (x : Cnts) (v : Int) : splice x.c 1 [.int .i64 v] = ({ x with meter := { x.meter with out := v } } : Cnts).c := rfl
@[go_sem] theorem Cnts.cf_put_meter_full (x : Cnts) (v : Int) : splice x.c 2 [.int .i64 v] = ({ x with meter := { x.meter with full := v } } : Cnts).c := rfl
@[go_sem] theorem Cnts.cf_put_meter_down (x : Cnts) (v : Int) : splice x.c 3 [.int .i64 v] = ({ x with meter := { x.meter with down := v } } : Cnts).c := rfl
@[go_sem] theorem Cnts.cf_put_meter_lost (x : Cnts) (v : Int) : splice x.c 4 [.int .i64 v] = ({ x with meter := { x.meter with lost := v } } : Cnts).c := rfl
def Cnts.z : Cnts := ⟨⟨0, 0, 0, 0, 0⟩⟩
@[go_sem] theorem Cnts.zero : zeroAV Try.prog 84 = some (.agg Cnts.z.c) := by kernel_rfl
def Cnts.ok (x : Cnts) : Prop := (x.meter.ok)
theorem Cnts.rd {a : AV} (h : Rd Try.prog 84 a) : ∃ x : Cnts, a = .agg x.c ∧ x.ok := by
  obtain ⟨ps, rfl, hp⟩ := Rd.unpack (ts := [59]) (by kernel_rfl) h
  obtain ⟨a0, rfl, g0⟩ := RdAll.split1 hp
  obtain ⟨v0, rfl, k0⟩ := Meter.rd g0
  exact ⟨⟨v0⟩, rfl, k0⟩

@[ext] structure Ln where
  counts : Cnts
  down : Bool
  capacity : Int
  delay : Int
  packets : List Packet
  due : List Int
  deriving DecidableEq, Inhabited

def Ln.cf (x : Ln) (o0 o1 : Option Nat) : List AV := [.int .i64 x.counts.meter.in_, .int .i64 x.counts.meter.out, .int .i64 x.counts.meter.full, .int .i64 x.counts.meter.down, .int .i64 x.counts.meter.lost, .bool x.down, .int .i64 x.capacity, .int .i64 x.delay, .sl o0 (l45 x.packets), .sl o1 (l3 x.due)]
abbrev Ln.c (x : Ln) : List AV := x.cf none none
abbrev Ln.co (x : Ln) : List AV := x.cf (some 11) (some 1)
@[go_sem] theorem Ln.cf_len (x : Ln) (o0 o1 : Option Nat) : (x.cf o0 o1).length = 10 := rfl
theorem Ln.c_len (x : Ln) : x.c.length = 10 := rfl
@[go_sem] theorem Ln.cf_bor (x : Ln) (o0 o1 : Option Nat) : (x.cf o0 o1).map borrow1 = x.cf none none := rfl
theorem Ln.c_bor (x : Ln) : x.c.map borrow1 = x.c := rfl
@[go_sem] theorem Ln.cf_own (x : Ln) (o0 o1 : Option Nat) : (x.cf o0 o1).any owned1 = (o0.isSome || o1.isSome) := by
  cases o0 <;> cases o1 <;> rfl
@[go_sem] theorem Ln.cf_take (x : Ln) (o0 o1 : Option Nat) : (x.cf o0 o1).take 10 = x.cf o0 o1 := rfl
@[go_sem] theorem Ln.cf_pure (x : Ln) (o0 o1 : Option Nat) : pureL (x.cf o0 o1) = true := by
  simp [Ln.cf, pureL, AV.pure, l3_pure, l45_pure]
theorem Ln.c_pure (x : Ln) : pureL x.c = true := x.cf_pure none none
@[go_sem] theorem Ln.cf_bnd (k : Nat) (x : Ln) (o0 o1 : Option Nat) : bndL k (x.cf o0 o1) = true := by
  simp [Ln.cf, bndL, AV.bnd, l3_bnd, l45_bnd]
theorem Ln.c_bnd (k : Nat) (x : Ln) : bndL k x.c = true := Ln.cf_bnd k x none none
@[go_sem] theorem Ln.cf_at0 (x : Ln) (o0 o1 : Option Nat) : (x.cf o0 o1)[0]? = some (.int .i64 x.counts.meter.in_) := rfl
@[go_sem] theorem Ln.cf_at1 (x : Ln) (o0 o1 : Option Nat) : (x.cf o0 o1)[1]? = some (.int .i64 x.counts.meter.out) := rfl
@[go_sem] theorem Ln.cf_at2 (x : Ln) (o0 o1 : Option Nat) : (x.cf o0 o1)[2]? = some (.int .i64 x.counts.meter.full) := rfl
@[go_sem] theorem Ln.cf_at3 (x : Ln) (o0 o1 : Option Nat) : (x.cf o0 o1)[3]? = some (.int .i64 x.counts.meter.down) := rfl
@[go_sem] theorem Ln.cf_at4 (x : Ln) (o0 o1 : Option Nat) : (x.cf o0 o1)[4]? = some (.int .i64 x.counts.meter.lost) := rfl
@[go_sem] theorem Ln.cf_at5 (x : Ln) (o0 o1 : Option Nat) : (x.cf o0 o1)[5]? = some (.bool x.down) := rfl
@[go_sem] theorem Ln.cf_at6 (x : Ln) (o0 o1 : Option Nat) : (x.cf o0 o1)[6]? = some (.int .i64 x.capacity) := rfl
@[go_sem] theorem Ln.cf_at7 (x : Ln) (o0 o1 : Option Nat) : (x.cf o0 o1)[7]? = some (.int .i64 x.delay) := rfl
@[go_sem] theorem Ln.cf_at8 (x : Ln) (o0 o1 : Option Nat) : (x.cf o0 o1)[8]? = some (.sl o0 (l45 x.packets)) := rfl
@[go_sem] theorem Ln.cf_at9 (x : Ln) (o0 o1 : Option Nat) : (x.cf o0 o1)[9]? = some (.sl o1 (l3 x.due)) := rfl
@[go_sem] theorem Ln.cf_part_counts (x : Ln) (o0 o1 : Option Nat) : (x.cf o0 o1).take 5 = x.counts.c := rfl
@[go_sem] theorem Ln.cf_put_counts (x : Ln) (v : Cnts) (o0 o1 : Option Nat) : splice (x.cf o0 o1) 0 v.c = ({ x with counts := v } : Ln).cf o0 o1 := rfl
@[go_sem] theorem Ln.cf_putN_counts (x : Ln) (v : Cnts) (o0 o1 : Option Nat) : spliceN (x.cf o0 o1) v.c = ({ x with counts := v } : Ln).cf o0 o1 := rfl
@[go_sem] theorem Ln.cf_part_counts_meter (x : Ln) (o0 o1 : Option Nat) : (x.cf o0 o1).take 5 = x.counts.meter.c := rfl
@[go_sem] theorem Ln.cf_put_counts_meter (x : Ln) (v : Meter) (o0 o1 : Option Nat) : splice (x.cf o0 o1) 0 v.c = ({ x with counts := { x.counts with meter := v } } : Ln).cf o0 o1 := rfl
@[go_sem] theorem Ln.cf_putN_counts_meter (x : Ln) (v : Meter) (o0 o1 : Option Nat) : spliceN (x.cf o0 o1) v.c = ({ x with counts := { x.counts with meter := v } } : Ln).cf o0 o1 := rfl
@[go_sem] theorem Ln.cf_put_counts_meter_in_ (x : Ln) (v : Int) (o0 o1 : Option Nat) : splice (x.cf o0 o1) 0 [.int .i64 v] = ({ x with counts := { x.counts with meter := { x.counts.meter with in_ := v } } } : Ln).cf o0 o1 := rfl
@[go_sem] theorem Ln.cf_putN_counts_meter_in_ (x : Ln) (v : Int) (o0 o1 : Option Nat) : spliceN (x.cf o0 o1) [.int .i64 v] = ({ x with counts := { x.counts with meter := { x.counts.meter with in_ := v } } } : Ln).cf o0 o1 := rfl
@[go_sem] theorem Ln.cf_put_counts_meter_out (x : Ln) (v : Int) (o0 o1 : Option Nat) : splice (x.cf o0 o1) 1 [.int .i64 v] = ({ x with counts := { x.counts with meter := { x.counts.meter with out := v } } } : Ln).cf o0 o1 := rfl
@[go_sem] theorem Ln.cf_put_counts_meter_full (x : Ln) (v : Int) (o0 o1 : Option Nat) : splice (x.cf o0 o1) 2 [.int .i64 v] = ({ x with counts := { x.counts with meter := { x.counts.meter with full := v } } } : Ln).cf o0 o1 := rfl
@[go_sem] theorem Ln.cf_put_counts_meter_down (x : Ln) (v : Int) (o0 o1 : Option Nat) : splice (x.cf o0 o1) 3 [.int .i64 v] = ({ x with counts := { x.counts with meter := { x.counts.meter with down := v } } } : Ln).cf o0 o1 := rfl
@[go_sem] theorem Ln.cf_put_counts_meter_lost (x : Ln) (v : Int) (o0 o1 : Option Nat) : splice (x.cf o0 o1) 4 [.int .i64 v] = ({ x with counts := { x.counts with meter := { x.counts.meter with lost := v } } } : Ln).cf o0 o1 := rfl
@[go_sem] theorem Ln.cf_put_down (x : Ln) (v : Bool) (o0 o1 : Option Nat) : splice (x.cf o0 o1) 5 [.bool v] = ({ x with down := v } : Ln).cf o0 o1 := rfl
@[go_sem] theorem Ln.cf_put_capacity (x : Ln) (v : Int) (o0 o1 : Option Nat) : splice (x.cf o0 o1) 6 [.int .i64 v] = ({ x with capacity := v } : Ln).cf o0 o1 := rfl
@[go_sem] theorem Ln.cf_put_delay (x : Ln) (v : Int) (o0 o1 : Option Nat) : splice (x.cf o0 o1) 7 [.int .i64 v] = ({ x with delay := v } : Ln).cf o0 o1 := rfl
@[go_sem] theorem Ln.cf_put_packets (x : Ln) (v : List Packet) (o0 o1 : Option Nat) (p : Option Nat) : splice (x.cf o0 o1) 8 [.sl p (l45 v)] = ({ x with packets := v } : Ln).cf p o1 := rfl
@[go_sem] theorem Ln.cf_put0_packets (x : Ln) (o0 o1 : Option Nat) (p : Option Nat) : splice (x.cf o0 o1) 8 [.sl p []] = ({ x with packets := [] } : Ln).cf p o1 := rfl
@[go_sem] theorem Ln.cf_put_due (x : Ln) (v : List Int) (o0 o1 : Option Nat) (p : Option Nat) : splice (x.cf o0 o1) 9 [.sl p (l3 v)] = ({ x with due := v } : Ln).cf o0 p := rfl
@[go_sem] theorem Ln.cf_put0_due (x : Ln) (o0 o1 : Option Nat) (p : Option Nat) : splice (x.cf o0 o1) 9 [.sl p []] = ({ x with due := [] } : Ln).cf o0 p := rfl
def Ln.z : Ln := ⟨⟨⟨0, 0, 0, 0, 0⟩⟩, false, 0, 0, [], []⟩
@[go_sem] theorem Ln.zero : zeroAV Try.prog 86 = some (.agg (Ln.z.cf (some 11) (some 1))) := by kernel_rfl
def Ln.ok (x : Ln) : Prop := (x.counts.ok) ∧ (True) ∧ (IntKind.i64.min ≤ x.capacity ∧ x.capacity ≤ IntKind.i64.max) ∧ (IntKind.i64.min ≤ x.delay ∧ x.delay ≤ IntKind.i64.max) ∧ (l45_ok x.packets) ∧ (l3_ok x.due)
theorem Ln.rd {a : AV} (h : Rd Try.prog 86 a) : ∃ x : Ln, a = .agg x.c ∧ x.ok := by
  obtain ⟨ps, rfl, hp⟩ := Rd.unpack (ts := [84, 4, 3, 3, 62, 27]) (by kernel_rfl) h
  obtain ⟨a0, a1, a2, a3, a4, a5, rfl, g0, g1, g2, g3, g4, g5⟩ := RdAll.split6 hp
  obtain ⟨v0, rfl, k0⟩ := Cnts.rd g0
  obtain ⟨v1, rfl, k1⟩ := Rd.bool_of (t := 4) (by kernel_rfl) g1
  obtain ⟨v2, rfl, k2⟩ := Rd.int_of (t := 3) (k := .i64) (by kernel_rfl) g2
  obtain ⟨v3, rfl, k3⟩ := Rd.int_of (t := 3) (k := .i64) (by kernel_rfl) g3
  obtain ⟨v4, rfl, k4⟩ := l45_rd g4
  obtain ⟨v5, rfl, k5⟩ := l3_rd g5
  exact ⟨⟨v0, v1, v2, v3, v4, v5⟩, rfl, ⟨k0, k1, k2, k3, k4, k5⟩⟩

def l57 (l : List Passed) : List AV := l.map fun x => .agg x.c
@[go_sem] theorem l57_len (l : List Passed) : (l57 l).length = l.length := by simp [l57]
theorem l57_get {l : List Passed} {i : Nat} {x : Passed} (h : l[i]? = some x) : (l57 l)[i]? = some (.agg x.c) := by simp [l57, h]
theorem l57_cells (l : List Passed) : ∀ x ∈ l57 l, x.cells.length = 12 := by
  intro x hx; obtain ⟨y, _, rfl⟩ := List.mem_map.1 hx; rfl
@[go_sem] theorem l57_cells' (l : List Passed) : (∀ x ∈ l57 l, x.cells.length = 12) = True := eq_true (l57_cells l)
theorem l57_append (a b : List Passed) : l57 (a ++ b) = l57 a ++ l57 b := by simp [l57]
theorem l57_take (l : List Passed) (k : Nat) : l57 (l.take k) = (l57 l).take k := by simp [l57]
theorem l57_drop (l : List Passed) (k : Nat) : l57 (l.drop k) = (l57 l).drop k := by simp [l57]
@[go_sem] theorem l57_nil : l57 [] = [] := rfl
@[go_sem] theorem l57_takeF (l : List Passed) (k : Nat) : (l57 l).take k = l57 (l.take k) := by simp [l57]
@[go_sem] theorem l57_dropF (l : List Passed) (k : Nat) : (l57 l).drop k = l57 (l.drop k) := by simp [l57]
@[go_sem] theorem l57_app (a b : List Passed) : l57 a ++ l57 b = l57 (a ++ b) := by simp [l57]
@[go_sem] theorem l57_snoc (a : List Passed) (x : Passed) : l57 a ++ [.agg x.c] = l57 (a ++ [x]) := by simp [l57]
theorem l57_cat (l : List Passed) : cat (l57 l) = l.flatMap Passed.c := by simp [l57, cat, List.flatMap_map]; rfl
@[go_sem] theorem l57_pure (l : List Passed) : pureL (l57 l) = true := by
  induction l with
  | nil => rfl
  | cons x xs ih => simpa [l57, pureL, AV.pure] using ⟨Passed.c_pure x, ih⟩
@[go_sem] theorem l57_bnd (k : Nat) (l : List Passed) : bndL k (l57 l) = true := bndL_map fun x => Passed.c_bnd k x
theorem l57_bor (l : List Passed) : (l.flatMap Passed.c).map borrow1 = l.flatMap Passed.c := by
  simp only [List.map_flatMap, Passed.c_bor]
def l57_ok (l : List Passed) : Prop := l.length * 96 ≤ reachBytes ∧ ∀ x ∈ l, x.ok
theorem l57_rd {a : AV} (h : Rd Try.prog 48 a) : ∃ l, a = .sl none (l57 l) ∧ l57_ok l := by
  obtain ⟨l, h1, h2, h3⟩ := Rd.list (f := fun (x : Passed) => .agg x.c) (ok := fun (x : Passed) => x.ok) (P := Try.prog) (t := 48) (e := 57) (by kernel_rfl) (fun x hx => Passed.rd hx) h
  exact ⟨l, h1, by rw [show Try.prog.bytesOf 57 = 96 by kernel_rfl] at h2; exact h2, h3⟩

def l27 (l : List (List Int)) : List AV := l.map fun x => .sl none (l3 x)
@[go_sem] theorem l27_len (l : List (List Int)) : (l27 l).length = l.length := by simp [l27]
theorem l27_get {l : List (List Int)} {i : Nat} {x : List Int} (h : l[i]? = some x) : (l27 l)[i]? = some (.sl none (l3 x)) := by simp [l27, h]
theorem l27_cells (l : List (List Int)) : ∀ x ∈ l27 l, x.cells.length = 1 := by
  intro x hx; obtain ⟨y, _, rfl⟩ := List.mem_map.1 hx; rfl
@[go_sem] theorem l27_cells' (l : List (List Int)) : (∀ x ∈ l27 l, x.cells.length = 1) = True := eq_true (l27_cells l)
theorem l27_append (a b : List (List Int)) : l27 (a ++ b) = l27 a ++ l27 b := by simp [l27]
theorem l27_take (l : List (List Int)) (k : Nat) : l27 (l.take k) = (l27 l).take k := by simp [l27]
theorem l27_drop (l : List (List Int)) (k : Nat) : l27 (l.drop k) = (l27 l).drop k := by simp [l27]
@[go_sem] theorem l27_nil : l27 [] = [] := rfl
@[go_sem] theorem l27_takeF (l : List (List Int)) (k : Nat) : (l27 l).take k = l27 (l.take k) := by simp [l27]
@[go_sem] theorem l27_dropF (l : List (List Int)) (k : Nat) : (l27 l).drop k = l27 (l.drop k) := by simp [l27]
@[go_sem] theorem l27_app (a b : List (List Int)) : l27 a ++ l27 b = l27 (a ++ b) := by simp [l27]
@[go_sem] theorem l27_snoc (a : List (List Int)) (x : List Int) : l27 a ++ [.sl none (l3 x)] = l27 (a ++ [x]) := by simp [l27]
@[go_sem] theorem l27_pure (l : List (List Int)) : pureL (l27 l) = true := by
  induction l with
  | nil => rfl
  | cons x xs ih => simpa [l27, pureL, AV.pure] using ⟨l3_pure x, ih⟩
@[go_sem] theorem l27_bnd (k : Nat) (l : List (List Int)) : bndL k (l27 l) = true := bndL_map fun x => l3_bnd k x
def l27_ok (l : List (List Int)) : Prop := l.length * 24 ≤ reachBytes ∧ ∀ x ∈ l, l3_ok x
theorem l27_rd {a : AV} (h : Rd Try.prog 55 a) : ∃ l, a = .sl none (l27 l) ∧ l27_ok l := by
  obtain ⟨l, h1, h2, h3⟩ := Rd.list (f := fun (x : List Int) => .sl none (l3 x)) (ok := fun (x : List Int) => l3_ok x) (P := Try.prog) (t := 55) (e := 27) (by kernel_rfl) (fun x hx => l3_rd hx) h
  exact ⟨l, h1, by rw [show Try.prog.bytesOf 27 = 24 by kernel_rfl] at h2; exact h2, h3⟩

def l9 (l : List ByteArray) : List AV := l.map fun x => .str x
@[go_sem] theorem l9_len (l : List ByteArray) : (l9 l).length = l.length := by simp [l9]
theorem l9_get {l : List ByteArray} {i : Nat} {x : ByteArray} (h : l[i]? = some x) : (l9 l)[i]? = some (.str x) := by simp [l9, h]
theorem l9_cells (l : List ByteArray) : ∀ x ∈ l9 l, x.cells.length = 1 := by
  intro x hx; obtain ⟨y, _, rfl⟩ := List.mem_map.1 hx; rfl
@[go_sem] theorem l9_cells' (l : List ByteArray) : (∀ x ∈ l9 l, x.cells.length = 1) = True := eq_true (l9_cells l)
theorem l9_append (a b : List ByteArray) : l9 (a ++ b) = l9 a ++ l9 b := by simp [l9]
theorem l9_take (l : List ByteArray) (k : Nat) : l9 (l.take k) = (l9 l).take k := by simp [l9]
theorem l9_drop (l : List ByteArray) (k : Nat) : l9 (l.drop k) = (l9 l).drop k := by simp [l9]
@[go_sem] theorem l9_nil : l9 [] = [] := rfl
@[go_sem] theorem l9_takeF (l : List ByteArray) (k : Nat) : (l9 l).take k = l9 (l.take k) := by simp [l9]
@[go_sem] theorem l9_dropF (l : List ByteArray) (k : Nat) : (l9 l).drop k = l9 (l.drop k) := by simp [l9]
@[go_sem] theorem l9_app (a b : List ByteArray) : l9 a ++ l9 b = l9 (a ++ b) := by simp [l9]
@[go_sem] theorem l9_snoc (a : List ByteArray) (x : ByteArray) : l9 a ++ [.str x] = l9 (a ++ [x]) := by simp [l9]
@[go_sem] theorem l9_pure (l : List ByteArray) : pureL (l9 l) = true := by
  induction l with
  | nil => rfl
  | cons x xs ih => simpa [l9, pureL, AV.pure] using ih
@[go_sem] theorem l9_bnd (k : Nat) (l : List ByteArray) : bndL k (l9 l) = true := bndL_map fun x => rfl
def l9_ok (l : List ByteArray) : Prop := l.length * 16 ≤ reachBytes ∧ ∀ x ∈ l, x.size ≤ reachBytes
theorem l9_rd {a : AV} (h : Rd Try.prog 106 a) : ∃ l, a = .sl none (l9 l) ∧ l9_ok l := by
  obtain ⟨l, h1, h2, h3⟩ := Rd.list (f := fun (x : ByteArray) => .str x) (ok := fun (x : ByteArray) => x.size ≤ reachBytes) (P := Try.prog) (t := 106) (e := 9) (by kernel_rfl) (fun x hx => Rd.str_of (t := 9) (by kernel_rfl) hx) h
  exact ⟨l, h1, by rw [show Try.prog.bytesOf 9 = 16 by kernel_rfl] at h2; exact h2, h3⟩

def l86 (l : List Ln) : List AV := l.map fun x => .agg x.c
@[go_sem] theorem l86_len (l : List Ln) : (l86 l).length = l.length := by simp [l86]
theorem l86_get {l : List Ln} {i : Nat} {x : Ln} (h : l[i]? = some x) : (l86 l)[i]? = some (.agg x.c) := by simp [l86, h]
theorem l86_cells (l : List Ln) : ∀ x ∈ l86 l, x.cells.length = 10 := by
  intro x hx; obtain ⟨y, _, rfl⟩ := List.mem_map.1 hx; rfl
@[go_sem] theorem l86_cells' (l : List Ln) : (∀ x ∈ l86 l, x.cells.length = 10) = True := eq_true (l86_cells l)
theorem l86_append (a b : List Ln) : l86 (a ++ b) = l86 a ++ l86 b := by simp [l86]
theorem l86_take (l : List Ln) (k : Nat) : l86 (l.take k) = (l86 l).take k := by simp [l86]
theorem l86_drop (l : List Ln) (k : Nat) : l86 (l.drop k) = (l86 l).drop k := by simp [l86]
@[go_sem] theorem l86_nil : l86 [] = [] := rfl
@[go_sem] theorem l86_takeF (l : List Ln) (k : Nat) : (l86 l).take k = l86 (l.take k) := by simp [l86]
@[go_sem] theorem l86_dropF (l : List Ln) (k : Nat) : (l86 l).drop k = l86 (l.drop k) := by simp [l86]
@[go_sem] theorem l86_app (a b : List Ln) : l86 a ++ l86 b = l86 (a ++ b) := by simp [l86]
@[go_sem] theorem l86_snoc (a : List Ln) (x : Ln) : l86 a ++ [.agg x.c] = l86 (a ++ [x]) := by simp [l86]
theorem l86_cat (l : List Ln) : cat (l86 l) = l.flatMap Ln.c := by simp [l86, cat, List.flatMap_map]; rfl
@[go_sem] theorem l86_pure (l : List Ln) : pureL (l86 l) = true := by
  induction l with
  | nil => rfl
  | cons x xs ih => simpa [l86, pureL, AV.pure] using ⟨Ln.c_pure x, ih⟩
@[go_sem] theorem l86_bnd (k : Nat) (l : List Ln) : bndL k (l86 l) = true := bndL_map fun x => Ln.c_bnd k x
theorem l86_bor (l : List Ln) : (l.flatMap Ln.c).map borrow1 = l.flatMap Ln.c := by
  simp only [List.map_flatMap, Ln.c_bor]
def l86_ok (l : List Ln) : Prop := l.length * 112 ≤ reachBytes ∧ ∀ x ∈ l, x.ok
theorem l86_rd {a : AV} (h : Rd Try.prog 80 a) : ∃ l, a = .sl none (l86 l) ∧ l86_ok l := by
  obtain ⟨l, h1, h2, h3⟩ := Rd.list (f := fun (x : Ln) => .agg x.c) (ok := fun (x : Ln) => x.ok) (P := Try.prog) (t := 80) (e := 86) (by kernel_rfl) (fun x hx => Ln.rd hx) h
  exact ⟨l, h1, by rw [show Try.prog.bytesOf 86 = 112 by kernel_rfl] at h2; exact h2, h3⟩

end Go.AI
