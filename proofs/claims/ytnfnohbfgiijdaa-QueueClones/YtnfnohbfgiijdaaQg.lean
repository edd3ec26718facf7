/- The queue object in normal form, and what loads and stores make of it. -/
import Derived.Test.YtnfnohbfgiijdaaQf
set_option linter.unusedSimpArgs false
set_option linter.unusedVariables false
namespace Go.AI
open Go.Proofs
set_option maxRecDepth 20000

/-- A line and who may append to its two lists. -/
abbrev LF := Ln × Option Nat × Option Nat
def lf (y : LF) : List AV := y.1.cf y.2.1 y.2.2
def ow (x : Ln) : LF := (x, some 11, some 1)
theorem lf_len (y : LF) : (lf y).length = 10 := rfl

@[go_sem] theorem ow_set (l : List Ln) (k : Nat) (x : Ln) : (l.map ow).set k (x, some 11, some 1) = (l.set k x).map ow := by rw [List.map_set]; rfl
@[go_sem] theorem ow_get (l : List Ln) (k : Nat) : (l.map ow)[k]? = l[k]?.map ow := List.getElem?_map ..
@[go_sem] theorem ow_len (l : List Ln) : (l.map ow).length = l.length := List.length_map ..
@[go_sem] theorem ow_1 (x : Ln) : (ow x).1 = x := rfl
@[go_sem] theorem ow_2 (x : Ln) : (ow x).2.1 = some 11 := rfl
@[go_sem] theorem ow_3 (x : Ln) : (ow x).2.2 = some 1 := rfl
theorem ow_flat (l : List Ln) : (l.map ow).flatMap lf = l.flatMap Ln.co := by rw [List.flatMap_map]; rfl

/-- The heap H0 with queues at o, their lines at o2. -/
def QX (H0 : Heap) (o o2 : Nat) (n len : Int) (L : List LF) : Heap := (H0.set o (some [.int .i64 n, .int .i64 len, .msl o2 0 L.length 10])).set o2 (some (L.flatMap lf))
abbrev QH (H0 : Heap) (o o2 : Nat) (q : QS) : Heap := QX H0 o o2 q.now q.length (q.lines.map ow)

structure Base (H0 : Heap) (o o2 : Nat) : Prop where
  h1 : o < H0.length
  h2 : o2 < H0.length
  ne : o ≠ o2
  cl : closedH H0

section
variable {H0 : Heap} {o o2 k : Nat} {n len : Int} {L : List LF}

theorem QX_len : (QX H0 o o2 n len L).length = H0.length := by simp [QX]

theorem Base.at1 (B : Base H0 o o2) : (QX H0 o o2 n len L)[o]? = some (some [.int .i64 n, .int .i64 len, .msl o2 0 L.length 10]) := by
  unfold QX
  rw [List.getElem?_set_ne (Ne.symm B.ne), List.getElem?_set_self B.h1]
theorem Base.at2 (B : Base H0 o o2) : (QX H0 o o2 n len L)[o2]? = some (some (L.flatMap lf)) := by
  unfold QX
  rw [List.getElem?_set_self (by rw [List.length_set]; exact B.h2)]
theorem Base.set1 (B : Base H0 o o2) (n' : Int) : (QX H0 o o2 n len L).set o (some [.int .i64 n', .int .i64 len, .msl o2 0 L.length 10]) = QX H0 o o2 n' len L := by
  unfold QX
  rw [List.set_comm _ _ B.ne, List.set_set, List.set_comm _ _ (Ne.symm B.ne)]
theorem QX_set2 {L' : List LF} (hl : L'.length = L.length) : (QX H0 o o2 n len L).set o2 (some (L'.flatMap lf)) = QX H0 o o2 n len L' := by
  unfold QX
  rw [List.set_set, hl]

theorem lf_bnd (m : Nat) (L : List LF) : bndL m (L.flatMap lf) = true := by
  induction L with
  | nil => rfl
  | cons y L ih => rw [List.flatMap_cons, bndL_append, ih]; simp [lf, Ln.cf_bnd]

theorem Base.closed (B : Base H0 o o2) : closedH (QX H0 o o2 n len L) := by
  refine closedH.set (closedH.set B.cl o ?_) o2 ?_
  · simp [bndL, AV.bnd, B.h2]
  · exact lf_bnd _ _

theorem Base.v (B : Base H0 o o2) (q : QS) : QV (QH H0 o o2 q) o o2 q where
  hd := by rw [B.at1, List.length_map]; rfl
  ln := ⟨_, B.at2, by rw [ow_flat, co_bor]⟩
  ne := B.ne
  cl := B.closed

theorem get_lf {i : Nat} (hi : i < 10) : (L.flatMap lf)[k * 10 + i]? = L[k]?.bind fun y => (lf y)[i]? := by
  cases hx : L[k]? with
  | none =>
    have := List.getElem?_eq_none_iff.1 hx
    rw [List.getElem?_eq_none (by rw [len_flat lf_len]; omega)]; rfl
  | some y => exact get_flat lf_len hx hi

theorem Base.ld (i t : Nat) (hi : i < 10) (ht : ldk Try.prog t = some none) (B : Base H0 o o2) : vLoad Try.prog false t (.ptr o2 (k * 10 + i)) (QX H0 o o2 n len L) = L[k]?.bind fun y => (lf y)[i]?.map fun v => (v.borrow, QX H0 o o2 n len L) := by
  rw [vLoad_ptr, B.at2]
  dsimp only
  rw [ldv_eq, ht, ldx_one, get_lf hi]
  cases L[k]? with
  | none => rfl
  | some y =>
    dsimp only [Option.bind_some]
    cases (lf y)[i]? <;> rfl

theorem Base.tk (i t : Nat) (hi : i < 10) (ht : ldk Try.prog t = some none) (B : Base H0 o o2) : vLoad Try.prog true t (.ptr o2 (k * 10 + i)) (QX H0 o o2 n len L) = L[k]?.bind fun y => (lf y)[i]?.bind fun v => if v.owned = true ∧ v.scalar = true then some (v, (QX H0 o o2 n len L).set o2 (some (splice (L.flatMap lf) (k * 10 + i) (v.cells.map borrow1)))) else none := by
  rw [vLoad_ptr, B.at2]
  dsimp only
  rw [ldv_eq, ht, ldx_one, get_lf hi]
  cases L[k]? with
  | none => rfl
  | some y =>
    dsimp only [Option.bind_some]
    cases (lf y)[i]? <;> rfl

theorem Base.st (i t : Nat) (hi : i + 1 ≤ 10) (ht : Try.prog.cellsOf t = 1) (B : Base H0 o o2) {v : AV} (hv : v.isVal = true) (hc : v.cells = [v]) (g : LF → LF) (hg : ∀ y, splice (lf y) i [v] = lf (g y)) :
    vStore Try.prog t (.ptr o2 (k * 10 + i)) v (QX H0 o o2 n len L) = L[k]?.map fun y => QX H0 o o2 n len (L.set k (g y)) := by
  rw [vStore_ptr, B.at2]
  dsimp only
  cases hx : L[k]? with
  | none =>
    have := List.getElem?_eq_none_iff.1 hx
    rw [if_neg (by rw [len_flat lf_len, ht]; omega)]; rfl
  | some y =>
    have hlt := (List.getElem?_eq_some_iff.1 hx).1
    rw [if_pos ⟨hv, by rw [ht, hc]; rfl, by rw [ht]; decide, by rw [ht]; exact room_flat lf_len hlt hi⟩, hc, put_flat lf_len hx (by simpa using hi) (hg y), QX_set2 (by simp)]
    rfl

theorem Base.now (B : Base H0 o o2) : vLoad Try.prog false 3 (.ptr o 0) (QX H0 o o2 n len L) = some (.int .i64 n, QX H0 o o2 n len L) := by
  rw [vLoad_ptr, B.at1]; simp only [go_sem]
theorem Base.length (B : Base H0 o o2) : vLoad Try.prog false 3 (.ptr o 1) (QX H0 o o2 n len L) = some (.int .i64 len, QX H0 o o2 n len L) := by
  rw [vLoad_ptr, B.at1]; simp only [go_sem]
theorem Base.lines (B : Base H0 o o2) : vLoad Try.prog false 80 (.ptr o 2) (QX H0 o o2 n len L) = some (.msl o2 0 L.length 10, QX H0 o o2 n len L) := by
  rw [vLoad_ptr, B.at1]; simp only [go_sem]
theorem Base.stnow (B : Base H0 o o2) (v : Int) : vStore Try.prog 3 (.ptr o 0) (.int .i64 v) (QX H0 o o2 n len L) = some (QX H0 o o2 v len L) := by
  rw [vStore_ptr, B.at1]
  dsimp only
  rw [if_pos ⟨rfl, by rw [cellsOf3]; rfl, by rw [cellsOf3]; decide, by rw [cellsOf3]; exact Nat.le_add_left _ _⟩]
  exact congrArg some (B.set1 v)

/-! The fields of a line. -/
theorem Base.in_ (B : Base H0 o o2) : vLoad Try.prog false 3 (.ptr o2 (k * 10)) (QX H0 o o2 n len L) = L[k]?.map fun y => (.int .i64 y.1.counts.meter.in_, QX H0 o o2 n len L) := by
  rw [← Nat.add_zero (k * 10), B.ld 0 3 (by decide) (by kernel_rfl)]; cases L[k]? <;> rfl
theorem Base.out (B : Base H0 o o2) : vLoad Try.prog false 3 (.ptr o2 (k * 10 + 1)) (QX H0 o o2 n len L) = L[k]?.map fun y => (.int .i64 y.1.counts.meter.out, QX H0 o o2 n len L) := by
  rw [B.ld 1 3 (by decide) (by kernel_rfl)]; cases L[k]? <;> rfl
theorem Base.full (B : Base H0 o o2) : vLoad Try.prog false 3 (.ptr o2 (k * 10 + 2)) (QX H0 o o2 n len L) = L[k]?.map fun y => (.int .i64 y.1.counts.meter.full, QX H0 o o2 n len L) := by
  rw [B.ld 2 3 (by decide) (by kernel_rfl)]; cases L[k]? <;> rfl
theorem Base.mdown (B : Base H0 o o2) : vLoad Try.prog false 3 (.ptr o2 (k * 10 + 3)) (QX H0 o o2 n len L) = L[k]?.map fun y => (.int .i64 y.1.counts.meter.down, QX H0 o o2 n len L) := by
  rw [B.ld 3 3 (by decide) (by kernel_rfl)]; cases L[k]? <;> rfl
theorem Base.lost (B : Base H0 o o2) : vLoad Try.prog false 3 (.ptr o2 (k * 10 + 4)) (QX H0 o o2 n len L) = L[k]?.map fun y => (.int .i64 y.1.counts.meter.lost, QX H0 o o2 n len L) := by
  rw [B.ld 4 3 (by decide) (by kernel_rfl)]; cases L[k]? <;> rfl
theorem Base.down (B : Base H0 o o2) : vLoad Try.prog false 4 (.ptr o2 (k * 10 + 5)) (QX H0 o o2 n len L) = L[k]?.map fun y => (.bool y.1.down, QX H0 o o2 n len L) := by
  rw [B.ld 5 4 (by decide) (by kernel_rfl)]; cases L[k]? <;> rfl
theorem Base.capacity (B : Base H0 o o2) : vLoad Try.prog false 3 (.ptr o2 (k * 10 + 6)) (QX H0 o o2 n len L) = L[k]?.map fun y => (.int .i64 y.1.capacity, QX H0 o o2 n len L) := by
  rw [B.ld 6 3 (by decide) (by kernel_rfl)]; cases L[k]? <;> rfl
theorem Base.delay (B : Base H0 o o2) : vLoad Try.prog false 3 (.ptr o2 (k * 10 + 7)) (QX H0 o o2 n len L) = L[k]?.map fun y => (.int .i64 y.1.delay, QX H0 o o2 n len L) := by
  rw [B.ld 7 3 (by decide) (by kernel_rfl)]; cases L[k]? <;> rfl
theorem Base.packets (B : Base H0 o o2) : vLoad Try.prog false 62 (.ptr o2 (k * 10 + 8)) (QX H0 o o2 n len L) = L[k]?.map fun y => (.sl none (l45 y.1.packets), QX H0 o o2 n len L) := by
  rw [B.ld 8 62 (by decide) (by kernel_rfl)]; cases L[k]? <;> rfl
theorem Base.due (B : Base H0 o o2) : vLoad Try.prog false 27 (.ptr o2 (k * 10 + 9)) (QX H0 o o2 n len L) = L[k]?.map fun y => (.sl none (l3 y.1.due), QX H0 o o2 n len L) := by
  rw [B.ld 9 27 (by decide) (by kernel_rfl)]; cases L[k]? <;> rfl
theorem Base.tkp (B : Base H0 o o2) : vLoad Try.prog true 62 (.ptr o2 (k * 10 + 8)) (QX H0 o o2 n len L) = L[k]?.bind fun y => if y.2.1.isSome = true then some (.sl y.2.1 (l45 y.1.packets), QX H0 o o2 n len (L.set k (y.1, none, y.2.2))) else none := by
  rw [B.tk 8 62 (by decide) (by kernel_rfl)]
  cases hx : L[k]? with
  | none => rfl
  | some y =>
    dsimp only [Option.bind_some]
    rw [show (lf y)[8]? = some (.sl y.2.1 (l45 y.1.packets)) from rfl]
    dsimp only [Option.bind_some]
    have e : splice (L.flatMap lf) (k * 10 + 8) ((AV.sl y.2.1 (l45 y.1.packets)).cells.map borrow1) = (L.set k (y.1, none, y.2.2)).flatMap lf := put_flat lf_len hx (o := 8) (v := [.sl none (l45 y.1.packets)]) (by simp) (y := (y.1, none, y.2.2)) rfl
    rw [e, QX_set2 (by simp)]
    cases y.2.1 <;> rfl
theorem Base.tkd (B : Base H0 o o2) : vLoad Try.prog true 27 (.ptr o2 (k * 10 + 9)) (QX H0 o o2 n len L) = L[k]?.bind fun y => if y.2.2.isSome = true then some (.sl y.2.2 (l3 y.1.due), QX H0 o o2 n len (L.set k (y.1, y.2.1, none))) else none := by
  rw [B.tk 9 27 (by decide) (by kernel_rfl)]
  cases hx : L[k]? with
  | none => rfl
  | some y =>
    dsimp only [Option.bind_some]
    rw [show (lf y)[9]? = some (.sl y.2.2 (l3 y.1.due)) from rfl]
    dsimp only [Option.bind_some]
    have e : splice (L.flatMap lf) (k * 10 + 9) ((AV.sl y.2.2 (l3 y.1.due)).cells.map borrow1) = (L.set k (y.1, y.2.1, none)).flatMap lf := put_flat lf_len hx (o := 9) (v := [.sl none (l3 y.1.due)]) (by simp) (y := (y.1, y.2.1, none)) rfl
    rw [e, QX_set2 (by simp)]
    cases y.2.2 <;> rfl
theorem Base.sin (B : Base H0 o o2) (v : Int) : vStore Try.prog 3 (.ptr o2 (k * 10)) (.int .i64 v) (QX H0 o o2 n len L) = L[k]?.map fun y => QX H0 o o2 n len (L.set k ({ y.1 with counts := { y.1.counts with meter := { y.1.counts.meter with in_ := v } } }, y.2.1, y.2.2)) :=
  B.st 0 3 (by decide) cellsOf3 rfl rfl _ fun _ => rfl
theorem Base.sout (B : Base H0 o o2) (v : Int) : vStore Try.prog 3 (.ptr o2 (k * 10 + 1)) (.int .i64 v) (QX H0 o o2 n len L) = L[k]?.map fun y => QX H0 o o2 n len (L.set k ({ y.1 with counts := { y.1.counts with meter := { y.1.counts.meter with out := v } } }, y.2.1, y.2.2)) :=
  B.st 1 3 (by decide) cellsOf3 rfl rfl _ fun _ => rfl
theorem Base.sfull (B : Base H0 o o2) (v : Int) : vStore Try.prog 3 (.ptr o2 (k * 10 + 2)) (.int .i64 v) (QX H0 o o2 n len L) = L[k]?.map fun y => QX H0 o o2 n len (L.set k ({ y.1 with counts := { y.1.counts with meter := { y.1.counts.meter with full := v } } }, y.2.1, y.2.2)) :=
  B.st 2 3 (by decide) cellsOf3 rfl rfl _ fun _ => rfl
theorem Base.smdown (B : Base H0 o o2) (v : Int) : vStore Try.prog 3 (.ptr o2 (k * 10 + 3)) (.int .i64 v) (QX H0 o o2 n len L) = L[k]?.map fun y => QX H0 o o2 n len (L.set k ({ y.1 with counts := { y.1.counts with meter := { y.1.counts.meter with down := v } } }, y.2.1, y.2.2)) :=
  B.st 3 3 (by decide) cellsOf3 rfl rfl _ fun _ => rfl
theorem Base.slost (B : Base H0 o o2) (v : Int) : vStore Try.prog 3 (.ptr o2 (k * 10 + 4)) (.int .i64 v) (QX H0 o o2 n len L) = L[k]?.map fun y => QX H0 o o2 n len (L.set k ({ y.1 with counts := { y.1.counts with meter := { y.1.counts.meter with lost := v } } }, y.2.1, y.2.2)) :=
  B.st 4 3 (by decide) cellsOf3 rfl rfl _ fun _ => rfl
theorem Base.sdown (B : Base H0 o o2) (v : Bool) : vStore Try.prog 4 (.ptr o2 (k * 10 + 5)) (.bool v) (QX H0 o o2 n len L) = L[k]?.map fun y => QX H0 o o2 n len (L.set k ({ y.1 with down := v }, y.2.1, y.2.2)) :=
  B.st 5 4 (by decide) cellsOf4 rfl rfl _ fun _ => rfl
theorem Base.scap (B : Base H0 o o2) (v : Int) : vStore Try.prog 3 (.ptr o2 (k * 10 + 6)) (.int .i64 v) (QX H0 o o2 n len L) = L[k]?.map fun y => QX H0 o o2 n len (L.set k ({ y.1 with capacity := v }, y.2.1, y.2.2)) :=
  B.st 6 3 (by decide) cellsOf3 rfl rfl _ fun _ => rfl
theorem Base.sdel (B : Base H0 o o2) (v : Int) : vStore Try.prog 3 (.ptr o2 (k * 10 + 7)) (.int .i64 v) (QX H0 o o2 n len L) = L[k]?.map fun y => QX H0 o o2 n len (L.set k ({ y.1 with delay := v }, y.2.1, y.2.2)) :=
  B.st 7 3 (by decide) cellsOf3 rfl rfl _ fun _ => rfl
theorem Base.sp (B : Base H0 o o2) (a : Option Nat) (v : List Packet) : vStore Try.prog 62 (.ptr o2 (k * 10 + 8)) (.sl a (l45 v)) (QX H0 o o2 n len L) = L[k]?.map fun y => QX H0 o o2 n len (L.set k ({ y.1 with packets := v }, a, y.2.2)) :=
  B.st 8 62 (by decide) cellsOf62 rfl rfl _ fun _ => rfl
theorem Base.sd (B : Base H0 o o2) (a : Option Nat) (v : List Int) : vStore Try.prog 27 (.ptr o2 (k * 10 + 9)) (.sl a (l3 v)) (QX H0 o o2 n len L) = L[k]?.map fun y => QX H0 o o2 n len (L.set k ({ y.1 with due := v }, y.2.1, a)) :=
  B.st 9 27 (by decide) cellsOf27 rfl rfl _ fun _ => rfl
theorem Base.sd0 (B : Base H0 o o2) (a : Option Nat) : vStore Try.prog 27 (.ptr o2 (k * 10 + 9)) (.sl a []) (QX H0 o o2 n len L) = L[k]?.map fun y => QX H0 o o2 n len (L.set k ({ y.1 with due := [] }, y.2.1, a)) := B.sd a []

end

/-! The counts. -/
def Ln.refuse (x : Ln) (e : Int) : Ln := if e = 12 then { x with counts := { x.counts with meter := { x.counts.meter with full := IntKind.i64.wrap (x.counts.meter.full + 1) } } } else { x with counts := { x.counts with meter := { x.counts.meter with down := IntKind.i64.wrap (x.counts.meter.down + 1) } } }

theorem f44_a {H0 : Heap} {o o2 k : Nat} (B : Base H0 o o2) (q : QS) (e : Int) {x : Ln} (hx : q.lines[k]? = some x) :
    ACall Try.prog 44 [.ptr o2 (k * 10), .int .i64 e] (QH H0 o o2 q) fun v H' => v = .int .i64 e ∧ H' = QH H0 o o2 { q with lines := q.lines.set k (x.refuse e) } := by
  refine ACall.of h44 rfl mixed h44_d Try.func44 rfl call44 (by simp [Try.f44]) ?_
  unfold Ln.refuse
  by_cases he : e = 12
  · have he' : (e == 12) = true := by simp [he]
    rw [if_pos he]
    simp only [Try.f44, go_sem, Nat.reduceEqDiff, Nat.reduceLT, ↓reduceIte, Nat.reduceAdd, Nat.reduceSub, Nat.reduceMul, Nat.reduceBEq, Nat.reduceLeDiff, Nat.reduceDvd, reduceCtorEq, Int.reduceToNat, Int.reduceLT, Int.reduceLE, Nat.le_refl, Int.le_refl, false_implies, implies_true, frzSlot, List.take_length, List.mem_cons, List.not_mem_nil, or_false, forall_eq_or_imp, forall_eq, List.range_succ, List.range_zero, exists_eq_left', Option.some.injEq, he', B.full, B.sfull, hx]
  · have he' : (e == 12) = false := by simp [he]
    rw [if_neg he]
    simp only [Try.f44, go_sem, Nat.reduceEqDiff, Nat.reduceLT, ↓reduceIte, Nat.reduceAdd, Nat.reduceSub, Nat.reduceMul, Nat.reduceBEq, Nat.reduceLeDiff, Nat.reduceDvd, reduceCtorEq, Int.reduceToNat, Int.reduceLT, Int.reduceLE, Nat.le_refl, Int.le_refl, false_implies, implies_true, frzSlot, List.take_length, List.mem_cons, List.not_mem_nil, or_false, forall_eq_or_imp, forall_eq, List.range_succ, List.range_zero, exists_eq_left', Option.some.injEq, he', B.mdown, B.smdown, hx]

def Ln.pass (x : Ln) (a b : Int) : Ln := { x with counts := { x.counts with meter := { x.counts.meter with out := IntKind.i64.wrap (x.counts.meter.out + a), lost := IntKind.i64.wrap (x.counts.meter.lost + b) } } }

theorem f45_a {H0 : Heap} {o o2 k : Nat} (B : Base H0 o o2) (q : QS) (a b : Int) {x : Ln} (hx : q.lines[k]? = some x) :
    ACall Try.prog 45 [.ptr o2 (k * 10), .int .i64 a, .int .i64 b] (QH H0 o o2 q) fun v H' => v = .tup [] ∧ H' = QH H0 o o2 { q with lines := q.lines.set k (x.pass a b) } := by
  refine ACall.of h45 rfl mixed h45_d Try.func45 rfl call45 (by simp [Try.f45]) ?_
  have hlt := (List.getElem?_eq_some_iff.1 hx).1
  simp only [Try.f45, go_sem, Nat.reduceEqDiff, Nat.reduceLT, ↓reduceIte, Nat.reduceAdd, Nat.reduceSub, Nat.reduceMul, Nat.reduceBEq, Nat.reduceLeDiff, Nat.reduceDvd, reduceCtorEq, Int.reduceToNat, Int.reduceLT, Int.reduceLE, Nat.le_refl, Int.le_refl, false_implies, implies_true, frzSlot, List.take_length, List.mem_cons, List.not_mem_nil, or_false, forall_eq_or_imp, forall_eq, List.range_succ, List.range_zero, exists_eq_left', Option.some.injEq, B.out, B.sout, B.lost, B.slost, hx, List.getElem?_set_self hlt, List.set_set]
  rfl
end Go.AI
