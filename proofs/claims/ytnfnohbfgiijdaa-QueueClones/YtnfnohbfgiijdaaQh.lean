/- The queue's operations: they change the object as the pure functions here say. -/
import Derived.Test.YtnfnohbfgiijdaaQg
set_option linter.unusedSimpArgs false
set_option linter.unusedVariables false
namespace Go.AI
open Go.Proofs
set_option maxRecDepth 20000

@[go_sem] theorem set_get {α : Type} (l : List α) (k : Nat) (a : α) : (l.set k a)[k]? = l[k]?.map fun _ => a := List.getElem?_set_self' ..
attribute [go_sem] List.set_set

section
variable {H0 : Heap} {o o2 k : Nat} {n len : Int} {L : List LF}

theorem Base.push (B : Base H0 o o2) (x : Option (List AV)) : QX H0 o o2 n len L ++ [x] = QX (H0 ++ [x]) o o2 n len L := by
  unfold QX
  rw [List.set_append_left _ _ B.h1, List.set_append_left _ _ (by rw [List.length_set]; exact B.h2)]
theorem Base.box (B : Base H0 o o2) (x : Option (List AV)) : (QX (H0 ++ [x]) o o2 n len L)[H0.length]? = some x := by
  rw [← B.push, ← QX_len (H0 := H0) (o := o) (o2 := o2) (n := n) (len := len) (L := L), List.getElem?_concat_length]
theorem Base.app (B : Base H0 o o2) {cs : List AV} (hb : bndL (H0.length + 1) cs = true) : Base (H0 ++ [some cs]) o o2 :=
  ⟨by rw [List.length_append]; exact Nat.lt_add_right _ B.h1, by rw [List.length_append]; exact Nat.lt_add_right _ B.h2, B.ne, B.cl.app hb⟩

/-- A call that changes the queues and leaves objects behind which nothing names. -/
theorem ACall.cleanQ {f : FuncId} {vs : List AV} {q q' : QS} {v : AV} (B : Base H0 o o2) (hv : v.bnd H0.length = true) (h : ACall Try.prog f vs (QH H0 o o2 q) fun v' H' => v' = v ∧ ∃ junk, H' = QH H0 o o2 q' ++ junk) : ACall Try.prog f vs (QH H0 o o2 q) fun v' H' => v' = v ∧ H' = QH H0 o o2 q' :=
  ACall.gc (by rintro _ _ ⟨_, rfl⟩; rw [QX_len, QX_len]; exact Nat.le_refl _) (h.mono fun v' H' hq => by
    obtain ⟨rfl, junk, rfl⟩ := hq
    exact ⟨QH H0 o o2 q', junk, rfl, by rw [QX_len]; exact hv, B.closed, rfl, rfl⟩)
end

def QS.set (q : QS) (k : Nat) (x : Ln) : QS := { q with lines := q.lines.set k x }

def Ln.add (x : Ln) (p : Packet) : Ln := { x with counts := { x.counts with meter := { x.counts.meter with in_ := IntKind.i64.wrap (x.counts.meter.in_ + 1) } }, packets := x.packets ++ [p] }

def Ln.put (len : Int) (x : Ln) (p : Packet) : Ln × Int :=
  if x.down = true then (x.refuse 13, 13)
  else if len ≤ (x.packets.length : Int) - x.due.length then (x.refuse 12, 12)
  else (x.add p, 0)

def pput (q : QS) (k : Int) (p : Packet) : QS × Int :=
  if phas q k = true then match q.lines[k.toNat]? with
    | some x => (q.set k.toNat (x.put q.length p).1, (x.put q.length p).2)
    | none => (q, 1)
  else (q, 1)

theorem f21_a {H0 : Heap} {o o2 : Nat} (B : Base H0 o o2) (q : QS) (hg : q.good) (k : Int) (p : Packet) :
    ACall Try.prog 21 [.ptr o 0, .int .i64 k, .agg p.c] (QH H0 o o2 q) fun v H' => v = .int .i64 (pput q k p).2 ∧ H' = QH H0 o o2 (pput q k p).1 := by
  refine ACall.cleanQ B (by simp only [go_sem]) ?_
  refine ACall.of h21 rfl mixed h21_d Try.func21 rfl call21 (by simp [Try.f21]) ?_
  unfold pput
  have B' : Base (H0 ++ [some p.c]) o o2 := B.app (by simp only [go_sem])
  cases hh : phas q k
  · simp only [Try.f21, go_sem, Nat.reduceEqDiff, Nat.reduceLT, ↓reduceIte, Nat.reduceAdd, Nat.reduceSub, Nat.reduceMul, Nat.reduceBEq, Nat.reduceLeDiff, Nat.reduceDvd, reduceCtorEq, Int.reduceToNat, Int.reduceLT, Int.reduceLE, Nat.le_refl, Int.le_refl, false_implies, implies_true, frzSlot, List.take_length, List.mem_cons, List.not_mem_nil, or_false, forall_eq_or_imp, forall_eq, List.range_succ, List.range_zero, exists_eq_left', Option.some.injEq, B.push, QX_len]
    refine RCallK.intro (f42_r k (B'.v q)) ?_
    simp only [go_sem, Nat.reduceEqDiff, Nat.reduceLT, ↓reduceIte, Nat.reduceAdd, Nat.reduceSub, Nat.reduceMul, Nat.reduceBEq, Nat.reduceLeDiff, Nat.reduceDvd, reduceCtorEq, Int.reduceToNat, Int.reduceLT, Int.reduceLE, Nat.le_refl, Int.le_refl, false_implies, implies_true, frzSlot, List.take_length, List.mem_cons, List.not_mem_nil, or_false, forall_eq_or_imp, forall_eq, List.range_succ, List.range_zero, exists_eq_left', Option.some.injEq, hh]
    exact ⟨_, (B.push _).symm⟩
  · obtain ⟨h0, h1, x, hx⟩ := phas_get hh
    obtain ⟨g1, g2⟩ := hg x (List.mem_of_getElem? hx)
    have hlt := (List.getElem?_eq_some_iff.1 hx).1
    unfold Ln.put
    simp only [Try.f21, go_sem, Nat.reduceEqDiff, Nat.reduceLT, ↓reduceIte, Nat.reduceAdd, Nat.reduceSub, Nat.reduceMul, Nat.reduceBEq, Nat.reduceLeDiff, Nat.reduceDvd, reduceCtorEq, Int.reduceToNat, Int.reduceLT, Int.reduceLE, Nat.le_refl, Int.le_refl, false_implies, implies_true, frzSlot, List.take_length, List.mem_cons, List.not_mem_nil, or_false, forall_eq_or_imp, forall_eq, List.range_succ, List.range_zero, exists_eq_left', Option.some.injEq, B.push, QX_len]
    refine RCallK.intro (f42_r k (B'.v q)) ?_
    cases hd : x.down
    · have w1 : IntKind.i64.wrap ((x.packets.length : Int) - x.due.length) = (x.packets.length : Int) - x.due.length := w64 (by omega) (by omega)
      by_cases hf : q.length ≤ (x.packets.length : Int) - x.due.length
      · simp only [go_sem, Nat.reduceEqDiff, Nat.reduceLT, ↓reduceIte, Nat.reduceAdd, Nat.reduceSub, Nat.reduceMul, Nat.reduceBEq, Nat.reduceLeDiff, Nat.reduceDvd, reduceCtorEq, Int.reduceToNat, Int.reduceLT, Int.reduceLE, Nat.le_refl, Int.le_refl, false_implies, implies_true, frzSlot, List.take_length, List.mem_cons, List.not_mem_nil, or_false, forall_eq_or_imp, forall_eq, List.range_succ, List.range_zero, exists_eq_left', Option.some.injEq, hh, hx, hd, B'.down, B'.packets, B'.due, B'.length, w1, hf]
        refine ACallK.intro (f44_a B' q 12 hx) ?_
        rintro _ _ ⟨rfl, rfl⟩
        simp only [go_sem, Nat.reduceEqDiff, Nat.reduceLT, ↓reduceIte, Nat.reduceAdd, Nat.reduceSub, Nat.reduceMul, Nat.reduceBEq, Nat.reduceLeDiff, Nat.reduceDvd, reduceCtorEq, Int.reduceToNat, Int.reduceLT, Int.reduceLE, Nat.le_refl, Int.le_refl, false_implies, implies_true, frzSlot, List.take_length, List.mem_cons, List.not_mem_nil, or_false, forall_eq_or_imp, forall_eq, List.range_succ, List.range_zero, exists_eq_left', Option.some.injEq]
        exact ⟨_, (B.push _).symm⟩
      · simp only [go_sem, Nat.reduceEqDiff, Nat.reduceLT, ↓reduceIte, Nat.reduceAdd, Nat.reduceSub, Nat.reduceMul, Nat.reduceBEq, Nat.reduceLeDiff, Nat.reduceDvd, reduceCtorEq, Int.reduceToNat, Int.reduceLT, Int.reduceLE, Nat.le_refl, Int.le_refl, false_implies, implies_true, frzSlot, List.take_length, List.mem_cons, List.not_mem_nil, or_false, forall_eq_or_imp, forall_eq, List.range_succ, List.range_zero, exists_eq_left', Option.some.injEq, hh, hx, hd, B'.down, B'.packets, B'.due, B'.length, w1, hf, B'.in_, B'.sin, B'.tkp, B'.sp, B.box]
        refine ⟨by omega, by omega, ?_⟩
        simp only [QS.set, Ln.add, hd]
        exact ⟨_, (B.push _).symm⟩
    · simp only [go_sem, Nat.reduceEqDiff, Nat.reduceLT, ↓reduceIte, Nat.reduceAdd, Nat.reduceSub, Nat.reduceMul, Nat.reduceBEq, Nat.reduceLeDiff, Nat.reduceDvd, reduceCtorEq, Int.reduceToNat, Int.reduceLT, Int.reduceLE, Nat.le_refl, Int.le_refl, false_implies, implies_true, frzSlot, List.take_length, List.mem_cons, List.not_mem_nil, or_false, forall_eq_or_imp, forall_eq, List.range_succ, List.range_zero, exists_eq_left', Option.some.injEq, hh, hx, hd, B'.down]
      refine ACallK.intro (f44_a B' q 13 hx) ?_
      rintro _ _ ⟨rfl, rfl⟩
      simp only [go_sem, Nat.reduceEqDiff, Nat.reduceLT, ↓reduceIte, Nat.reduceAdd, Nat.reduceSub, Nat.reduceMul, Nat.reduceBEq, Nat.reduceLeDiff, Nat.reduceDvd, reduceCtorEq, Int.reduceToNat, Int.reduceLT, Int.reduceLE, Nat.le_refl, Int.le_refl, false_implies, implies_true, frzSlot, List.take_length, List.mem_cons, List.not_mem_nil, or_false, forall_eq_or_imp, forall_eq, List.range_succ, List.range_zero, exists_eq_left', Option.some.injEq]
      exact ⟨_, (B.push _).symm⟩

def Ln.switch (x : Ln) (up : Bool) : Ln := bif up then { x with down := false } else { (x.pass 0 x.due.length) with packets := x.packets.drop x.due.length, due := [], down := true }

def pswitch (q : QS) (k : Int) (up : Bool) : QS × Int :=
  if phas q k = true then match q.lines[k.toNat]? with
    | some x => (q.set k.toNat (x.switch up), 0)
    | none => (q, 1)
  else (q, 1)

theorem f28_a {H0 : Heap} {o o2 : Nat} (B : Base H0 o o2) (q : QS) (hg : q.good) (k : Int) (up : Bool) :
    ACall Try.prog 28 [.ptr o 0, .int .i64 k, .bool up] (QH H0 o o2 q) fun v H' => v = .int .i64 (pswitch q k up).2 ∧ H' = QH H0 o o2 (pswitch q k up).1 := by
  refine ACall.of h28 rfl mixed h28_d Try.func28 rfl call28 (by simp [Try.f28]) ?_
  unfold pswitch
  cases hh : phas q k
  · simp only [Try.f28, go_sem, Nat.reduceEqDiff, Nat.reduceLT, ↓reduceIte, Nat.reduceAdd, Nat.reduceSub, Nat.reduceMul, Nat.reduceBEq, Nat.reduceLeDiff, Nat.reduceDvd, reduceCtorEq, Int.reduceToNat, Int.reduceLT, Int.reduceLE, Nat.le_refl, Int.le_refl, false_implies, implies_true, frzSlot, List.take_length, List.mem_cons, List.not_mem_nil, or_false, forall_eq_or_imp, forall_eq, List.range_succ, List.range_zero, exists_eq_left', Option.some.injEq]
    refine RCallK.intro (f42_r k (B.v q)) ?_
    simp only [go_sem, Nat.reduceEqDiff, Nat.reduceLT, ↓reduceIte, Nat.reduceAdd, Nat.reduceSub, Nat.reduceMul, Nat.reduceBEq, Nat.reduceLeDiff, Nat.reduceDvd, reduceCtorEq, Int.reduceToNat, Int.reduceLT, Int.reduceLE, Nat.le_refl, Int.le_refl, false_implies, implies_true, frzSlot, List.take_length, List.mem_cons, List.not_mem_nil, or_false, forall_eq_or_imp, forall_eq, List.range_succ, List.range_zero, exists_eq_left', Option.some.injEq, hh]
  · obtain ⟨h0, h1, x, hx⟩ := phas_get hh
    obtain ⟨g1, g2⟩ := hg x (List.mem_of_getElem? hx)
    have hlt := (List.getElem?_eq_some_iff.1 hx).1
    have g3 : (x.due.length : Int) ≤ (x.packets.length : Int) := by omega
    simp only [Try.f28, go_sem, Nat.reduceEqDiff, Nat.reduceLT, ↓reduceIte, Nat.reduceAdd, Nat.reduceSub, Nat.reduceMul, Nat.reduceBEq, Nat.reduceLeDiff, Nat.reduceDvd, reduceCtorEq, Int.reduceToNat, Int.reduceLT, Int.reduceLE, Nat.le_refl, Int.le_refl, false_implies, implies_true, frzSlot, List.take_length, List.mem_cons, List.not_mem_nil, or_false, forall_eq_or_imp, forall_eq, List.range_succ, List.range_zero, exists_eq_left', Option.some.injEq]
    refine RCallK.intro (f42_r k (B.v q)) ?_
    cases up
    · simp only [go_sem, Nat.reduceEqDiff, Nat.reduceLT, ↓reduceIte, Nat.reduceAdd, Nat.reduceSub, Nat.reduceMul, Nat.reduceBEq, Nat.reduceLeDiff, Nat.reduceDvd, reduceCtorEq, Int.reduceToNat, Int.reduceLT, Int.reduceLE, Nat.le_refl, Int.le_refl, false_implies, implies_true, frzSlot, List.take_length, List.mem_cons, List.not_mem_nil, or_false, forall_eq_or_imp, forall_eq, List.range_succ, List.range_zero, exists_eq_left', Option.some.injEq, hh, hx, B.due]
      refine ACallK.intro (f45_a B q 0 x.due.length hx) ?_
      rintro _ _ ⟨rfl, rfl⟩
      simp only [go_sem, Nat.reduceEqDiff, Nat.reduceLT, ↓reduceIte, Nat.reduceAdd, Nat.reduceSub, Nat.reduceMul, Nat.reduceBEq, Nat.reduceLeDiff, Nat.reduceDvd, reduceCtorEq, Int.reduceToNat, Int.reduceLT, Int.reduceLE, Nat.le_refl, Int.le_refl, false_implies, implies_true, frzSlot, List.take_length, List.mem_cons, List.not_mem_nil, or_false, forall_eq_or_imp, forall_eq, List.range_succ, List.range_zero, exists_eq_left', Option.some.injEq, hx, B.tkp, B.sp, B.sd0, B.sdown, g3]
      exact ⟨Int.natCast_nonneg _, g3, rfl⟩
    · simp only [go_sem, Nat.reduceEqDiff, Nat.reduceLT, ↓reduceIte, Nat.reduceAdd, Nat.reduceSub, Nat.reduceMul, Nat.reduceBEq, Nat.reduceLeDiff, Nat.reduceDvd, reduceCtorEq, Int.reduceToNat, Int.reduceLT, Int.reduceLE, Nat.le_refl, Int.le_refl, false_implies, implies_true, frzSlot, List.take_length, List.mem_cons, List.not_mem_nil, or_false, forall_eq_or_imp, forall_eq, List.range_succ, List.range_zero, exists_eq_left', Option.some.injEq, hh, hx, B.sdown]
      rfl
end Go.AI
