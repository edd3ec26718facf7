/- The two sides compared. -/
import Derived.Test.YtnfnohbfgiijdaaMd
set_option linter.unusedSimpArgs false
set_option linter.unusedVariables false
namespace Go.AI
open Go.Proofs
set_option maxRecDepth 20000

theorem app_set {α : Type} (l r : List α) (j : Nat) (x : α) : (l ++ r).set (l.length + j) x = l ++ r.set j x := by rw [List.set_append_right _ _ (by omega)]; simp
theorem app_set0 {α : Type} (l r : List α) (x : α) : (l ++ r).set l.length x = l ++ r.set 0 x := app_set l r 0 x

/-- All that one can ask of the queues is alike. -/
structure Alike (q : QS) (r : RQ) : Prop where
  now : q.now = r.time
  idle : pidle q = ridle r
  meter : ∀ k, pmeter q k = rmeter r k
  has : ∀ k, phas q k = rhas r k
  up : ∀ k, pup q k = rup r k
  waiting : ∀ k, pwaiting q k = rwaiting r k
  flying : ∀ k, pflying q k = rflying r k

theorem QV.app2 {H : Heap} {o o2 : Nat} {q : QS} (h : QV H o o2 q) {c d : List AV} (hc : ∀ m, bndL m c = true) (hd : ∀ m, bndL m d = true) : QV (H ++ [some c, some d]) o o2 q := by
  have := (h.app (hc _)).app (cs := d) (hd _)
  simpa using this

theorem f39_same (a : List Packet) : PCall Try.prog 39 [.sl none (l45 a), .sl none (l45 a)] (.bool true) := by
  have := f39_c a a
  rwa [decide_eq_true rfl] at this

theorem f16_r {H : Heap} {o o2 : Nat} {q : QS} {r : RQ} (hq : QV H o o2 q) (ha : Alike q r) (hg : q.good) (hn : q.lines.length ≤ 1000000) (hr : r.l.length ≤ 1000000) (hfl : ∀ x ∈ r.l, x.flights.length ≤ 1000000) :
    RCall Try.prog 16 [.ptr o 0, .agg r.c] H (.bool true) := by
  refine .ofV hq fun H hq => ?_
  refine ACall.clean hq.cl (by simp only [go_sem]) ?_
  refine ACall.of h16 rfl mixed h16_d Try.func16 rfl call16 (by simp [Try.f16]) ?_
  have hq1 : QV (H ++ [some r.c]) o o2 q := hq.app (by simp only [go_sem])
  have b1 : (r.time != r.time) = false := by simp
  have b2 : (ridle r == ridle r) = true := by simp
  simp only [Try.f16, go_sem, Nat.reduceEqDiff, Nat.reduceLT, ↓reduceIte, Nat.reduceAdd, Nat.reduceSub, Nat.reduceMul, Nat.reduceBEq, Nat.reduceLeDiff, Nat.reduceDvd, reduceCtorEq, Int.reduceToNat, Int.reduceLT, Int.reduceLE, Nat.le_refl, Int.le_refl, false_implies, implies_true, frzSlot, List.take_length, List.mem_cons, List.not_mem_nil, or_false, forall_eq_or_imp, forall_eq, List.range_succ, List.range_zero, exists_eq_left', Option.some.injEq, app_at0, app_at]
  refine RCallK.intro (f27_r hq1) ?_
  rw [ha.now]
  simp only [go_sem, Nat.reduceEqDiff, Nat.reduceLT, ↓reduceIte, Nat.reduceAdd, Nat.reduceSub, Nat.reduceMul, Nat.reduceBEq, Nat.reduceLeDiff, Nat.reduceDvd, reduceCtorEq, Int.reduceToNat, Int.reduceLT, Int.reduceLE, Nat.le_refl, Int.le_refl, false_implies, implies_true, frzSlot, List.take_length, List.mem_cons, List.not_mem_nil, or_false, forall_eq_or_imp, forall_eq, List.range_succ, List.range_zero, exists_eq_left', Option.some.injEq, app_at0, app_at, b1]
  refine RCallK.intro (f29_r hn hq1) ?_
  rw [ha.idle]
  simp only [go_sem, Nat.reduceEqDiff, Nat.reduceLT, ↓reduceIte, Nat.reduceAdd, Nat.reduceSub, Nat.reduceMul, Nat.reduceBEq, Nat.reduceLeDiff, Nat.reduceDvd, reduceCtorEq, Int.reduceToNat, Int.reduceLT, Int.reduceLE, Nat.le_refl, Int.le_refl, false_implies, implies_true, frzSlot, List.take_length, List.mem_cons, List.not_mem_nil, or_false, forall_eq_or_imp, forall_eq, List.range_succ, List.range_zero, exists_eq_left', Option.some.injEq, app_at0, app_at]
  refine PCallK.intro (f36_c r) ?_
  simp only [go_sem, Nat.reduceEqDiff, Nat.reduceLT, ↓reduceIte, Nat.reduceAdd, Nat.reduceSub, Nat.reduceMul, Nat.reduceBEq, Nat.reduceLeDiff, Nat.reduceDvd, reduceCtorEq, Int.reduceToNat, Int.reduceLT, Int.reduceLE, Nat.le_refl, Int.le_refl, false_implies, implies_true, frzSlot, List.take_length, List.mem_cons, List.not_mem_nil, or_false, forall_eq_or_imp, forall_eq, List.range_succ, List.range_zero, exists_eq_left', Option.some.injEq, app_at0, app_at, b2]
  refine awp_wh (σ := Nat × Heap) (fun s => [(0, .ptr o 0), (3, .ptr H.length 0), (5, .int .i64 ((s.1 : Int) - 1))]) (fun s => s.2) (fun s => s.1 ≤ r.l.length + 2 ∧ QV s.2 o o2 q ∧ ∃ g, s.2 = H ++ some r.c :: g) (fun s => r.l.length + 2 - s.1) (0, H ++ [some r.c]) ⟨by omega, hq1, _, rfl⟩ rfl rfl ?_
  rintro ⟨k, A⟩ ⟨hk, hA, g, rfl⟩
  dsimp only at hk hA ⊢
  by_cases hlt : k < r.l.length + 2
  · have k1 : (k : Int) - 1 ≤ (r.l.length : Int) := by omega
    have wk : IntKind.i64.wrap ((k : Int) - 1 + 1) = ((k + 1 : Nat) : Int) - 1 := by rw [w64 (by omega) (by omega)]; omega
    have hb : ∀ l : Heap, (H ++ (some r.c :: g) ++ l)[H.length]? = some (some r.c) := fun l => by rw [List.append_assoc, app_at0]; rfl
    have hb0 : (H ++ (some r.c :: g))[H.length]? = some (some r.c) := by rw [app_at0]; rfl
    have hA2 : QV (H ++ (some r.c :: g) ++ [some (rmeter r ((k : Int) - 1)).c, some (rmeter r ((k : Int) - 1)).c]) o o2 q := hA.app2 (fun m => by simp only [go_sem]) (fun m => by simp only [go_sem])
    have hx : ∃ g', H ++ (some r.c :: g) ++ [some (rmeter r ((k : Int) - 1)).c, some (rmeter r ((k : Int) - 1)).c] = H ++ some r.c :: g' := ⟨g ++ [some (rmeter r ((k : Int) - 1)).c, some (rmeter r ((k : Int) - 1)).c], by simp⟩
    generalize H ++ (some r.c :: g) = A at *
    generalize hi : (k : Int) - 1 = i at *
    have c1 : (rhas r i == rhas r i) = true := by simp
    have c2 : (rup r i == rup r i) = true := by simp
    simp only [go_sem, Nat.reduceEqDiff, Nat.reduceLT, ↓reduceIte, Nat.reduceAdd, Nat.reduceSub, Nat.reduceMul, Nat.reduceBEq, Nat.reduceLeDiff, Nat.reduceDvd, reduceCtorEq, Int.reduceToNat, Int.reduceLT, Int.reduceLE, Nat.le_refl, Int.le_refl, false_implies, implies_true, frzSlot, List.take_length, List.mem_cons, List.not_mem_nil, or_false, forall_eq_or_imp, forall_eq, List.range_succ, List.range_zero, exists_eq_left', Option.some.injEq, hb0, k1]
    refine RCallK.intro (f17_r i hA) ?_
    rw [ha.meter, ha.has]
    simp only [go_sem, Nat.reduceEqDiff, Nat.reduceLT, ↓reduceIte, Nat.reduceAdd, Nat.reduceSub, Nat.reduceMul, Nat.reduceBEq, Nat.reduceLeDiff, Nat.reduceDvd, reduceCtorEq, Int.reduceToNat, Int.reduceLT, Int.reduceLE, Nat.le_refl, Int.le_refl, false_implies, implies_true, frzSlot, List.take_length, List.mem_cons, List.not_mem_nil, or_false, forall_eq_or_imp, forall_eq, List.range_succ, List.range_zero, exists_eq_left', Option.some.injEq, app_at0, app_at, app_set0, app_set, List.length_append, hb, hb0]
    refine PCallK.intro (f37_c r i) ?_
    simp only [go_sem, Nat.reduceEqDiff, Nat.reduceLT, ↓reduceIte, Nat.reduceAdd, Nat.reduceSub, Nat.reduceMul, Nat.reduceBEq, Nat.reduceLeDiff, Nat.reduceDvd, reduceCtorEq, Int.reduceToNat, Int.reduceLT, Int.reduceLE, Nat.le_refl, Int.le_refl, false_implies, implies_true, frzSlot, List.take_length, List.mem_cons, List.not_mem_nil, or_false, forall_eq_or_imp, forall_eq, List.range_succ, List.range_zero, exists_eq_left', Option.some.injEq, app_at0, app_at, app_set0, app_set, List.length_append, hb, hb0, c1]
    refine RCallK.intro (f20_r i hA2) ?_
    rw [ha.up]
    simp only [go_sem, Nat.reduceEqDiff, Nat.reduceLT, ↓reduceIte, Nat.reduceAdd, Nat.reduceSub, Nat.reduceMul, Nat.reduceBEq, Nat.reduceLeDiff, Nat.reduceDvd, reduceCtorEq, Int.reduceToNat, Int.reduceLT, Int.reduceLE, Nat.le_refl, Int.le_refl, false_implies, implies_true, frzSlot, List.take_length, List.mem_cons, List.not_mem_nil, or_false, forall_eq_or_imp, forall_eq, List.range_succ, List.range_zero, exists_eq_left', Option.some.injEq, app_at0, app_at, app_set0, app_set, List.length_append, hb, hb0]
    refine PCallK.intro (f38_c r i) ?_
    simp only [go_sem, Nat.reduceEqDiff, Nat.reduceLT, ↓reduceIte, Nat.reduceAdd, Nat.reduceSub, Nat.reduceMul, Nat.reduceBEq, Nat.reduceLeDiff, Nat.reduceDvd, reduceCtorEq, Int.reduceToNat, Int.reduceLT, Int.reduceLE, Nat.le_refl, Int.le_refl, false_implies, implies_true, frzSlot, List.take_length, List.mem_cons, List.not_mem_nil, or_false, forall_eq_or_imp, forall_eq, List.range_succ, List.range_zero, exists_eq_left', Option.some.injEq, app_at0, app_at, app_set0, app_set, List.length_append, hb, hb0, c2]
    refine RCallK.intro (f18_r i hg hA2) ?_
    rw [ha.waiting]
    simp only [go_sem, Nat.reduceEqDiff, Nat.reduceLT, ↓reduceIte, Nat.reduceAdd, Nat.reduceSub, Nat.reduceMul, Nat.reduceBEq, Nat.reduceLeDiff, Nat.reduceDvd, reduceCtorEq, Int.reduceToNat, Int.reduceLT, Int.reduceLE, Nat.le_refl, Int.le_refl, false_implies, implies_true, frzSlot, List.take_length, List.mem_cons, List.not_mem_nil, or_false, forall_eq_or_imp, forall_eq, List.range_succ, List.range_zero, exists_eq_left', Option.some.injEq, app_at0, app_at, app_set0, app_set, List.length_append, hb, hb0]
    refine PCallK.intro (f40_c r i) ?_
    simp only [go_sem, Nat.reduceEqDiff, Nat.reduceLT, ↓reduceIte, Nat.reduceAdd, Nat.reduceSub, Nat.reduceMul, Nat.reduceBEq, Nat.reduceLeDiff, Nat.reduceDvd, reduceCtorEq, Int.reduceToNat, Int.reduceLT, Int.reduceLE, Nat.le_refl, Int.le_refl, false_implies, implies_true, frzSlot, List.take_length, List.mem_cons, List.not_mem_nil, or_false, forall_eq_or_imp, forall_eq, List.range_succ, List.range_zero, exists_eq_left', Option.some.injEq, app_at0, app_at, app_set0, app_set, List.length_append, hb, hb0]
    refine PCallK.intro (f39_same _) ?_
    simp only [go_sem, Nat.reduceEqDiff, Nat.reduceLT, ↓reduceIte, Nat.reduceAdd, Nat.reduceSub, Nat.reduceMul, Nat.reduceBEq, Nat.reduceLeDiff, Nat.reduceDvd, reduceCtorEq, Int.reduceToNat, Int.reduceLT, Int.reduceLE, Nat.le_refl, Int.le_refl, false_implies, implies_true, frzSlot, List.take_length, List.mem_cons, List.not_mem_nil, or_false, forall_eq_or_imp, forall_eq, List.range_succ, List.range_zero, exists_eq_left', Option.some.injEq, app_at0, app_at, app_set0, app_set, List.length_append, hb, hb0]
    refine RCallK.intro (f19_r i hg hA2) ?_
    rw [ha.flying]
    simp only [go_sem, Nat.reduceEqDiff, Nat.reduceLT, ↓reduceIte, Nat.reduceAdd, Nat.reduceSub, Nat.reduceMul, Nat.reduceBEq, Nat.reduceLeDiff, Nat.reduceDvd, reduceCtorEq, Int.reduceToNat, Int.reduceLT, Int.reduceLE, Nat.le_refl, Int.le_refl, false_implies, implies_true, frzSlot, List.take_length, List.mem_cons, List.not_mem_nil, or_false, forall_eq_or_imp, forall_eq, List.range_succ, List.range_zero, exists_eq_left', Option.some.injEq, app_at0, app_at, app_set0, app_set, List.length_append, hb, hb0]
    refine PCallK.intro (f41_c r i hfl) ?_
    simp only [go_sem, Nat.reduceEqDiff, Nat.reduceLT, ↓reduceIte, Nat.reduceAdd, Nat.reduceSub, Nat.reduceMul, Nat.reduceBEq, Nat.reduceLeDiff, Nat.reduceDvd, reduceCtorEq, Int.reduceToNat, Int.reduceLT, Int.reduceLE, Nat.le_refl, Int.le_refl, false_implies, implies_true, frzSlot, List.take_length, List.mem_cons, List.not_mem_nil, or_false, forall_eq_or_imp, forall_eq, List.range_succ, List.range_zero, exists_eq_left', Option.some.injEq, app_at0, app_at, app_set0, app_set, List.length_append, hb, hb0]
    refine PCallK.intro (f39_same _) ?_
    simp only [go_sem, Nat.reduceEqDiff, Nat.reduceLT, ↓reduceIte, Nat.reduceAdd, Nat.reduceSub, Nat.reduceMul, Nat.reduceBEq, Nat.reduceLeDiff, Nat.reduceDvd, reduceCtorEq, Int.reduceToNat, Int.reduceLT, Int.reduceLE, Nat.le_refl, Int.le_refl, false_implies, implies_true, frzSlot, List.take_length, List.mem_cons, List.not_mem_nil, or_false, forall_eq_or_imp, forall_eq, List.range_succ, List.range_zero, exists_eq_left', Option.some.injEq, app_at0, app_at, app_set0, app_set, List.length_append, hb, hb0, wk]
    exact ⟨(k + 1, A ++ [some (rmeter r i).c, some (rmeter r i).c]), ⟨by dsimp only; omega, hA2, hx⟩, by dsimp only; omega, rfl, rfl⟩
  · have k1 : ¬ (k : Int) - 1 ≤ (r.l.length : Int) := by omega
    have hb0 : (H ++ (some r.c :: g))[H.length]? = some (some r.c) := by rw [app_at0]; rfl
    simp only [go_sem, Nat.reduceEqDiff, Nat.reduceLT, ↓reduceIte, Nat.reduceAdd, Nat.reduceSub, Nat.reduceMul, Nat.reduceBEq, Nat.reduceLeDiff, Nat.reduceDvd, reduceCtorEq, Int.reduceToNat, Int.reduceLT, Int.reduceLE, Nat.le_refl, Int.le_refl, false_implies, implies_true, frzSlot, List.take_length, List.mem_cons, List.not_mem_nil, or_false, forall_eq_or_imp, forall_eq, List.range_succ, List.range_zero, exists_eq_left', Option.some.injEq, hb0, k1]
    exact ⟨_, rfl⟩
end Go.AI
