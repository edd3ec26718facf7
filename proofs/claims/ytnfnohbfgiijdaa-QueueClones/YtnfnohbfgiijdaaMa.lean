/- Contracts of the reference's functions that look at values alone. -/
import Derived.Test.YtnfnohbfgiijdaaQd
import Derived.Test.YtnfnohbfgiijdaaWl
set_option linter.unusedSimpArgs false
set_option linter.unusedVariables false
namespace Go.AI
open Go.Proofs
set_option maxRecDepth 20000

theorem list_ne_at {α : Type} {a b : List α} {k : Nat} {x y : α} (ha : a[k]? = some x) (hb : b[k]? = some y) (h : x ≠ y) : a ≠ b := fun e => by
  subst e; rw [ha] at hb; cases hb; exact h rfl

theorem take_snoc {α : Type} {a : List α} {k : Nat} {x : α} (ha : a[k]? = some x) : a.take (k + 1) = a.take k ++ [x] := by
  rw [List.take_add_one, ha]; rfl

theorem f39_c (a b : List Packet) : PCall Try.prog 39 [.sl none (l45 a), .sl none (l45 b)] (.bool (decide (a = b))) := by
  refine PCall.fit call39 fun hf => ?_
  obtain ⟨⟨ha, _⟩, ⟨hb, _⟩, _⟩ := hf
  simp only [l45_len] at ha hb
  refine PCall.of h39 mixed h39_d Try.func39 rfl call39 (by simp [Try.f39]) (by simp [pureL, AV.pure, l45_pure]) rfl ?_
  by_cases hl : a.length = b.length
  · have hl' : ((a.length : Int) != b.length) = false := by simp [hl]
    simp only [Try.f39, go_sem, Nat.reduceEqDiff, Nat.reduceLT, ↓reduceIte, Nat.reduceAdd, Nat.reduceSub, Nat.reduceMul, Nat.reduceBEq, Nat.reduceLeDiff, Nat.reduceDvd, reduceCtorEq, Int.reduceToNat, Int.reduceLT, Int.reduceLE, Nat.le_refl, Int.le_refl, false_implies, implies_true, frzSlot, List.take_length, List.mem_cons, List.not_mem_nil, or_false, forall_eq_or_imp, forall_eq, List.range_succ, List.range_zero, exists_eq_left', Option.some.injEq, hl']
    refine awp_wh (σ := Nat) (fun k => [(0, .sl none (l45 a)), (1, .sl none (l45 b)), (5, .int .i64 (k : Int))]) (fun _ => []) (fun k => k ≤ a.length ∧ a.take k = b.take k) (fun k => a.length - k) 0 ⟨Nat.zero_le _, rfl⟩ rfl rfl ?_
    intro k ⟨hk, ht⟩
    by_cases hlt : k < a.length
    · obtain ⟨x, hx⟩ : ∃ x, a[k]? = some x := ⟨_, List.getElem?_eq_getElem hlt⟩
      obtain ⟨y, hy⟩ : ∃ y, b[k]? = some y := ⟨_, List.getElem?_eq_getElem (by omega)⟩
      have h0 : (0 : Int) ≤ (k : Int) := by omega
      have h1 : (k : Int) < (a.length : Int) := by omega
      by_cases hxy : x = y
      · have hd : decide (x = y) = true := by simp [hxy]
        simp only [go_sem, Nat.reduceEqDiff, Nat.reduceLT, ↓reduceIte, Nat.reduceAdd, Nat.reduceSub, Nat.reduceMul, Nat.reduceBEq, Nat.reduceLeDiff, Nat.reduceDvd, reduceCtorEq, Int.reduceToNat, Int.reduceLT, Int.reduceLE, Nat.le_refl, Int.le_refl, false_implies, implies_true, frzSlot, List.take_length, List.mem_cons, List.not_mem_nil, or_false, forall_eq_or_imp, forall_eq, List.range_succ, List.range_zero, exists_eq_left', Option.some.injEq, h0, h1, l45_get hx, l45_get hy, hd, w64s (show k < 9223372036854775807 by omega)]
        exact ⟨k + 1, ⟨by omega, by rw [take_snoc hx, take_snoc hy, ht, hxy]⟩, by omega, rfl, rfl⟩
      · have hd : decide (x = y) = false := by simp [hxy]
        have hne : decide (a = b) = false := by simp [list_ne_at hx hy hxy]
        simp only [go_sem, Nat.reduceEqDiff, Nat.reduceLT, ↓reduceIte, Nat.reduceAdd, Nat.reduceSub, Nat.reduceMul, Nat.reduceBEq, Nat.reduceLeDiff, Nat.reduceDvd, reduceCtorEq, Int.reduceToNat, Int.reduceLT, Int.reduceLE, Nat.le_refl, Int.le_refl, false_implies, implies_true, frzSlot, List.take_length, List.mem_cons, List.not_mem_nil, or_false, forall_eq_or_imp, forall_eq, List.range_succ, List.range_zero, exists_eq_left', Option.some.injEq, h0, h1, l45_get hx, l45_get hy, hd, hne]
    · have h1 : ¬ (k : Int) < (a.length : Int) := by omega
      have hab : decide (a = b) = true := by
        have h2 : k = a.length := by omega
        subst h2
        rw [List.take_length, hl, List.take_length] at ht
        simp [ht]
      simp only [go_sem, Nat.reduceEqDiff, Nat.reduceLT, ↓reduceIte, Nat.reduceAdd, Nat.reduceSub, Nat.reduceMul, Nat.reduceBEq, Nat.reduceLeDiff, Nat.reduceDvd, reduceCtorEq, Int.reduceToNat, Int.reduceLT, Int.reduceLE, Nat.le_refl, Int.le_refl, false_implies, implies_true, frzSlot, List.take_length, List.mem_cons, List.not_mem_nil, or_false, forall_eq_or_imp, forall_eq, List.range_succ, List.range_zero, exists_eq_left', Option.some.injEq, h1, hab]
  · have hl' : ((a.length : Int) != b.length) = true := by simp; omega
    have hne : decide (a = b) = false := by simp; exact fun e => hl (by rw [e])
    simp only [Try.f39, go_sem, Nat.reduceEqDiff, Nat.reduceLT, ↓reduceIte, Nat.reduceAdd, Nat.reduceSub, Nat.reduceMul, Nat.reduceBEq, Nat.reduceLeDiff, Nat.reduceDvd, reduceCtorEq, Int.reduceToNat, Int.reduceLT, Int.reduceLE, Nat.le_refl, Int.le_refl, false_implies, implies_true, frzSlot, List.take_length, List.mem_cons, List.not_mem_nil, or_false, forall_eq_or_imp, forall_eq, List.range_succ, List.range_zero, exists_eq_left', Option.some.injEq, hl', hne]

theorem f15_c (a b : List Passed) : PCall Try.prog 15 [.sl none (l57 a), .sl none (l57 b)] (.bool (decide (a = b))) := by
  refine PCall.fit call15 fun hf => ?_
  obtain ⟨⟨ha, _⟩, ⟨hb, _⟩, _⟩ := hf
  simp only [l57_len] at ha hb
  refine PCall.of h15 mixed h15_d Try.func15 rfl call15 (by simp [Try.f15]) (by simp [pureL, AV.pure, l57_pure]) rfl ?_
  by_cases hl : a.length = b.length
  · have hl' : ((a.length : Int) != b.length) = false := by simp [hl]
    simp only [Try.f15, go_sem, Nat.reduceEqDiff, Nat.reduceLT, ↓reduceIte, Nat.reduceAdd, Nat.reduceSub, Nat.reduceMul, Nat.reduceBEq, Nat.reduceLeDiff, Nat.reduceDvd, reduceCtorEq, Int.reduceToNat, Int.reduceLT, Int.reduceLE, Nat.le_refl, Int.le_refl, false_implies, implies_true, frzSlot, List.take_length, List.mem_cons, List.not_mem_nil, or_false, forall_eq_or_imp, forall_eq, List.range_succ, List.range_zero, exists_eq_left', Option.some.injEq, hl']
    refine awp_wh (σ := Nat) (fun k => [(0, .sl none (l57 a)), (1, .sl none (l57 b)), (5, .int .i64 (k : Int))]) (fun _ => []) (fun k => k ≤ a.length ∧ a.take k = b.take k) (fun k => a.length - k) 0 ⟨Nat.zero_le _, rfl⟩ rfl rfl ?_
    intro k ⟨hk, ht⟩
    by_cases hlt : k < a.length
    · obtain ⟨x, hx⟩ : ∃ x, a[k]? = some x := ⟨_, List.getElem?_eq_getElem hlt⟩
      obtain ⟨y, hy⟩ : ∃ y, b[k]? = some y := ⟨_, List.getElem?_eq_getElem (by omega)⟩
      have h0 : (0 : Int) ≤ (k : Int) := by omega
      have h1 : (k : Int) < (a.length : Int) := by omega
      by_cases hxy : x = y
      · have hd : decide (x = y) = true := by simp [hxy]
        simp only [go_sem, Nat.reduceEqDiff, Nat.reduceLT, ↓reduceIte, Nat.reduceAdd, Nat.reduceSub, Nat.reduceMul, Nat.reduceBEq, Nat.reduceLeDiff, Nat.reduceDvd, reduceCtorEq, Int.reduceToNat, Int.reduceLT, Int.reduceLE, Nat.le_refl, Int.le_refl, false_implies, implies_true, frzSlot, List.take_length, List.mem_cons, List.not_mem_nil, or_false, forall_eq_or_imp, forall_eq, List.range_succ, List.range_zero, exists_eq_left', Option.some.injEq, h0, h1, l57_get hx, l57_get hy, hd, w64s (show k < 9223372036854775807 by omega)]
        exact ⟨k + 1, ⟨by omega, by rw [take_snoc hx, take_snoc hy, ht, hxy]⟩, by omega, rfl, rfl⟩
      · have hd : decide (x = y) = false := by simp [hxy]
        have hne : decide (a = b) = false := by simp [list_ne_at hx hy hxy]
        simp only [go_sem, Nat.reduceEqDiff, Nat.reduceLT, ↓reduceIte, Nat.reduceAdd, Nat.reduceSub, Nat.reduceMul, Nat.reduceBEq, Nat.reduceLeDiff, Nat.reduceDvd, reduceCtorEq, Int.reduceToNat, Int.reduceLT, Int.reduceLE, Nat.le_refl, Int.le_refl, false_implies, implies_true, frzSlot, List.take_length, List.mem_cons, List.not_mem_nil, or_false, forall_eq_or_imp, forall_eq, List.range_succ, List.range_zero, exists_eq_left', Option.some.injEq, h0, h1, l57_get hx, l57_get hy, hd, hne]
    · have h1 : ¬ (k : Int) < (a.length : Int) := by omega
      have hab : decide (a = b) = true := by
        have h2 : k = a.length := by omega
        subst h2
        rw [List.take_length, hl, List.take_length] at ht
        simp [ht]
      simp only [go_sem, Nat.reduceEqDiff, Nat.reduceLT, ↓reduceIte, Nat.reduceAdd, Nat.reduceSub, Nat.reduceMul, Nat.reduceBEq, Nat.reduceLeDiff, Nat.reduceDvd, reduceCtorEq, Int.reduceToNat, Int.reduceLT, Int.reduceLE, Nat.le_refl, Int.le_refl, false_implies, implies_true, frzSlot, List.take_length, List.mem_cons, List.not_mem_nil, or_false, forall_eq_or_imp, forall_eq, List.range_succ, List.range_zero, exists_eq_left', Option.some.injEq, h1, hab]
  · have hl' : ((a.length : Int) != b.length) = true := by simp; omega
    have hne : decide (a = b) = false := by simp; exact fun e => hl (by rw [e])
    simp only [Try.f15, go_sem, Nat.reduceEqDiff, Nat.reduceLT, ↓reduceIte, Nat.reduceAdd, Nat.reduceSub, Nat.reduceMul, Nat.reduceBEq, Nat.reduceLeDiff, Nat.reduceDvd, reduceCtorEq, Int.reduceToNat, Int.reduceLT, Int.reduceLE, Nat.le_refl, Int.le_refl, false_implies, implies_true, frzSlot, List.take_length, List.mem_cons, List.not_mem_nil, or_false, forall_eq_or_imp, forall_eq, List.range_succ, List.range_zero, exists_eq_left', Option.some.injEq, hl', hne]
end Go.AI

/- Contracts of the reference's functions over whole queues: what they look up. -/
namespace Go.AI
open Go.Proofs
set_option maxRecDepth 20000

def rhas (q : RQ) (k : Int) : Bool := decide (0 ≤ k) && decide (k < q.l.length)

theorem f53_c (q : RQ) (k : Int) : PCall Try.prog 53 [.agg q.c, .int .i64 k] (.bool (rhas q k)) := by
  refine PCall.of h53 mixed h53_d Try.func53 rfl call53 (by simp [Try.f53]) (by simp [pureL, AV.pure, go_sem]) rfl ?_
  unfold rhas
  by_cases h0 : 0 ≤ k
  · simp only [Try.f53, go_sem, Nat.reduceEqDiff, Nat.reduceLT, ↓reduceIte, Nat.reduceAdd, Nat.reduceSub, Nat.reduceMul, Nat.reduceBEq, Nat.reduceLeDiff, Nat.reduceDvd, reduceCtorEq, Int.reduceToNat, Int.reduceLT, Int.reduceLE, Nat.le_refl, Int.le_refl, false_implies, implies_true, frzSlot, List.take_length, List.mem_cons, List.not_mem_nil, or_false, forall_eq_or_imp, forall_eq, List.range_succ, List.range_zero, exists_eq_left', Option.some.injEq, h0]
  · simp only [Try.f53, go_sem, Nat.reduceEqDiff, Nat.reduceLT, ↓reduceIte, Nat.reduceAdd, Nat.reduceSub, Nat.reduceMul, Nat.reduceBEq, Nat.reduceLeDiff, Nat.reduceDvd, reduceCtorEq, Int.reduceToNat, Int.reduceLT, Int.reduceLE, Nat.le_refl, Int.le_refl, false_implies, implies_true, frzSlot, List.take_length, List.mem_cons, List.not_mem_nil, or_false, forall_eq_or_imp, forall_eq, List.range_succ, List.range_zero, exists_eq_left', Option.some.injEq, h0]

def rup (q : RQ) (k : Int) : Bool := rhas q k && (q.l[k.toNat]?.any (·.up))

theorem rhas_get {q : RQ} {k : Int} (h : rhas q k = true) : 0 ≤ k ∧ ∃ x, q.l[k.toNat]? = some x := by
  simp only [rhas, Bool.and_eq_true, decide_eq_true_eq] at h
  exact ⟨h.1, _, List.getElem?_eq_getElem (by omega)⟩

theorem f38_c (q : RQ) (k : Int) : PCall Try.prog 38 [.agg q.c, .int .i64 k] (.bool (rup q k)) := by
  refine PCall.of h38 mixed h38_d Try.func38 rfl call38 (by simp [Try.f38]) (by simp [pureL, AV.pure, go_sem]) rfl ?_
  unfold rup
  cases hh : rhas q k
  · simp only [Try.f38, go_sem, Nat.reduceEqDiff, Nat.reduceLT, ↓reduceIte, Nat.reduceAdd, Nat.reduceSub, Nat.reduceMul, Nat.reduceBEq, Nat.reduceLeDiff, Nat.reduceDvd, reduceCtorEq, Int.reduceToNat, Int.reduceLT, Int.reduceLE, Nat.le_refl, Int.le_refl, false_implies, implies_true, frzSlot, List.take_length, List.mem_cons, List.not_mem_nil, or_false, forall_eq_or_imp, forall_eq, List.range_succ, List.range_zero, exists_eq_left', Option.some.injEq]
    refine PCallK.intro (f53_c q k) ?_
    simp only [go_sem, Nat.reduceEqDiff, Nat.reduceLT, ↓reduceIte, Nat.reduceAdd, Nat.reduceSub, Nat.reduceMul, Nat.reduceBEq, Nat.reduceLeDiff, Nat.reduceDvd, reduceCtorEq, Int.reduceToNat, Int.reduceLT, Int.reduceLE, Nat.le_refl, Int.le_refl, false_implies, implies_true, frzSlot, List.take_length, List.mem_cons, List.not_mem_nil, or_false, forall_eq_or_imp, forall_eq, List.range_succ, List.range_zero, exists_eq_left', Option.some.injEq, hh]
  · obtain ⟨h0, x, hx⟩ := rhas_get hh
    simp only [Try.f38, go_sem, Nat.reduceEqDiff, Nat.reduceLT, ↓reduceIte, Nat.reduceAdd, Nat.reduceSub, Nat.reduceMul, Nat.reduceBEq, Nat.reduceLeDiff, Nat.reduceDvd, reduceCtorEq, Int.reduceToNat, Int.reduceLT, Int.reduceLE, Nat.le_refl, Int.le_refl, false_implies, implies_true, frzSlot, List.take_length, List.mem_cons, List.not_mem_nil, or_false, forall_eq_or_imp, forall_eq, List.range_succ, List.range_zero, exists_eq_left', Option.some.injEq]
    refine PCallK.intro (f53_c q k) ?_
    simp only [go_sem, Nat.reduceEqDiff, Nat.reduceLT, ↓reduceIte, Nat.reduceAdd, Nat.reduceSub, Nat.reduceMul, Nat.reduceBEq, Nat.reduceLeDiff, Nat.reduceDvd, reduceCtorEq, Int.reduceToNat, Int.reduceLT, Int.reduceLE, Nat.le_refl, Int.le_refl, false_implies, implies_true, frzSlot, List.take_length, List.mem_cons, List.not_mem_nil, or_false, forall_eq_or_imp, forall_eq, List.range_succ, List.range_zero, exists_eq_left', Option.some.injEq, hh, hx, h0, l90_get hx]

def rmeter (q : RQ) (k : Int) : Meter := if rhas q k = true then ((q.l[k.toNat]?).map (·.meter)).getD ⟨0, 0, 0, 0, 0⟩ else ⟨0, 0, 0, 0, 0⟩

theorem f37_c (q : RQ) (k : Int) : PCall Try.prog 37 [.agg q.c, .int .i64 k] (.tup [.agg (rmeter q k).c, .bool (rhas q k)]) := by
  refine PCall.of h37 mixed h37_d Try.func37 rfl call37 (by simp [Try.f37]) (by simp [pureL, AV.pure, go_sem]) (by simp [pureL, AV.pure, go_sem]) ?_
  unfold rmeter
  cases hh : rhas q k
  · simp only [Try.f37, go_sem, Nat.reduceEqDiff, Nat.reduceLT, ↓reduceIte, Nat.reduceAdd, Nat.reduceSub, Nat.reduceMul, Nat.reduceBEq, Nat.reduceLeDiff, Nat.reduceDvd, reduceCtorEq, Int.reduceToNat, Int.reduceLT, Int.reduceLE, Nat.le_refl, Int.le_refl, false_implies, implies_true, frzSlot, List.take_length, List.mem_cons, List.not_mem_nil, or_false, forall_eq_or_imp, forall_eq, List.range_succ, List.range_zero, exists_eq_left', Option.some.injEq]
    refine PCallK.intro (f53_c q k) ?_
    simp only [go_sem, Nat.reduceEqDiff, Nat.reduceLT, ↓reduceIte, Nat.reduceAdd, Nat.reduceSub, Nat.reduceMul, Nat.reduceBEq, Nat.reduceLeDiff, Nat.reduceDvd, reduceCtorEq, Int.reduceToNat, Int.reduceLT, Int.reduceLE, Nat.le_refl, Int.le_refl, false_implies, implies_true, frzSlot, List.take_length, List.mem_cons, List.not_mem_nil, or_false, forall_eq_or_imp, forall_eq, List.range_succ, List.range_zero, exists_eq_left', Option.some.injEq, hh]
    rfl
  · obtain ⟨h0, x, hx⟩ := rhas_get hh
    simp only [Try.f37, go_sem, Nat.reduceEqDiff, Nat.reduceLT, ↓reduceIte, Nat.reduceAdd, Nat.reduceSub, Nat.reduceMul, Nat.reduceBEq, Nat.reduceLeDiff, Nat.reduceDvd, reduceCtorEq, Int.reduceToNat, Int.reduceLT, Int.reduceLE, Nat.le_refl, Int.le_refl, false_implies, implies_true, frzSlot, List.take_length, List.mem_cons, List.not_mem_nil, or_false, forall_eq_or_imp, forall_eq, List.range_succ, List.range_zero, exists_eq_left', Option.some.injEq]
    refine PCallK.intro (f53_c q k) ?_
    simp only [go_sem, Nat.reduceEqDiff, Nat.reduceLT, ↓reduceIte, Nat.reduceAdd, Nat.reduceSub, Nat.reduceMul, Nat.reduceBEq, Nat.reduceLeDiff, Nat.reduceDvd, reduceCtorEq, Int.reduceToNat, Int.reduceLT, Int.reduceLE, Nat.le_refl, Int.le_refl, false_implies, implies_true, frzSlot, List.take_length, List.mem_cons, List.not_mem_nil, or_false, forall_eq_or_imp, forall_eq, List.range_succ, List.range_zero, exists_eq_left', Option.some.injEq, hh, hx, h0, l90_get hx]

def rwaiting (q : RQ) (k : Int) : List Packet := if rhas q k = true then ((q.l[k.toNat]?).map (·.waiting)).getD [] else []

theorem f40_c (q : RQ) (k : Int) : PCall Try.prog 40 [.agg q.c, .int .i64 k] (.sl none (l45 (rwaiting q k))) := by
  refine PCall.ofB h40 mixed h40_d Try.func40 rfl call40 (by simp [Try.f40]) (by simp [pureL, AV.pure, go_sem]) (by simp [pureL, AV.pure, go_sem]) ?_
  unfold rwaiting
  cases hh : rhas q k
  · simp only [Try.f40, go_sem, Nat.reduceEqDiff, Nat.reduceLT, ↓reduceIte, Nat.reduceAdd, Nat.reduceSub, Nat.reduceMul, Nat.reduceBEq, Nat.reduceLeDiff, Nat.reduceDvd, reduceCtorEq, Int.reduceToNat, Int.reduceLT, Int.reduceLE, Nat.le_refl, Int.le_refl, false_implies, implies_true, frzSlot, List.take_length, List.mem_cons, List.not_mem_nil, or_false, forall_eq_or_imp, forall_eq, List.range_succ, List.range_zero, exists_eq_left', Option.some.injEq]
    refine PCallK.intro (f53_c q k) ?_
    simp only [go_sem, Nat.reduceEqDiff, Nat.reduceLT, ↓reduceIte, Nat.reduceAdd, Nat.reduceSub, Nat.reduceMul, Nat.reduceBEq, Nat.reduceLeDiff, Nat.reduceDvd, reduceCtorEq, Int.reduceToNat, Int.reduceLT, Int.reduceLE, Nat.le_refl, Int.le_refl, false_implies, implies_true, frzSlot, List.take_length, List.mem_cons, List.not_mem_nil, or_false, forall_eq_or_imp, forall_eq, List.range_succ, List.range_zero, exists_eq_left', Option.some.injEq, hh]
  · obtain ⟨h0, x, hx⟩ := rhas_get hh
    simp only [Try.f40, go_sem, Nat.reduceEqDiff, Nat.reduceLT, ↓reduceIte, Nat.reduceAdd, Nat.reduceSub, Nat.reduceMul, Nat.reduceBEq, Nat.reduceLeDiff, Nat.reduceDvd, reduceCtorEq, Int.reduceToNat, Int.reduceLT, Int.reduceLE, Nat.le_refl, Int.le_refl, false_implies, implies_true, frzSlot, List.take_length, List.mem_cons, List.not_mem_nil, or_false, forall_eq_or_imp, forall_eq, List.range_succ, List.range_zero, exists_eq_left', Option.some.injEq]
    refine PCallK.intro (f53_c q k) ?_
    simp only [go_sem, Nat.reduceEqDiff, Nat.reduceLT, ↓reduceIte, Nat.reduceAdd, Nat.reduceSub, Nat.reduceMul, Nat.reduceBEq, Nat.reduceLeDiff, Nat.reduceDvd, reduceCtorEq, Int.reduceToNat, Int.reduceLT, Int.reduceLE, Nat.le_refl, Int.le_refl, false_implies, implies_true, frzSlot, List.take_length, List.mem_cons, List.not_mem_nil, or_false, forall_eq_or_imp, forall_eq, List.range_succ, List.range_zero, exists_eq_left', Option.some.injEq, hh, hx, h0, l90_get hx]

def ridle (q : RQ) : Bool := q.l.all fun x => x.waiting.isEmpty && x.flights.isEmpty

theorem len_pos {α : Type} (l : List α) : decide ((0 : Int) < (l.length : Int)) = !l.isEmpty := by cases l <;> simp <;> omega

theorem fit_rq {q : RQ} (hf : fitL [AV.agg q.c]) : q.l.length ≤ 9223372036854775807 := by
  simp only [fitL, AV.fit, RQ.cf, l90_len] at hf
  exact hf.1.2.2.2.2.2.2.1.1

theorem f36_c (q : RQ) : PCall Try.prog 36 [.agg q.c] (.bool (ridle q)) := by
  refine PCall.fit call36 fun hf => ?_
  have hl := fit_rq hf
  refine PCall.of h36 mixed h36_d Try.func36 rfl call36 (by simp [Try.f36]) (by simp [pureL, AV.pure, go_sem]) rfl ?_
  simp only [Try.f36, go_sem, Nat.reduceEqDiff, Nat.reduceLT, ↓reduceIte, Nat.reduceAdd, Nat.reduceSub, Nat.reduceMul, Nat.reduceBEq, Nat.reduceLeDiff, Nat.reduceDvd, reduceCtorEq, Int.reduceToNat, Int.reduceLT, Int.reduceLE, Nat.le_refl, Int.le_refl, false_implies, implies_true, frzSlot, List.take_length, List.mem_cons, List.not_mem_nil, or_false, forall_eq_or_imp, forall_eq, List.range_succ, List.range_zero, exists_eq_left', Option.some.injEq]
  refine awp_wh (σ := Nat) (fun k => [(1, .ptr 0 0), (3, .int .i64 (k : Int))]) (fun _ => [some q.c]) (fun k => k ≤ q.l.length ∧ ridle q = (q.l.drop k).all fun x => x.waiting.isEmpty && x.flights.isEmpty) (fun k => q.l.length - k) 0 ⟨Nat.zero_le _, rfl⟩ rfl rfl ?_
  intro k ⟨hk, hd⟩
  by_cases hlt : k < q.l.length
  · obtain ⟨x, hx⟩ : ∃ x, q.l[k]? = some x := ⟨_, List.getElem?_eq_getElem hlt⟩
    have h0 : (0 : Int) ≤ (k : Int) := by omega
    have h1 : (k : Int) < (q.l.length : Int) := by omega
    rw [drop_at hx, List.all_cons] at hd
    cases hw : x.waiting.isEmpty
    · simp only [go_sem, Nat.reduceEqDiff, Nat.reduceLT, ↓reduceIte, Nat.reduceAdd, Nat.reduceSub, Nat.reduceMul, Nat.reduceBEq, Nat.reduceLeDiff, Nat.reduceDvd, reduceCtorEq, Int.reduceToNat, Int.reduceLT, Int.reduceLE, Nat.le_refl, Int.le_refl, false_implies, implies_true, frzSlot, List.take_length, List.mem_cons, List.not_mem_nil, or_false, forall_eq_or_imp, forall_eq, List.range_succ, List.range_zero, exists_eq_left', Option.some.injEq, h0, h1, l90_get hx, len_pos, hw, hd]
    · cases hg : x.flights.isEmpty
      · simp only [go_sem, Nat.reduceEqDiff, Nat.reduceLT, ↓reduceIte, Nat.reduceAdd, Nat.reduceSub, Nat.reduceMul, Nat.reduceBEq, Nat.reduceLeDiff, Nat.reduceDvd, reduceCtorEq, Int.reduceToNat, Int.reduceLT, Int.reduceLE, Nat.le_refl, Int.le_refl, false_implies, implies_true, frzSlot, List.take_length, List.mem_cons, List.not_mem_nil, or_false, forall_eq_or_imp, forall_eq, List.range_succ, List.range_zero, exists_eq_left', Option.some.injEq, h0, h1, l90_get hx, len_pos, hw, hg, hd]
      · simp only [go_sem, Nat.reduceEqDiff, Nat.reduceLT, ↓reduceIte, Nat.reduceAdd, Nat.reduceSub, Nat.reduceMul, Nat.reduceBEq, Nat.reduceLeDiff, Nat.reduceDvd, reduceCtorEq, Int.reduceToNat, Int.reduceLT, Int.reduceLE, Nat.le_refl, Int.le_refl, false_implies, implies_true, frzSlot, List.take_length, List.mem_cons, List.not_mem_nil, or_false, forall_eq_or_imp, forall_eq, List.range_succ, List.range_zero, exists_eq_left', Option.some.injEq, h0, h1, l90_get hx, len_pos, hw, hg, w64s (show k < 9223372036854775807 by omega)]
        exact ⟨k + 1, ⟨by omega, by simp [hd, hw, hg]⟩, by omega, rfl, rfl⟩
  · have h1 : ¬ (k : Int) < (q.l.length : Int) := by omega
    rw [List.drop_of_length_le (by omega)] at hd
    simp only [go_sem, Nat.reduceEqDiff, Nat.reduceLT, ↓reduceIte, Nat.reduceAdd, Nat.reduceSub, Nat.reduceMul, Nat.reduceBEq, Nat.reduceLeDiff, Nat.reduceDvd, reduceCtorEq, Int.reduceToNat, Int.reduceLT, Int.reduceLE, Nat.le_refl, Int.le_refl, false_implies, implies_true, frzSlot, List.take_length, List.mem_cons, List.not_mem_nil, or_false, forall_eq_or_imp, forall_eq, List.range_succ, List.range_zero, exists_eq_left', Option.some.injEq, h1, hd, List.all_nil]

def rflying (q : RQ) (k : Int) : List Packet := if rhas q k = true then ((q.l[k.toNat]?).map fun x => x.flights.map (·.packet)).getD [] else []

theorem fit_flights {q : RQ} (hf : fitL [AV.agg q.c]) {x : RLine} {k : Nat} (hx : q.l[k]? = some x) : x.flights.length ≤ 9223372036854775807 := by
  simp only [fitL, AV.fit, RQ.cf] at hf
  have h1 := fitL_iff.1 hf.1.2.2.2.2.2.2.1.2 _ (List.mem_of_getElem? (l90_get hx))
  simp only [fitL, AV.fit, RLine.cf, l121_len] at h1
  exact h1.2.2.2.2.2.2.2.1.1

theorem fit_waiting {q : RQ} (hf : fitL [AV.agg q.c]) {x : RLine} {k : Nat} (hx : q.l[k]? = some x) : x.waiting.length ≤ 9223372036854775807 := by
  simp only [fitL, AV.fit, RQ.cf] at hf
  have h1 := fitL_iff.1 hf.1.2.2.2.2.2.2.1.2 _ (List.mem_of_getElem? (l90_get hx))
  simp only [fitL, AV.fit, RLine.cf, l45_len] at h1
  exact h1.2.2.2.2.2.2.1.1

theorem f41_c (q : RQ) (k : Int) (hfl : ∀ x ∈ q.l, x.flights.length ≤ 1000000) : PCall Try.prog 41 [.agg q.c, .int .i64 k] (.sl none (l45 (rflying q k))) := by
  refine PCall.ofB h41 mixed h41_d Try.func41 rfl call41 (by simp [Try.f41]) (by simp [pureL, AV.pure, go_sem]) (by simp [pureL, AV.pure, go_sem]) ?_
  unfold rflying
  cases hh : rhas q k
  · simp only [Try.f41, go_sem, Nat.reduceEqDiff, Nat.reduceLT, ↓reduceIte, Nat.reduceAdd, Nat.reduceSub, Nat.reduceMul, Nat.reduceBEq, Nat.reduceLeDiff, Nat.reduceDvd, reduceCtorEq, Int.reduceToNat, Int.reduceLT, Int.reduceLE, Nat.le_refl, Int.le_refl, false_implies, implies_true, frzSlot, List.take_length, List.mem_cons, List.not_mem_nil, or_false, forall_eq_or_imp, forall_eq, List.range_succ, List.range_zero, exists_eq_left', Option.some.injEq]
    refine PCallK.intro (f53_c q k) ?_
    simp only [go_sem, Nat.reduceEqDiff, Nat.reduceLT, ↓reduceIte, Nat.reduceAdd, Nat.reduceSub, Nat.reduceMul, Nat.reduceBEq, Nat.reduceLeDiff, Nat.reduceDvd, reduceCtorEq, Int.reduceToNat, Int.reduceLT, Int.reduceLE, Nat.le_refl, Int.le_refl, false_implies, implies_true, frzSlot, List.take_length, List.mem_cons, List.not_mem_nil, or_false, forall_eq_or_imp, forall_eq, List.range_succ, List.range_zero, exists_eq_left', Option.some.injEq, hh]
  · obtain ⟨h0, x, hx⟩ := rhas_get hh
    have hlx := hfl x (List.mem_of_getElem? hx)
    simp only [Try.f41, go_sem, Nat.reduceEqDiff, Nat.reduceLT, ↓reduceIte, Nat.reduceAdd, Nat.reduceSub, Nat.reduceMul, Nat.reduceBEq, Nat.reduceLeDiff, Nat.reduceDvd, reduceCtorEq, Int.reduceToNat, Int.reduceLT, Int.reduceLE, Nat.le_refl, Int.le_refl, false_implies, implies_true, frzSlot, List.take_length, List.mem_cons, List.not_mem_nil, or_false, forall_eq_or_imp, forall_eq, List.range_succ, List.range_zero, exists_eq_left', Option.some.injEq]
    refine PCallK.intro (f53_c q k) ?_
    simp only [go_sem, Nat.reduceEqDiff, Nat.reduceLT, ↓reduceIte, Nat.reduceAdd, Nat.reduceSub, Nat.reduceMul, Nat.reduceBEq, Nat.reduceLeDiff, Nat.reduceDvd, reduceCtorEq, Int.reduceToNat, Int.reduceLT, Int.reduceLE, Nat.le_refl, Int.le_refl, false_implies, implies_true, frzSlot, List.take_length, List.mem_cons, List.not_mem_nil, or_false, forall_eq_or_imp, forall_eq, List.range_succ, List.range_zero, exists_eq_left', Option.some.injEq, hh, hx, h0, l90_get hx]
    refine awp_for x.flights.length (fun j => [(1, .int .i64 k), (2, .ptr 0 0), (6, .sl (some 11) (l45 ((x.flights.take j).map (·.packet)))), (7, .int .i64 (j : Int))]) (fun _ => [some q.c]) rfl rfl ?_
    intro j hj
    by_cases hlt : j < x.flights.length
    · obtain ⟨y, hy⟩ : ∃ y, x.flights[j]? = some y := ⟨_, List.getElem?_eq_getElem hlt⟩
      have g0 : (0 : Int) ≤ (j : Int) := by omega
      have g1 : (j : Int) < (x.flights.length : Int) := by omega
      have g2 : (min j x.flights.length + 1) * 88 ≤ 140737488355328 := by omega
      have g3 : min j x.flights.length + 1 ≤ 9223372036854775807 := by omega
      simp only [go_sem, Nat.reduceEqDiff, Nat.reduceLT, ↓reduceIte, Nat.reduceAdd, Nat.reduceSub, Nat.reduceMul, Nat.reduceBEq, Nat.reduceLeDiff, Nat.reduceDvd, reduceCtorEq, Int.reduceToNat, Int.reduceLT, Int.reduceLE, Nat.le_refl, Int.le_refl, false_implies, implies_true, frzSlot, List.take_length, List.mem_cons, List.not_mem_nil, or_false, forall_eq_or_imp, forall_eq, List.range_succ, List.range_zero, exists_eq_left', Option.some.injEq, h0, g0, g1, l90_get hx, l121_get hy, w64s (show j < 9223372036854775807 by omega), List.length_map, List.length_take, g2, g3]
      exact ⟨hlt, by simp only [take_snoc hy, List.map_append, l45_append]; rfl, rfl⟩
    · have g1 : ¬ (j : Int) < (x.flights.length : Int) := by omega
      have g2 : x.flights.take j = x.flights := List.take_of_length_le (by omega)
      simp only [go_sem, Nat.reduceEqDiff, Nat.reduceLT, ↓reduceIte, Nat.reduceAdd, Nat.reduceSub, Nat.reduceMul, Nat.reduceBEq, Nat.reduceLeDiff, Nat.reduceDvd, reduceCtorEq, Int.reduceToNat, Int.reduceLT, Int.reduceLE, Nat.le_refl, Int.le_refl, false_implies, implies_true, frzSlot, List.take_length, List.mem_cons, List.not_mem_nil, or_false, forall_eq_or_imp, forall_eq, List.range_succ, List.range_zero, exists_eq_left', Option.some.injEq, h0, g1, l90_get hx, g2]

def rwith (q : RQ) (k : Int) (x : RLine) : RQ := { q with l := q.l.set k.toNat x }

theorem f54_c (q : RQ) (k : Int) (x : RLine) (h0 : 0 ≤ k) (h1 : k < q.l.length) (hs : q.l.length * 96 ≤ 140737488355328) : PCall Try.prog 54 [.agg q.c, .int .i64 k, .agg x.c] (.agg (rwith q k x).c) := by
  refine PCall.ofB h54 mixed h54_d Try.func54 rfl call54 (by simp [Try.f54]) (by simp [pureL, AV.pure, go_sem]) (by simp [pureL, AV.pure, go_sem]) ?_
  unfold rwith
  have g1 : q.l.length ≤ 9223372036854775807 := by omega
  have hlt : k.toNat < q.l.length := by omega
  have g2 : k.toNat * 8 + 8 ≤ (q.l.flatMap RLine.c).length := room_flat RLine.c_len hlt (o := 0) (m := 8) (by omega)
  have g3 : splice (q.l.flatMap RLine.c) (k.toNat * 8) x.c = (q.l.set k.toNat x).flatMap RLine.c := put_flat0 RLine.c_len hlt x
  have g4 : q.l.length * 8 ≤ ((q.l.set k.toNat x).flatMap RLine.c).length := by rw [len_flat RLine.c_len]; simp
  have g5 : chunk true 8 q.l.length ((q.l.set k.toNat x).flatMap RLine.c) = l90 (q.l.set k.toNat x) := chunk_len RLine.c_len (by simp)
  simp only [Try.f54, go_sem, Nat.reduceEqDiff, Nat.reduceLT, ↓reduceIte, Nat.reduceAdd, Nat.reduceSub, Nat.reduceMul, Nat.reduceBEq, Nat.reduceLeDiff, Nat.reduceDvd, reduceCtorEq, Int.reduceToNat, Int.reduceLT, Int.reduceLE, Nat.le_refl, Int.le_refl, false_implies, implies_true, frzSlot, List.take_length, List.mem_cons, List.not_mem_nil, or_false, forall_eq_or_imp, forall_eq, List.range_succ, List.range_zero, exists_eq_left', Option.some.injEq, h0, h1, hs, g1, l90_cat, l90_bor, g2, g3, g4, g5]

/-- Short enough to be handled. -/
def RQ.small (q : RQ) : Prop := q.l.length ≤ 1000 ∧ ∀ x ∈ q.l, x.waiting.length ≤ 1000000 ∧ x.flights.length ≤ 1000000

def rswitch (q : RQ) (k : Int) (up : Bool) : RQ × Int :=
  match rhas q k, q.l[k.toNat]? with
  | true, some x => (rwith q k (match up with
    | true => { x with up := true }
    | false => { x with meter := { x.meter with lost := IntKind.i64.wrap (x.meter.lost + x.flights.length) }, flights := [], up := false }), 0)
  | _, _ => (q, 1)

theorem f35_c (q : RQ) (k : Int) (up : Bool) (hq : q.small) : PCall Try.prog 35 [.agg q.c, .int .i64 k, .bool up] (.tup [.agg (rswitch q k up).1.c, .int .i64 (rswitch q k up).2]) := by
  refine PCall.ofB h35 mixed h35_d Try.func35 rfl call35 (by simp [Try.f35]) (by simp [pureL, AV.pure, go_sem]) (by simp [pureL, AV.pure, go_sem]) ?_
  unfold rswitch
  cases hh : rhas q k
  · simp only [Try.f35, go_sem, Nat.reduceEqDiff, Nat.reduceLT, ↓reduceIte, Nat.reduceAdd, Nat.reduceSub, Nat.reduceMul, Nat.reduceBEq, Nat.reduceLeDiff, Nat.reduceDvd, reduceCtorEq, Int.reduceToNat, Int.reduceLT, Int.reduceLE, Nat.le_refl, Int.le_refl, false_implies, implies_true, frzSlot, List.take_length, List.mem_cons, List.not_mem_nil, or_false, forall_eq_or_imp, forall_eq, List.range_succ, List.range_zero, exists_eq_left', Option.some.injEq]
    refine PCallK.intro (f53_c q k) ?_
    simp only [go_sem, Nat.reduceEqDiff, Nat.reduceLT, ↓reduceIte, Nat.reduceAdd, Nat.reduceSub, Nat.reduceMul, Nat.reduceBEq, Nat.reduceLeDiff, Nat.reduceDvd, reduceCtorEq, Int.reduceToNat, Int.reduceLT, Int.reduceLE, Nat.le_refl, Int.le_refl, false_implies, implies_true, frzSlot, List.take_length, List.mem_cons, List.not_mem_nil, or_false, forall_eq_or_imp, forall_eq, List.range_succ, List.range_zero, exists_eq_left', Option.some.injEq, hh]
  · obtain ⟨h0, x, hx⟩ := rhas_get hh
    have h1 : k < q.l.length := by have := (List.getElem?_eq_some_iff.1 hx).1; omega
    have hs : q.l.length * 96 ≤ 140737488355328 := by have := hq.1; omega
    cases up
    · simp only [Try.f35, go_sem, Nat.reduceEqDiff, Nat.reduceLT, ↓reduceIte, Nat.reduceAdd, Nat.reduceSub, Nat.reduceMul, Nat.reduceBEq, Nat.reduceLeDiff, Nat.reduceDvd, reduceCtorEq, Int.reduceToNat, Int.reduceLT, Int.reduceLE, Nat.le_refl, Int.le_refl, false_implies, implies_true, frzSlot, List.take_length, List.mem_cons, List.not_mem_nil, or_false, forall_eq_or_imp, forall_eq, List.range_succ, List.range_zero, exists_eq_left', Option.some.injEq]
      refine PCallK.intro (f53_c q k) ?_
      simp only [go_sem, Nat.reduceEqDiff, Nat.reduceLT, ↓reduceIte, Nat.reduceAdd, Nat.reduceSub, Nat.reduceMul, Nat.reduceBEq, Nat.reduceLeDiff, Nat.reduceDvd, reduceCtorEq, Int.reduceToNat, Int.reduceLT, Int.reduceLE, Nat.le_refl, Int.le_refl, false_implies, implies_true, frzSlot, List.take_length, List.mem_cons, List.not_mem_nil, or_false, forall_eq_or_imp, forall_eq, List.range_succ, List.range_zero, exists_eq_left', Option.some.injEq, hh, hx, h0, l90_get hx]
      refine PCallK.intro (f54_c q k _ h0 h1 hs) ?_
      simp only [go_sem, Nat.reduceEqDiff, Nat.reduceLT, ↓reduceIte, Nat.reduceAdd, Nat.reduceSub, Nat.reduceMul, Nat.reduceBEq, Nat.reduceLeDiff, Nat.reduceDvd, reduceCtorEq, Int.reduceToNat, Int.reduceLT, Int.reduceLE, Nat.le_refl, Int.le_refl, false_implies, implies_true, frzSlot, List.take_length, List.mem_cons, List.not_mem_nil, or_false, forall_eq_or_imp, forall_eq, List.range_succ, List.range_zero, exists_eq_left', Option.some.injEq]
    · simp only [Try.f35, go_sem, Nat.reduceEqDiff, Nat.reduceLT, ↓reduceIte, Nat.reduceAdd, Nat.reduceSub, Nat.reduceMul, Nat.reduceBEq, Nat.reduceLeDiff, Nat.reduceDvd, reduceCtorEq, Int.reduceToNat, Int.reduceLT, Int.reduceLE, Nat.le_refl, Int.le_refl, false_implies, implies_true, frzSlot, List.take_length, List.mem_cons, List.not_mem_nil, or_false, forall_eq_or_imp, forall_eq, List.range_succ, List.range_zero, exists_eq_left', Option.some.injEq]
      refine PCallK.intro (f53_c q k) ?_
      simp only [go_sem, Nat.reduceEqDiff, Nat.reduceLT, ↓reduceIte, Nat.reduceAdd, Nat.reduceSub, Nat.reduceMul, Nat.reduceBEq, Nat.reduceLeDiff, Nat.reduceDvd, reduceCtorEq, Int.reduceToNat, Int.reduceLT, Int.reduceLE, Nat.le_refl, Int.le_refl, false_implies, implies_true, frzSlot, List.take_length, List.mem_cons, List.not_mem_nil, or_false, forall_eq_or_imp, forall_eq, List.range_succ, List.range_zero, exists_eq_left', Option.some.injEq, hh, hx, h0, l90_get hx]
      refine PCallK.intro (f54_c q k _ h0 h1 hs) ?_
      simp only [go_sem, Nat.reduceEqDiff, Nat.reduceLT, ↓reduceIte, Nat.reduceAdd, Nat.reduceSub, Nat.reduceMul, Nat.reduceBEq, Nat.reduceLeDiff, Nat.reduceDvd, reduceCtorEq, Int.reduceToNat, Int.reduceLT, Int.reduceLE, Nat.le_refl, Int.le_refl, false_implies, implies_true, frzSlot, List.take_length, List.mem_cons, List.not_mem_nil, or_false, forall_eq_or_imp, forall_eq, List.range_succ, List.range_zero, exists_eq_left', Option.some.injEq]

def rput (q : RQ) (k : Int) (p : Packet) : RQ × Int :=
  match rhas q k, q.l[k.toNat]? with
  | true, some x => match x.up with
    | false => (rwith q k { x with meter := { x.meter with down := IntKind.i64.wrap (x.meter.down + 1) } }, 13)
    | true => if q.length ≤ x.waiting.length then (rwith q k { x with meter := { x.meter with full := IntKind.i64.wrap (x.meter.full + 1) } }, 12)
      else (rwith q k { x with meter := { x.meter with in_ := IntKind.i64.wrap (x.meter.in_ + 1) }, waiting := x.waiting ++ [p] }, 0)
  | _, _ => (q, 1)

theorem f33_c (q : RQ) (k : Int) (p : Packet) (hq : q.small) : PCall Try.prog 33 [.agg q.c, .int .i64 k, .agg p.c] (.tup [.agg (rput q k p).1.c, .int .i64 (rput q k p).2]) := by
  refine PCall.ofB h33 mixed h33_d Try.func33 rfl call33 (by simp [Try.f33]) (by simp [pureL, AV.pure, go_sem]) (by simp [pureL, AV.pure, go_sem]) ?_
  unfold rput
  cases hh : rhas q k
  · simp only [Try.f33, go_sem, Nat.reduceEqDiff, Nat.reduceLT, ↓reduceIte, Nat.reduceAdd, Nat.reduceSub, Nat.reduceMul, Nat.reduceBEq, Nat.reduceLeDiff, Nat.reduceDvd, reduceCtorEq, Int.reduceToNat, Int.reduceLT, Int.reduceLE, Nat.le_refl, Int.le_refl, false_implies, implies_true, frzSlot, List.take_length, List.mem_cons, List.not_mem_nil, or_false, forall_eq_or_imp, forall_eq, List.range_succ, List.range_zero, exists_eq_left', Option.some.injEq]
    refine PCallK.intro (f53_c q k) ?_
    simp only [go_sem, Nat.reduceEqDiff, Nat.reduceLT, ↓reduceIte, Nat.reduceAdd, Nat.reduceSub, Nat.reduceMul, Nat.reduceBEq, Nat.reduceLeDiff, Nat.reduceDvd, reduceCtorEq, Int.reduceToNat, Int.reduceLT, Int.reduceLE, Nat.le_refl, Int.le_refl, false_implies, implies_true, frzSlot, List.take_length, List.mem_cons, List.not_mem_nil, or_false, forall_eq_or_imp, forall_eq, List.range_succ, List.range_zero, exists_eq_left', Option.some.injEq, hh]
  · obtain ⟨h0, x, hx⟩ := rhas_get hh
    have h1 : k < q.l.length := by have := (List.getElem?_eq_some_iff.1 hx).1; omega
    have hs : q.l.length * 96 ≤ 140737488355328 := by have := hq.1; omega
    have hw := (hq.2 x (List.mem_of_getElem? hx)).1
    have hw1 : x.waiting.length * 88 ≤ 140737488355328 := by omega
    have hw2 : x.waiting.length ≤ 9223372036854775807 := by omega
    have hw3 : (x.waiting.length + 1) * 88 ≤ 140737488355328 := by omega
    have hw4 : x.waiting.length + 1 ≤ 9223372036854775807 := by omega
    cases hu : x.up
    · simp only [Try.f33, go_sem, Nat.reduceEqDiff, Nat.reduceLT, ↓reduceIte, Nat.reduceAdd, Nat.reduceSub, Nat.reduceMul, Nat.reduceBEq, Nat.reduceLeDiff, Nat.reduceDvd, reduceCtorEq, Int.reduceToNat, Int.reduceLT, Int.reduceLE, Nat.le_refl, Int.le_refl, false_implies, implies_true, frzSlot, List.take_length, List.mem_cons, List.not_mem_nil, or_false, forall_eq_or_imp, forall_eq, List.range_succ, List.range_zero, exists_eq_left', Option.some.injEq]
      refine PCallK.intro (f53_c q k) ?_
      simp only [go_sem, Nat.reduceEqDiff, Nat.reduceLT, ↓reduceIte, Nat.reduceAdd, Nat.reduceSub, Nat.reduceMul, Nat.reduceBEq, Nat.reduceLeDiff, Nat.reduceDvd, reduceCtorEq, Int.reduceToNat, Int.reduceLT, Int.reduceLE, Nat.le_refl, Int.le_refl, false_implies, implies_true, frzSlot, List.take_length, List.mem_cons, List.not_mem_nil, or_false, forall_eq_or_imp, forall_eq, List.range_succ, List.range_zero, exists_eq_left', Option.some.injEq, hh, hx, h0, l90_get hx, hu]
      refine PCallK.intro (f54_c q k _ h0 h1 hs) ?_
      simp only [go_sem, Nat.reduceEqDiff, Nat.reduceLT, ↓reduceIte, Nat.reduceAdd, Nat.reduceSub, Nat.reduceMul, Nat.reduceBEq, Nat.reduceLeDiff, Nat.reduceDvd, reduceCtorEq, Int.reduceToNat, Int.reduceLT, Int.reduceLE, Nat.le_refl, Int.le_refl, false_implies, implies_true, frzSlot, List.take_length, List.mem_cons, List.not_mem_nil, or_false, forall_eq_or_imp, forall_eq, List.range_succ, List.range_zero, exists_eq_left', Option.some.injEq]
    · by_cases hlen : q.length ≤ x.waiting.length
      · simp only [Try.f33, go_sem, Nat.reduceEqDiff, Nat.reduceLT, ↓reduceIte, Nat.reduceAdd, Nat.reduceSub, Nat.reduceMul, Nat.reduceBEq, Nat.reduceLeDiff, Nat.reduceDvd, reduceCtorEq, Int.reduceToNat, Int.reduceLT, Int.reduceLE, Nat.le_refl, Int.le_refl, false_implies, implies_true, frzSlot, List.take_length, List.mem_cons, List.not_mem_nil, or_false, forall_eq_or_imp, forall_eq, List.range_succ, List.range_zero, exists_eq_left', Option.some.injEq]
        refine PCallK.intro (f53_c q k) ?_
        simp only [go_sem, Nat.reduceEqDiff, Nat.reduceLT, ↓reduceIte, Nat.reduceAdd, Nat.reduceSub, Nat.reduceMul, Nat.reduceBEq, Nat.reduceLeDiff, Nat.reduceDvd, reduceCtorEq, Int.reduceToNat, Int.reduceLT, Int.reduceLE, Nat.le_refl, Int.le_refl, false_implies, implies_true, frzSlot, List.take_length, List.mem_cons, List.not_mem_nil, or_false, forall_eq_or_imp, forall_eq, List.range_succ, List.range_zero, exists_eq_left', Option.some.injEq, hh, hx, h0, l90_get hx, hu, hlen]
        refine PCallK.intro (f54_c q k _ h0 h1 hs) ?_
        simp only [go_sem, Nat.reduceEqDiff, Nat.reduceLT, ↓reduceIte, Nat.reduceAdd, Nat.reduceSub, Nat.reduceMul, Nat.reduceBEq, Nat.reduceLeDiff, Nat.reduceDvd, reduceCtorEq, Int.reduceToNat, Int.reduceLT, Int.reduceLE, Nat.le_refl, Int.le_refl, false_implies, implies_true, frzSlot, List.take_length, List.mem_cons, List.not_mem_nil, or_false, forall_eq_or_imp, forall_eq, List.range_succ, List.range_zero, exists_eq_left', Option.some.injEq]
      · simp only [Try.f33, go_sem, Nat.reduceEqDiff, Nat.reduceLT, ↓reduceIte, Nat.reduceAdd, Nat.reduceSub, Nat.reduceMul, Nat.reduceBEq, Nat.reduceLeDiff, Nat.reduceDvd, reduceCtorEq, Int.reduceToNat, Int.reduceLT, Int.reduceLE, Nat.le_refl, Int.le_refl, false_implies, implies_true, frzSlot, List.take_length, List.mem_cons, List.not_mem_nil, or_false, forall_eq_or_imp, forall_eq, List.range_succ, List.range_zero, exists_eq_left', Option.some.injEq]
        refine PCallK.intro (f53_c q k) ?_
        simp only [go_sem, Nat.reduceEqDiff, Nat.reduceLT, ↓reduceIte, Nat.reduceAdd, Nat.reduceSub, Nat.reduceMul, Nat.reduceBEq, Nat.reduceLeDiff, Nat.reduceDvd, reduceCtorEq, Int.reduceToNat, Int.reduceLT, Int.reduceLE, Nat.le_refl, Int.le_refl, false_implies, implies_true, frzSlot, List.take_length, List.mem_cons, List.not_mem_nil, or_false, forall_eq_or_imp, forall_eq, List.range_succ, List.range_zero, exists_eq_left', Option.some.injEq, hh, hx, h0, l90_get hx, hu, hlen, hw1, hw2, hw3, hw4]
        refine PCallK.intro (f54_c q k _ h0 h1 hs) ?_
        simp only [go_sem, Nat.reduceEqDiff, Nat.reduceLT, ↓reduceIte, Nat.reduceAdd, Nat.reduceSub, Nat.reduceMul, Nat.reduceBEq, Nat.reduceLeDiff, Nat.reduceDvd, reduceCtorEq, Int.reduceToNat, Int.reduceLT, Int.reduceLE, Nat.le_refl, Int.le_refl, false_implies, implies_true, frzSlot, List.take_length, List.mem_cons, List.not_mem_nil, or_false, forall_eq_or_imp, forall_eq, List.range_succ, List.range_zero, exists_eq_left', Option.some.injEq]

def rdo (q : RQ) (x : Step) (tick : RQ × List Passed) : RQ × List Passed × Int :=
  if x.kind = 1 then ((rput q x.link x.packet).1, [], (rput q x.link x.packet).2)
  else if x.kind = 2 then (tick.1, tick.2, 0)
  else if x.kind = 3 ∨ x.kind = 4 then ((rswitch q x.link (x.kind == 4)).1, [], (rswitch q x.link (x.kind == 4)).2)
  else (q, [], 0)

theorem f14_c (q : RQ) (x : Step) (hq : q.small) (tick : RQ × List Passed) (ht : PCall Try.prog 34 [.agg q.c] (.tup [.agg tick.1.c, .sl none (l57 tick.2)])) :
    PCall Try.prog 14 [.agg q.c, .agg x.c] (.tup [.agg (rdo q x tick).1.c, .sl none (l57 (rdo q x tick).2.1), .int .i64 (rdo q x tick).2.2]) := by
  refine PCall.ofB h14 mixed h14_d Try.func14 rfl call14 (by simp [Try.f14]) (by simp [pureL, AV.pure, go_sem]) (by simp [pureL, AV.pure, go_sem]) ?_
  unfold rdo
  by_cases h1 : x.kind = 1
  · have e1 : (x.kind == 1) = true := by simp [h1]
    rw [if_pos h1]
    simp only [Try.f14, go_sem, Nat.reduceEqDiff, Nat.reduceLT, ↓reduceIte, Nat.reduceAdd, Nat.reduceSub, Nat.reduceMul, Nat.reduceBEq, Nat.reduceLeDiff, Nat.reduceDvd, reduceCtorEq, Int.reduceToNat, Int.reduceLT, Int.reduceLE, Nat.le_refl, Int.le_refl, false_implies, implies_true, frzSlot, List.take_length, List.mem_cons, List.not_mem_nil, or_false, forall_eq_or_imp, forall_eq, List.range_succ, List.range_zero, exists_eq_left', Option.some.injEq, e1]
    refine PCallK.intro (f33_c q x.link x.packet hq) ?_
    simp only [go_sem, Nat.reduceEqDiff, Nat.reduceLT, ↓reduceIte, Nat.reduceAdd, Nat.reduceSub, Nat.reduceMul, Nat.reduceBEq, Nat.reduceLeDiff, Nat.reduceDvd, reduceCtorEq, Int.reduceToNat, Int.reduceLT, Int.reduceLE, Nat.le_refl, Int.le_refl, false_implies, implies_true, frzSlot, List.take_length, List.mem_cons, List.not_mem_nil, or_false, forall_eq_or_imp, forall_eq, List.range_succ, List.range_zero, exists_eq_left', Option.some.injEq]
  · have e1 : (x.kind == 1) = false := by simp [h1]
    rw [if_neg h1]
    by_cases h2 : x.kind = 2
    · have e2 : (x.kind == 2) = true := by simp [h2]
      rw [if_pos h2]
      simp only [Try.f14, go_sem, Nat.reduceEqDiff, Nat.reduceLT, ↓reduceIte, Nat.reduceAdd, Nat.reduceSub, Nat.reduceMul, Nat.reduceBEq, Nat.reduceLeDiff, Nat.reduceDvd, reduceCtorEq, Int.reduceToNat, Int.reduceLT, Int.reduceLE, Nat.le_refl, Int.le_refl, false_implies, implies_true, frzSlot, List.take_length, List.mem_cons, List.not_mem_nil, or_false, forall_eq_or_imp, forall_eq, List.range_succ, List.range_zero, exists_eq_left', Option.some.injEq, e1, e2]
      refine PCallK.intro ht ?_
      simp only [go_sem, Nat.reduceEqDiff, Nat.reduceLT, ↓reduceIte, Nat.reduceAdd, Nat.reduceSub, Nat.reduceMul, Nat.reduceBEq, Nat.reduceLeDiff, Nat.reduceDvd, reduceCtorEq, Int.reduceToNat, Int.reduceLT, Int.reduceLE, Nat.le_refl, Int.le_refl, false_implies, implies_true, frzSlot, List.take_length, List.mem_cons, List.not_mem_nil, or_false, forall_eq_or_imp, forall_eq, List.range_succ, List.range_zero, exists_eq_left', Option.some.injEq]
    · have e2 : (x.kind == 2) = false := by simp [h2]
      rw [if_neg h2]
      by_cases h3 : x.kind = 3
      · have e3 : (x.kind == 3) = true := by simp [h3]
        have e4 : (x.kind == 4) = false := by simp [h3]
        rw [if_pos (.inl h3)]
        simp only [Try.f14, go_sem, Nat.reduceEqDiff, Nat.reduceLT, ↓reduceIte, Nat.reduceAdd, Nat.reduceSub, Nat.reduceMul, Nat.reduceBEq, Nat.reduceLeDiff, Nat.reduceDvd, reduceCtorEq, Int.reduceToNat, Int.reduceLT, Int.reduceLE, Nat.le_refl, Int.le_refl, false_implies, implies_true, frzSlot, List.take_length, List.mem_cons, List.not_mem_nil, or_false, forall_eq_or_imp, forall_eq, List.range_succ, List.range_zero, exists_eq_left', Option.some.injEq, e1, e2, e3, e4]
        refine PCallK.intro (f35_c q x.link false hq) ?_
        simp only [go_sem, Nat.reduceEqDiff, Nat.reduceLT, ↓reduceIte, Nat.reduceAdd, Nat.reduceSub, Nat.reduceMul, Nat.reduceBEq, Nat.reduceLeDiff, Nat.reduceDvd, reduceCtorEq, Int.reduceToNat, Int.reduceLT, Int.reduceLE, Nat.le_refl, Int.le_refl, false_implies, implies_true, frzSlot, List.take_length, List.mem_cons, List.not_mem_nil, or_false, forall_eq_or_imp, forall_eq, List.range_succ, List.range_zero, exists_eq_left', Option.some.injEq]
      · have e3 : (x.kind == 3) = false := by simp [h3]
        by_cases h4 : x.kind = 4
        · have e4 : (x.kind == 4) = true := by simp [h4]
          rw [if_pos (.inr h4)]
          simp only [Try.f14, go_sem, Nat.reduceEqDiff, Nat.reduceLT, ↓reduceIte, Nat.reduceAdd, Nat.reduceSub, Nat.reduceMul, Nat.reduceBEq, Nat.reduceLeDiff, Nat.reduceDvd, reduceCtorEq, Int.reduceToNat, Int.reduceLT, Int.reduceLE, Nat.le_refl, Int.le_refl, false_implies, implies_true, frzSlot, List.take_length, List.mem_cons, List.not_mem_nil, or_false, forall_eq_or_imp, forall_eq, List.range_succ, List.range_zero, exists_eq_left', Option.some.injEq, e1, e2, e3, e4]
          refine PCallK.intro (f35_c q x.link true hq) ?_
          simp only [go_sem, Nat.reduceEqDiff, Nat.reduceLT, ↓reduceIte, Nat.reduceAdd, Nat.reduceSub, Nat.reduceMul, Nat.reduceBEq, Nat.reduceLeDiff, Nat.reduceDvd, reduceCtorEq, Int.reduceToNat, Int.reduceLT, Int.reduceLE, Nat.le_refl, Int.le_refl, false_implies, implies_true, frzSlot, List.take_length, List.mem_cons, List.not_mem_nil, or_false, forall_eq_or_imp, forall_eq, List.range_succ, List.range_zero, exists_eq_left', Option.some.injEq]
        · have e4 : (x.kind == 4) = false := by simp [h4]
          rw [if_neg (by simp [h3, h4])]
          simp only [Try.f14, go_sem, Nat.reduceEqDiff, Nat.reduceLT, ↓reduceIte, Nat.reduceAdd, Nat.reduceSub, Nat.reduceMul, Nat.reduceBEq, Nat.reduceLeDiff, Nat.reduceDvd, reduceCtorEq, Int.reduceToNat, Int.reduceLT, Int.reduceLE, Nat.le_refl, Int.le_refl, false_implies, implies_true, frzSlot, List.take_length, List.mem_cons, List.not_mem_nil, or_false, forall_eq_or_imp, forall_eq, List.range_succ, List.range_zero, exists_eq_left', Option.some.injEq, e1, e2, e3, e4]
end Go.AI
