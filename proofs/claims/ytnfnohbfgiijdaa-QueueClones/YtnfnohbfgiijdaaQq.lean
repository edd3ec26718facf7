/- The law QueueMatchesSpec answers true. -/
import Derived.Test.YtnfnohbfgiijdaaMf
set_option linter.unusedSimpArgs false
set_option linter.unusedVariables false
namespace Go.AI
open Go.Proofs
set_option maxRecDepth 20000

theorem QX_seti {H0 : Heap} {o o2 : Nat} {n len : Int} {L : List LF} (B : Base H0 o o2) (j : Nat) (h1 : o ≠ j) (h2 : o2 ≠ j) (x : Option (List AV)) : (QX H0 o o2 n len L).set j x = QX (H0.set j x) o o2 n len L := by
  unfold QX
  rw [List.set_comm _ _ h2, List.set_comm _ _ h1]
theorem QX_geti {H0 : Heap} {o o2 : Nat} {n len : Int} {L : List LF} (j : Nat) (h1 : o ≠ j) (h2 : o2 ≠ j) : (QX H0 o o2 n len L)[j]? = H0[j]? := by
  unfold QX
  rw [List.getElem?_set_ne h2, List.getElem?_set_ne h1]

theorem f15_same (a : List Passed) : PCall Try.prog 15 [.sl none (l57 a), .sl none (l57 a)] (.bool true) := by
  have := f15_c a a
  rwa [decide_eq_true rfl] at this

theorem f14_s {i : Nat} {n : Network} {ds : List Int} {q : QS} (h : QInv i n ds q) (hi : i < 3000) (x : Step) :
    PCall Try.prog 14 [.agg (absQ n ds q).c, .agg x.c] (.tup [.agg (absQ n ds (pdo q x).1).c, .sl none (l57 (pdo q x).2.1), .int .i64 (pdo q x).2.2]) := by
  have h34 := f34_c (absQ n ds q) h.rsmall (by simp [absQ, h.len]) (by simp [absQ, h.len, h.dlen]) (fun x hx => (h.caps x hx).1)
  have := f14_c (absQ n ds q) x h.rsmall (rtick (absQ n ds q)) h34
  rw [(do_step h hi x).1] at this
  exact this

theorem f3_c (c : Case) (hn : c.n.small) : PCall Try.prog 3 [.agg c.c] (.bool true) := by
  refine PCall.of h3 mixed h3_d Try.func3 rfl call3 (by simp [Try.f3]) (by simp [pureL, AV.pure, go_sem]) rfl ?_
  simp only [Try.f3, go_sem, Nat.reduceEqDiff, Nat.reduceLT, ↓reduceIte, Nat.reduceAdd, Nat.reduceSub, Nat.reduceMul, Nat.reduceBEq, Nat.reduceLeDiff, Nat.reduceDvd, reduceCtorEq, Int.reduceToNat, Int.reduceLT, Int.reduceLE, Nat.le_refl, Int.le_refl, false_implies, implies_true, frzSlot, List.take_length, List.mem_cons, List.not_mem_nil, or_false, forall_eq_or_imp, forall_eq, List.range_succ, List.range_zero, exists_eq_left', Option.some.injEq]
  refine ACallK.prop (f9_c c hn) ?_
  rintro _ ⟨b, rfl, hb⟩
  cases b with
  | false =>
    simp only [go_sem, Nat.reduceEqDiff, Nat.reduceLT, ↓reduceIte, Nat.reduceAdd, Nat.reduceSub, Nat.reduceMul, Nat.reduceBEq, Nat.reduceLeDiff, Nat.reduceDvd, reduceCtorEq, Int.reduceToNat, Int.reduceLT, Int.reduceLE, Nat.le_refl, Int.le_refl, false_implies, implies_true, frzSlot, List.take_length, List.mem_cons, List.not_mem_nil, or_false, forall_eq_or_imp, forall_eq, List.range_succ, List.range_zero, exists_eq_left', Option.some.injEq]
    refine PCallK.intro f10_c ?_
    simp only [go_sem, Nat.reduceEqDiff, Nat.reduceLT, ↓reduceIte, Nat.reduceAdd, Nat.reduceSub, Nat.reduceMul, Nat.reduceBEq, Nat.reduceLeDiff, Nat.reduceDvd, reduceCtorEq, Int.reduceToNat, Int.reduceLT, Int.reduceLE, Nat.le_refl, Int.le_refl, false_implies, implies_true, frzSlot, List.take_length, List.mem_cons, List.not_mem_nil, or_false, forall_eq_or_imp, forall_eq, List.range_succ, List.range_zero, exists_eq_left', Option.some.injEq]
  | true =>
    obtain ⟨g1, g2, g3, g4, g5⟩ := hb rfl
    have hcl : closedH [some c.c] := closedB_spec (by simp only [go_sem])
    simp only [go_sem, Nat.reduceEqDiff, Nat.reduceLT, ↓reduceIte, Nat.reduceAdd, Nat.reduceSub, Nat.reduceMul, Nat.reduceBEq, Nat.reduceLeDiff, Nat.reduceDvd, reduceCtorEq, Int.reduceToNat, Int.reduceLT, Int.reduceLE, Nat.le_refl, Int.le_refl, false_implies, implies_true, frzSlot, List.take_length, List.mem_cons, List.not_mem_nil, or_false, forall_eq_or_imp, forall_eq, List.range_succ, List.range_zero, exists_eq_left', Option.some.injEq]
    cases hf : rfine c.n c.delays c.length with
    | false =>
      have e12 : rnew c.n c.delays c.length = (noRQ, 1) := by unfold rnew; rw [hf]; rfl
      refine ACallK.intro (f11_bad hcl c.n c.delays c.length hf) ?_
      rintro _ _ ⟨rfl, rfl⟩
      simp only [go_sem, Nat.reduceEqDiff, Nat.reduceLT, ↓reduceIte, Nat.reduceAdd, Nat.reduceSub, Nat.reduceMul, Nat.reduceBEq, Nat.reduceLeDiff, Nat.reduceDvd, reduceCtorEq, Int.reduceToNat, Int.reduceLT, Int.reduceLE, Nat.le_refl, Int.le_refl, false_implies, implies_true, frzSlot, List.take_length, List.mem_cons, List.not_mem_nil, or_false, forall_eq_or_imp, forall_eq, List.range_succ, List.range_zero, exists_eq_left', Option.some.injEq]
      have h12 := f12_c c.n c.delays c.length (by omega)
      rw [e12] at h12
      refine PCallK.intro h12 ?_
      simp only [go_sem, Nat.reduceEqDiff, Nat.reduceLT, ↓reduceIte, Nat.reduceAdd, Nat.reduceSub, Nat.reduceMul, Nat.reduceBEq, Nat.reduceLeDiff, Nat.reduceDvd, reduceCtorEq, Int.reduceToNat, Int.reduceLT, Int.reduceLE, Nat.le_refl, Int.le_refl, false_implies, implies_true, frzSlot, List.take_length, List.mem_cons, List.not_mem_nil, or_false, forall_eq_or_imp, forall_eq, List.range_succ, List.range_zero, exists_eq_left', Option.some.injEq, Int.reduceBEq, Int.reduceBNe, beq_self_eq_true]
      refine PCallK.intro f10_c ?_
      simp only [go_sem, Nat.reduceEqDiff, Nat.reduceLT, ↓reduceIte, Nat.reduceAdd, Nat.reduceSub, Nat.reduceMul, Nat.reduceBEq, Nat.reduceLeDiff, Nat.reduceDvd, reduceCtorEq, Int.reduceToNat, Int.reduceLT, Int.reduceLE, Nat.le_refl, Int.le_refl, false_implies, implies_true, frzSlot, List.take_length, List.mem_cons, List.not_mem_nil, or_false, forall_eq_or_imp, forall_eq, List.range_succ, List.range_zero, exists_eq_left', Option.some.injEq]
    | true =>
      have e12 : rnew c.n c.delays c.length = ((rnew c.n c.delays c.length).1, 0) := by unfold rnew; rw [hf]; rfl
      obtain ⟨s1, s2⟩ := new_step hf (by omega) (fun x hx => g3 x hx)
      refine ACallK.intro (f11_good hcl c.n c.delays c.length hf (by omega)) ?_
      rintro _ _ ⟨rfl, rfl⟩
      have B0 : Base (nbase [some c.c] c.n) 3 2 := nbase_ok hcl c.n
      have q0 : ∀ n len L l, (QX (nbase [some c.c] c.n ++ l) 3 2 n len L)[0]? = some (some c.c) := fun n len L l => rfl
      have q00 : ∀ n len L, (QX (nbase [some c.c] c.n) 3 2 n len L)[0]? = some (some c.c) := fun n len L => rfl
      simp only [go_sem, Nat.reduceEqDiff, Nat.reduceLT, ↓reduceIte, Nat.reduceAdd, Nat.reduceSub, Nat.reduceMul, Nat.reduceBEq, Nat.reduceLeDiff, Nat.reduceDvd, reduceCtorEq, Int.reduceToNat, Int.reduceLT, Int.reduceLE, Nat.le_refl, Int.le_refl, false_implies, implies_true, frzSlot, List.take_length, List.mem_cons, List.not_mem_nil, or_false, forall_eq_or_imp, forall_eq, List.range_succ, List.range_zero, exists_eq_left', Option.some.injEq, Nat.reduceAdd]
      generalize nbase [some c.c] c.n = H1 at *
      simp only [go_sem, Nat.reduceEqDiff, Nat.reduceLT, ↓reduceIte, Nat.reduceAdd, Nat.reduceSub, Nat.reduceMul, Nat.reduceBEq, Nat.reduceLeDiff, Nat.reduceDvd, reduceCtorEq, Int.reduceToNat, Int.reduceLT, Int.reduceLE, Nat.le_refl, Int.le_refl, false_implies, implies_true, frzSlot, List.take_length, List.mem_cons, List.not_mem_nil, or_false, forall_eq_or_imp, forall_eq, List.range_succ, List.range_zero, exists_eq_left', Option.some.injEq, q0, q00]
      have h12 := f12_c c.n c.delays c.length (by omega)
      rw [e12, s1] at h12
      refine PCallK.intro h12 ?_
      simp only [go_sem, Nat.reduceEqDiff, Nat.reduceLT, ↓reduceIte, Nat.reduceAdd, Nat.reduceSub, Nat.reduceMul, Nat.reduceBEq, Nat.reduceLeDiff, Nat.reduceDvd, reduceCtorEq, Int.reduceToNat, Int.reduceLT, Int.reduceLE, Nat.le_refl, Int.le_refl, false_implies, implies_true, frzSlot, List.take_length, List.mem_cons, List.not_mem_nil, or_false, forall_eq_or_imp, forall_eq, List.range_succ, List.range_zero, exists_eq_left', Option.some.injEq, Int.reduceBEq, Int.reduceBNe, beq_self_eq_true, B0.push, QX_len, B0.s0, B0.g0, q0]
      have B1 : Base (H1 ++ [some (absQ c.n c.delays (newq c.n c.delays c.length)).c]) 3 2 := B0.app (by simp only [go_sem])
      refine awp_wh (σ := Nat × QS × Heap) (fun s => [(3, .ptr 3 0), (5, .ptr H1.length 0), (52, .sl none (l47 c.l)), (53, .int .i64 (c.l.length : Int)), (54, .int .i64 (s.1 : Int))])
        (fun s => QH (H1 ++ some (absQ c.n c.delays s.2.1).c :: s.2.2) 3 2 s.2.1)
        (fun s => s.1 ≤ c.l.length ∧ QInv s.1 c.n c.delays s.2.1 ∧ Base (H1 ++ some (absQ c.n c.delays s.2.1).c :: s.2.2) 3 2)
        (fun s => c.l.length - s.1) (0, newq c.n c.delays c.length, []) ⟨Nat.zero_le _, s2, B1⟩ rfl rfl ?_
      rintro ⟨k, q, g⟩ ⟨hk, hI, B⟩
      dsimp only at hk hI B ⊢
      by_cases hlt : k < c.l.length
      · obtain ⟨x, hx⟩ : ∃ x, c.l[k]? = some x := ⟨_, List.getElem?_eq_getElem hlt⟩
        have k0 : (0 : Int) ≤ (k : Int) := by omega
        have k1 : (k : Int) < (c.l.length : Int) := by omega
        have hi : k < 3000 := by omega
        have Bx : Base (H1 ++ some (absQ c.n c.delays q).c :: (g ++ [some x.c])) 3 2 := by
          have := B.app (cs := x.c) (by simp only [go_sem])
          simpa using this
        simp only [go_sem, Nat.reduceEqDiff, Nat.reduceLT, ↓reduceIte, Nat.reduceAdd, Nat.reduceSub, Nat.reduceMul, Nat.reduceBEq, Nat.reduceLeDiff, Nat.reduceDvd, reduceCtorEq, Int.reduceToNat, Int.reduceLT, Int.reduceLE, Nat.le_refl, Int.le_refl, false_implies, implies_true, frzSlot, List.take_length, List.mem_cons, List.not_mem_nil, or_false, forall_eq_or_imp, forall_eq, List.range_succ, List.range_zero, exists_eq_left', Option.some.injEq, k0, k1, l47_get hx, B0.push2, QX_len, B0.sa, B0.ga, B0.g0, B0.s0, app_at0, app_at, app_set0, app_set, List.length_append]
        refine ACallK.intro (f13_a Bx q hI.fine x) ?_
        rintro _ _ ⟨rfl, rfl⟩
        simp only [go_sem, Nat.reduceEqDiff, Nat.reduceLT, ↓reduceIte, Nat.reduceAdd, Nat.reduceSub, Nat.reduceMul, Nat.reduceBEq, Nat.reduceLeDiff, Nat.reduceDvd, reduceCtorEq, Int.reduceToNat, Int.reduceLT, Int.reduceLE, Nat.le_refl, Int.le_refl, false_implies, implies_true, frzSlot, List.take_length, List.mem_cons, List.not_mem_nil, or_false, forall_eq_or_imp, forall_eq, List.range_succ, List.range_zero, exists_eq_left', Option.some.injEq, B0.push2, QX_len, B0.sa, B0.ga, B0.g0, B0.s0, app_at0, app_at, app_set0, app_set, List.length_append]
        refine PCallK.intro (f14_s hI hi x) ?_
        simp only [go_sem, Nat.reduceEqDiff, Nat.reduceLT, ↓reduceIte, Nat.reduceAdd, Nat.reduceSub, Nat.reduceMul, Nat.reduceBEq, Nat.reduceLeDiff, Nat.reduceDvd, reduceCtorEq, Int.reduceToNat, Int.reduceLT, Int.reduceLE, Nat.le_refl, Int.le_refl, false_implies, implies_true, frzSlot, List.take_length, List.mem_cons, List.not_mem_nil, or_false, forall_eq_or_imp, forall_eq, List.range_succ, List.range_zero, exists_eq_left', Option.some.injEq, B0.push2, QX_len, B0.sa, B0.ga, B0.g0, B0.s0, app_at0, app_at, app_set0, app_set, List.length_append]
        obtain ⟨_, hI'⟩ := do_step hI hi x
        have Bz : Base (H1 ++ some (absQ c.n c.delays (pdo q x).1).c :: (g ++ [some x.c, some (absQ c.n c.delays (pdo q x).1).c])) 3 2 := by
          have b1 := Bx.app (cs := (absQ c.n c.delays (pdo q x).1).c) (by simp only [go_sem])
          refine ⟨by have := b1.h1; simp at this ⊢; omega, by have := b1.h2; simp at this ⊢; omega, b1.ne, ?_⟩
          have b2 := b1.cl.set H1.length (cs := (absQ c.n c.delays (pdo q x).1).c) (by simp only [go_sem])
          simpa using b2
        refine PCallK.intro (f15_same _) ?_
        simp only [go_sem, Nat.reduceEqDiff, Nat.reduceLT, ↓reduceIte, Nat.reduceAdd, Nat.reduceSub, Nat.reduceMul, Nat.reduceBEq, Nat.reduceLeDiff, Nat.reduceDvd, reduceCtorEq, Int.reduceToNat, Int.reduceLT, Int.reduceLE, Nat.le_refl, Int.le_refl, false_implies, implies_true, frzSlot, List.take_length, List.mem_cons, List.not_mem_nil, or_false, forall_eq_or_imp, forall_eq, List.range_succ, List.range_zero, exists_eq_left', Option.some.injEq, B0.ga, B0.g0, B0.s0, app_at0, app_at, app_set0, app_set, List.length_append, bne_self_eq_false]
        have hsm := hI'.rsmall
        refine RCallK.intro (f16_r (Bz.v (pdo q x).1) (alike hI') hI'.fine.1 (Nat.le_trans hI'.fine.2.1 (by decide)) (Nat.le_trans hsm.1 (by decide)) (fun y hy => (hsm.2 y hy).2)) ?_
        simp only [go_sem, Nat.reduceEqDiff, Nat.reduceLT, ↓reduceIte, Nat.reduceAdd, Nat.reduceSub, Nat.reduceMul, Nat.reduceBEq, Nat.reduceLeDiff, Nat.reduceDvd, reduceCtorEq, Int.reduceToNat, Int.reduceLT, Int.reduceLE, Nat.le_refl, Int.le_refl, false_implies, implies_true, frzSlot, List.take_length, List.mem_cons, List.not_mem_nil, or_false, forall_eq_or_imp, forall_eq, List.range_succ, List.range_zero, exists_eq_left', Option.some.injEq, w64s (show k < 9223372036854775807 by omega)]
        exact ⟨(k + 1, (pdo q x).1, g ++ [some x.c, some (absQ c.n c.delays (pdo q x).1).c]), ⟨hlt, hI', Bz⟩, by dsimp only; omega, rfl, rfl⟩
      · have k1 : ¬ (k : Int) < (c.l.length : Int) := by omega
        simp only [go_sem, Nat.reduceEqDiff, Nat.reduceLT, ↓reduceIte, Nat.reduceAdd, Nat.reduceSub, Nat.reduceMul, Nat.reduceBEq, Nat.reduceLeDiff, Nat.reduceDvd, reduceCtorEq, Int.reduceToNat, Int.reduceLT, Int.reduceLE, Nat.le_refl, Int.le_refl, false_implies, implies_true, frzSlot, List.take_length, List.mem_cons, List.not_mem_nil, or_false, forall_eq_or_imp, forall_eq, List.range_succ, List.range_zero, exists_eq_left', Option.some.injEq, k1]
        refine PCallK.intro f10_c ?_
        simp only [go_sem, Nat.reduceEqDiff, Nat.reduceLT, ↓reduceIte, Nat.reduceAdd, Nat.reduceSub, Nat.reduceMul, Nat.reduceBEq, Nat.reduceLeDiff, Nat.reduceDvd, reduceCtorEq, Int.reduceToNat, Int.reduceLT, Int.reduceLE, Nat.le_refl, Int.le_refl, false_implies, implies_true, frzSlot, List.take_length, List.mem_cons, List.not_mem_nil, or_false, forall_eq_or_imp, forall_eq, List.range_succ, List.range_zero, exists_eq_left', Option.some.injEq]
end Go.AI
