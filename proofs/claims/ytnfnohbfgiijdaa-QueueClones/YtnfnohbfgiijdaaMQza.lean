/- The program's Clone. -/
import Derived.Test.YtnfnohbfgiijdaaQq
set_option linter.unusedSimpArgs false
set_option linter.unusedVariables false
namespace Go.AI
open Go.Proofs
set_option maxRecDepth 20000

def nb (x : Ln) : LF := (x, none, none)
theorem nb_flat (l : List Ln) : (l.map nb).flatMap lf = l.flatMap Ln.c := by rw [List.flatMap_map]; rfl

theorem ow_bor (l : List Ln) : ((l.map ow).flatMap lf).map borrow1 = (l.map nb).flatMap lf := by
  rw [ow_flat, co_bor, nb_flat]

theorem f46_d {H : Heap} {o2 : Nat} {l : List Ln} (h : H[o2]? = some (some ((l.map ow).flatMap lf))) (hl : l.length ≤ 1000) :
    ACall Try.prog 46 [.msl o2 0 l.length 10] H fun v H' => v = .msl (H.length + 1) 0 l.length 10 ∧ H' = H ++ [none, some ((l.map nb).flatMap lf)] := by
  refine ACall.of h46 rfl mixed h46_d Try.func46 rfl call46 (by simp [Try.f46]) ?_
  have hlt := (List.getElem?_eq_some_iff.1 h).1
  simp only [Try.f46, go_sem, Nat.reduceEqDiff, Nat.reduceLT, ↓reduceIte, Nat.reduceAdd, Nat.reduceSub, Nat.reduceMul, Nat.reduceBEq, Nat.reduceLeDiff, Nat.reduceDvd, reduceCtorEq, Int.reduceToNat, Int.reduceLT, Int.reduceLE, Nat.le_refl, Int.le_refl, false_implies, implies_true, frzSlot, List.take_length, List.mem_cons, List.not_mem_nil, or_false, forall_eq_or_imp, forall_eq, List.range_succ, List.range_zero, exists_eq_left', Option.some.injEq]
  have ho : (H ++ [some []])[o2]? = some (some ((l.map ow).flatMap lf)) := by rw [List.getElem?_append_left hlt]; exact h
  have hx : chunk true 10 l.length ((((l.map ow).flatMap lf).drop 0).map borrow1) = (l.map nb).map fun y => .agg (lf y) := by
    rw [List.drop_zero, ow_bor]
    have := chunk_flat lf_len (l.map nb)
    rwa [List.length_map] at this
  have hcat : (cat ((l.map nb).map fun y => AV.agg (lf y))).map borrow1 = (l.map nb).flatMap lf := by
    have : cat ((l.map nb).map fun y => AV.agg (lf y)) = (l.map nb).flatMap lf := by
      unfold cat; rw [List.flatMap_map]; rfl
    rw [this, ← ow_bor, List.map_map]
    congr 1
    funext a; exact borrow1_idem a
  have hlen : (((l.map ow).flatMap lf)).length = l.length * 10 := by rw [len_flat lf_len, List.length_map]
  have h86 : aggTy Try.prog 86 = true := by kernel_rfl
  rw [asrc_msl ho (by rw [hlen]; omega) (by rw [cellsOf86]) (.inl h86), h86, hx]
  simp only [go_sem, Nat.reduceEqDiff, Nat.reduceLT, ↓reduceIte, Nat.reduceAdd, Nat.reduceSub, Nat.reduceMul, Nat.reduceBEq, Nat.reduceLeDiff, Nat.reduceDvd, reduceCtorEq, Int.reduceToNat, Int.reduceLT, Int.reduceLE, Nat.le_refl, Int.le_refl, false_implies, implies_true, frzSlot, List.take_length, List.mem_cons, List.not_mem_nil, or_false, forall_eq_or_imp, forall_eq, List.range_succ, List.range_zero, exists_eq_left', Option.some.injEq]
  rw [hcat]
  refine ⟨?_, by simp only [List.length_map]; omega, by simp only [List.length_map]; omega, by simp, rfl⟩
  intro x hx2
  obtain ⟨y, _, rfl⟩ := List.mem_map.1 hx2
  rfl

/-- The new lines while the clone is made. -/
def nw (l : List Ln) (k : Nat) : List LF := (l.take k).map ow ++ (l.drop k).map nb
theorem nw_len (l : List Ln) (k : Nat) : (nw l k).length = l.length := by simp [nw]; omega
theorem nw_at {l : List Ln} {k : Nat} {x : Ln} (hx : l[k]? = some x) : (nw l k)[k]? = some (nb x) := by
  have hlt := (List.getElem?_eq_some_iff.1 hx).1
  unfold nw
  rw [List.getElem?_append_right (by simp; omega)]
  simp [Nat.min_eq_left (Nat.le_of_lt hlt), hx]
theorem nw_succ {l : List Ln} {k : Nat} {x : Ln} (hx : l[k]? = some x) : (nw l k).set k (ow x) = nw l (k + 1) := by
  have hlt := (List.getElem?_eq_some_iff.1 hx).1
  have hd := drop_at hx
  unfold nw
  rw [List.set_append_right _ _ (by simp; omega), hd, take_snoc hx]
  simp [Nat.min_eq_left (Nat.le_of_lt hlt)]
theorem nw_end (l : List Ln) : nw l l.length = l.map ow := by simp [nw]
theorem nw_zero (l : List Ln) : nw l 0 = l.map nb := by simp [nw]

def cbase (H : Heap) : Heap := H ++ [none, some [], some []]

structure BB (H : Heap) (o o2 p p2 : Nat) : Prop where
  a : Base H o o2
  b : Base H p p2
  h1 : o ≠ p
  h2 : o ≠ p2
  h3 : o2 ≠ p
  h4 : o2 ≠ p2

def QQ (H : Heap) (o o2 p p2 : Nat) (q r : QS) : Heap := QX (QX H o o2 q.now q.length (q.lines.map ow)) p p2 r.now r.length (r.lines.map ow)

section
variable {H : Heap} {o o2 p p2 : Nat} {q r : QS}
theorem BB.comm (B : BB H o o2 p p2) (n len n' len' : Int) (L L' : List LF) : QX (QX H o o2 n len L) p p2 n' len' L' = QX (QX H p p2 n' len' L') o o2 n len L := by
  unfold QX
  rw [List.set_comm _ _ B.h3, List.set_comm _ _ B.h1, List.set_comm _ _ B.h4, List.set_comm _ _ B.h2]
theorem BB.of1 (B : BB H o o2 p p2) (n len : Int) (L : List LF) : Base (QX H p p2 n len L) o o2 := ⟨by rw [QX_len]; exact B.a.h1, by rw [QX_len]; exact B.a.h2, B.a.ne, B.b.closed⟩
theorem BB.of2 (B : BB H o o2 p p2) (n len : Int) (L : List LF) : Base (QX H o o2 n len L) p p2 := ⟨by rw [QX_len]; exact B.b.h1, by rw [QX_len]; exact B.b.h2, B.b.ne, B.a.closed⟩
theorem BB.v1 (B : BB H o o2 p p2) : QV (QQ H o o2 p p2 q r) o o2 q := by unfold QQ; rw [B.comm]; exact (B.of1 _ _ _).v q
theorem BB.v2 (B : BB H o o2 p p2) : QV (QQ H o o2 p p2 q r) p p2 r := (B.of2 _ _ _).v r
theorem BB.app {cs : List AV} (B : BB H o o2 p p2) (h : bndL (H.length + 1) cs = true) : BB (H ++ [some cs]) o o2 p p2 := ⟨B.a.app h, B.b.app h, B.h1, B.h2, B.h3, B.h4⟩
theorem BB.swap {cs : List AV} {j : Nat} (B : BB H o o2 p p2) (h : bndL H.length cs = true) : BB (H.set j (some cs)) o o2 p p2 :=
  ⟨⟨by rw [List.length_set]; exact B.a.h1, by rw [List.length_set]; exact B.a.h2, B.a.ne, B.a.cl.set j h⟩, ⟨by rw [List.length_set]; exact B.b.h1, by rw [List.length_set]; exact B.b.h2, B.b.ne, B.b.cl.set j h⟩, B.h1, B.h2, B.h3, B.h4⟩
end

theorem f13_q1 {H : Heap} {o o2 p p2 : Nat} (B : BB H o o2 p p2) {q r : QS} (hq : q.fine) (x : Step) :
    ACall Try.prog 13 [.ptr o 0, .agg x.c] (QQ H o o2 p p2 q r) fun v H' => v = .tup [.sl none (l57 (pdo q x).2.1), .int .i64 (pdo q x).2.2] ∧ H' = QQ H o o2 p p2 (pdo q x).1 r := by
  unfold QQ
  rw [B.comm]
  refine (f13_a (B.of1 _ _ _) q hq x).mono fun v H' h => ⟨h.1, ?_⟩
  rw [h.2, B.comm]
theorem f13_q2 {H : Heap} {o o2 p p2 : Nat} (B : BB H o o2 p p2) {q r : QS} (hr : r.fine) (x : Step) :
    ACall Try.prog 13 [.ptr p 0, .agg x.c] (QQ H o o2 p p2 q r) fun v H' => v = .tup [.sl none (l57 (pdo r x).2.1), .int .i64 (pdo r x).2.2] ∧ H' = QQ H o o2 p p2 q (pdo r x).1 :=
  f13_a (B.of2 _ _ _) r hr x

theorem cbase_bb {H0 : Heap} {o o2 : Nat} (B : Base H0 o o2) : BB (cbase H0) o o2 (H0.length + 2) (H0.length + 1) := by
  have h1 := B.h1
  have h2 := B.h2
  have hc : closedH (cbase H0) := by
    intro i cs hi
    unfold cbase at hi ⊢
    by_cases hlt : i < H0.length
    · rw [List.getElem?_append_left hlt] at hi
      exact bndL_mono (by simp) _ (B.cl i cs hi)
    · rw [List.getElem?_append_right (by omega)] at hi
      have h3 := (List.getElem?_eq_some_iff.1 hi).1
      simp at h3
      have h4 : i - H0.length = 0 ∨ i - H0.length = 1 ∨ i - H0.length = 2 := by omega
      rcases h4 with h4 | h4 | h4 <;> rw [h4] at hi <;> cases hi <;> rfl
  have hl : (cbase H0).length = H0.length + 3 := by simp [cbase]
  exact ⟨⟨by omega, by omega, B.ne, hc⟩, ⟨by omega, by omega, by omega, hc⟩, by omega, by omega, by omega, by omega⟩

theorem cbase_new {H0 : Heap} {o o2 : Nat} (B : Base H0 o o2) (n len : Int) (L : List LF) (n' len' : Int) (L' : List LF) :
    QX (QX (cbase H0) o o2 n len L) (H0.length + 2) (H0.length + 1) n' len' L' = QX H0 o o2 n len L ++ [none, some (L'.flatMap lf), some [.int .i64 n', .int .i64 len', .msl (H0.length + 1) 0 L'.length 10]] := by
  have h1 := B.h1
  have h2 := B.h2
  unfold QX cbase
  rw [List.set_append_left _ _ h1, List.set_append_left _ _ (by rw [List.length_set]; exact h2), List.set_append_right _ _ (by simp), List.set_append_right _ _ (by simp)]
  simp

theorem f23_a {H0 : Heap} {o o2 : Nat} (B : Base H0 o o2) (q : QS) (hq : q.fine) :
    ACall Try.prog 23 [.ptr o 0] (QH H0 o o2 q) fun v H' => v = .ptr (H0.length + 2) 0 ∧ H' = QQ (cbase H0) o o2 (H0.length + 2) (H0.length + 1) q q := by
  refine ACall.of h23 rfl mixed h23_d Try.func23 rfl call23 (by simp [Try.f23]) ?_
  have B2 := cbase_bb B
  have h2 : (QH H0 o o2 q)[o2]? = some (some ((q.lines.map ow).flatMap lf)) := B.at2
  have hll : q.lines.length ≤ 1000 := hq.2.1
  simp only [Try.f23, go_sem, Nat.reduceEqDiff, Nat.reduceLT, ↓reduceIte, Nat.reduceAdd, Nat.reduceSub, Nat.reduceMul, Nat.reduceBEq, Nat.reduceLeDiff, Nat.reduceDvd, reduceCtorEq, Int.reduceToNat, Int.reduceLT, Int.reduceLE, Nat.le_refl, Int.le_refl, false_implies, implies_true, frzSlot, List.take_length, List.mem_cons, List.not_mem_nil, or_false, forall_eq_or_imp, forall_eq, List.range_succ, List.range_zero, exists_eq_left', Option.some.injEq, B.now, B.length, B.lines]
  refine ⟨_, _, f46_d h2 hll, ?_⟩
  have h0 := cbase_new B q.now q.length (q.lines.map ow) q.now q.length (nw q.lines 0)
  rw [nw_len, nw_zero] at h0
  have hLX : (QH H0 o o2 q).length = H0.length := QX_len
  have e0 : ∀ x : Option (List AV), QH H0 o o2 q ++ [none, some ((q.lines.map nb).flatMap lf)] ++ [x] = QH H0 o o2 q ++ [none, some ((q.lines.map nb).flatMap lf), x] := fun x => by simp
  have e1 : (QH H0 o o2 q ++ [none, some ((q.lines.map nb).flatMap lf)]).length = H0.length + 2 := by rw [List.length_append, hLX]; rfl
  simp only [go_sem, Nat.reduceEqDiff, Nat.reduceLT, ↓reduceIte, Nat.reduceAdd, Nat.reduceSub, Nat.reduceMul, Nat.reduceBEq, Nat.reduceLeDiff, Nat.reduceDvd, reduceCtorEq, Int.reduceToNat, Int.reduceLT, Int.reduceLE, Nat.le_refl, Int.le_refl, false_implies, implies_true, frzSlot, List.take_length, List.mem_cons, List.not_mem_nil, or_false, forall_eq_or_imp, forall_eq, List.range_succ, List.range_zero, exists_eq_left', Option.some.injEq, hLX, e0, e1]
  rw [← nw_zero] at h0 ⊢
  rw [← h0]
  have C2 := B2.of2 q.now q.length (q.lines.map ow)
  have hlines : ∀ k, vLoad Try.prog false 80 (.ptr (H0.length + 2) 2) (QX (QX (cbase H0) o o2 q.now q.length (q.lines.map ow)) (H0.length + 2) (H0.length + 1) q.now q.length (nw q.lines k)) = some (.msl (H0.length + 1) 0 q.lines.length 10, QX (QX (cbase H0) o o2 q.now q.length (q.lines.map ow)) (H0.length + 2) (H0.length + 1) q.now q.length (nw q.lines k)) := fun k => by
    rw [C2.lines, nw_len]
  simp only [go_sem, Nat.reduceEqDiff, Nat.reduceLT, ↓reduceIte, Nat.reduceAdd, Nat.reduceSub, Nat.reduceMul, Nat.reduceBEq, Nat.reduceLeDiff, Nat.reduceDvd, reduceCtorEq, Int.reduceToNat, Int.reduceLT, Int.reduceLE, Nat.le_refl, Int.le_refl, false_implies, implies_true, frzSlot, List.take_length, List.mem_cons, List.not_mem_nil, or_false, forall_eq_or_imp, forall_eq, List.range_succ, List.range_zero, exists_eq_left', Option.some.injEq, C2.at1, nw_len]
  clear h0 e0 e1 hLX h2
  refine awp_for q.lines.length (fun k => [(0, .ptr o 0), (3, .ptr (H0.length + 2) 0), (26, .int .i64 (q.lines.length : Int)), (27, .int .i64 (k : Int))])
    (fun k => QX (QX (cbase H0) o o2 q.now q.length (q.lines.map ow)) (H0.length + 2) (H0.length + 1) q.now q.length (nw q.lines k)) rfl rfl ?_
  intro k hk
  by_cases hlt : k < q.lines.length
  · obtain ⟨x, hx⟩ : ∃ x, q.lines[k]? = some x := ⟨_, List.getElem?_eq_getElem hlt⟩
    have k0 : (0 : Int) ≤ (k : Int) := by omega
    have k1 : (k : Int) < (q.lines.length : Int) := by omega
    have hnx := nw_at hx
    have hnl : k < (nw q.lines k).length := by rw [nw_len]; exact hlt
    have d1 := hq.1 x (List.mem_of_getElem? hx)
    have n1 : (nb x).1 = x := rfl
    have hs : (nw q.lines k).set k (x, some 11, some 1) = nw q.lines (k + 1) := nw_succ hx
    have hmx : (q.lines.map ow)[k]? = some (ow x) := by rw [List.getElem?_map, hx]; rfl
    have hml : k < (q.lines.map ow).length := by rw [List.length_map]; exact hlt
    simp only [go_sem, Nat.reduceEqDiff, Nat.reduceLT, ↓reduceIte, Nat.reduceAdd, Nat.reduceSub, Nat.reduceMul, Nat.reduceBEq, Nat.reduceLeDiff, Nat.reduceDvd, reduceCtorEq, Int.reduceToNat, Int.reduceLT, Int.reduceLE, Nat.le_refl, Int.le_refl, false_implies, implies_true, frzSlot, List.take_length, List.mem_cons, List.not_mem_nil, or_false, forall_eq_or_imp, forall_eq, List.range_succ, List.range_zero, exists_eq_left', Option.some.injEq, k0, k1, hlines, C2.packets, C2.due, C2.sp, C2.sd, hnx, List.getElem?_set_self hnl, List.set_set, n1]
    rw [show ((nw q.lines k).set k (({ counts := x.counts, down := x.down, capacity := x.capacity, delay := x.delay, packets := x.packets, due := x.due } : Ln), some 11, some 1)) = nw q.lines (k + 1) from hs]
    refine ⟨Int.natCast_nonneg _, Int.natCast_nonneg _, ?_⟩
    rw [B2.comm]
    have C1 := B2.of1 q.now q.length (nw q.lines (k + 1))
    simp only [go_sem, Nat.reduceEqDiff, Nat.reduceLT, ↓reduceIte, Nat.reduceAdd, Nat.reduceSub, Nat.reduceMul, Nat.reduceBEq, Nat.reduceLeDiff, Nat.reduceDvd, reduceCtorEq, Int.reduceToNat, Int.reduceLT, Int.reduceLE, Nat.le_refl, Int.le_refl, false_implies, implies_true, frzSlot, List.take_length, List.mem_cons, List.not_mem_nil, or_false, forall_eq_or_imp, forall_eq, List.range_succ, List.range_zero, exists_eq_left', Option.some.injEq, k0, k1, C1.at1, List.length_map, C1.packets, C1.due, C1.sp, C1.sd, hx, List.getElem?_set_self hml, List.set_set, w64s (show k < 9223372036854775807 by omega)]
    have hms : q.lines.set k { counts := x.counts, down := x.down, capacity := x.capacity, delay := x.delay, packets := x.packets, due := x.due } = q.lines := by
      obtain ⟨h1, h2⟩ := List.getElem?_eq_some_iff.1 hx
      show q.lines.set k x = _
      rw [← h2]; exact List.set_getElem_self h1
    rw [hms, ← B2.comm]
    exact ⟨Int.natCast_nonneg _, Int.natCast_nonneg _, hlt, rfl, rfl⟩
  · have k1 : ¬ (k : Int) < (q.lines.length : Int) := by omega
    have hke : k = q.lines.length := by omega
    subst hke
    simp only [go_sem, Nat.reduceEqDiff, Nat.reduceLT, ↓reduceIte, Nat.reduceAdd, Nat.reduceSub, Nat.reduceMul, Nat.reduceBEq, Nat.reduceLeDiff, Nat.reduceDvd, reduceCtorEq, Int.reduceToNat, Int.reduceLT, Int.reduceLE, Nat.le_refl, Int.le_refl, false_implies, implies_true, frzSlot, List.take_length, List.mem_cons, List.not_mem_nil, or_false, forall_eq_or_imp, forall_eq, List.range_succ, List.range_zero, exists_eq_left', Option.some.injEq, k1, nw_end]
    rfl
end Go.AI

/- The law QueueClones answers true. -/
namespace Go.AI
open Go.Proofs
set_option maxRecDepth 20000

theorem f14_u {i : Nat} {n : Network} {ds : List Int} {q : QS} (h : QInv i n ds q) (hi : i < 3000) (x : Step) :
    PCall Try.prog 14 [.agg (absQ n ds q).c, .agg x.c] (.tup [.agg (absQ n ds (pdo q x).1).c, .sl none (l57 (pdo q x).2.1), .int .i64 (pdo q x).2.2]) := f14_s h hi x

theorem f16_s {i : Nat} {n : Network} {ds : List Int} {q : QS} {H : Heap} {o o2 : Nat} (hq : QV H o o2 q) (h : QInv i n ds q) : RCall Try.prog 16 [.ptr o 0, .agg (absQ n ds q).c] H (.bool true) :=
  f16_r hq (alike h) h.fine.1 (Nat.le_trans h.fine.2.1 (by decide)) (Nat.le_trans h.rsmall.1 (by decide)) (fun y hy => (h.rsmall.2 y hy).2)

theorem Base.swap1 {H0 : Heap} {o o2 j : Nat} {cs : List AV} (B : Base H0 o o2) (h : bndL H0.length cs = true) : Base (H0.set j (some cs)) o o2 :=
  ⟨by rw [List.length_set]; exact B.h1, by rw [List.length_set]; exact B.h2, B.ne, B.cl.set j h⟩

theorem QX_push' {A : Heap} {o o2 : Nat} {n len : Int} {L : List LF} (h1 : o < A.length) (h2 : o2 < A.length) {x : Option (List AV)} : QX A o o2 n len L ++ [x] = QX (A ++ [x]) o o2 n len L := by
  unfold QX
  rw [List.set_append_left _ _ h1, List.set_append_left _ _ (by rw [List.length_set]; exact h2)]

section
variable {H l : Heap} {o o2 p p2 : Nat} {q r : QS}
theorem QQ_len : (QQ H o o2 p p2 q r).length = H.length := by unfold QQ; rw [QX_len, QX_len]
theorem BB.push1 (B : BB H o o2 p p2) (x : Option (List AV)) : QQ H o o2 p p2 q r ++ [x] = QQ (H ++ [x]) o o2 p p2 q r := by
  have h1 := B.a.h1
  have h2 := B.a.h2
  have h3 := B.b.h1
  have h4 := B.b.h2
  unfold QQ
  rw [QX_push' (by rw [QX_len]; omega) (by rw [QX_len]; omega), QX_push' h1 h2]
theorem BB.push (B : BB H o o2 p p2) (x : Option (List AV)) : QQ (H ++ l) o o2 p p2 q r ++ [x] = QQ (H ++ (l ++ [x])) o o2 p p2 q r := by
  have h1 := B.a.h1
  have h2 := B.a.h2
  have h3 := B.b.h1
  have h4 := B.b.h2
  unfold QQ
  rw [QX_push' (by rw [QX_len, List.length_append]; omega) (by rw [QX_len, List.length_append]; omega), QX_push' (by rw [List.length_append]; omega) (by rw [List.length_append]; omega), List.append_assoc]
theorem QQ_geti (j : Nat) (h1 : o ≠ j) (h2 : o2 ≠ j) (h3 : p ≠ j) (h4 : p2 ≠ j) : (QQ H o o2 p p2 q r)[j]? = H[j]? := by
  unfold QQ
  rw [QX_geti _ h3 h4, QX_geti _ h1 h2]
theorem BB.seti (B : BB H o o2 p p2) (j : Nat) (h1 : o ≠ j) (h2 : o2 ≠ j) (h3 : p ≠ j) (h4 : p2 ≠ j) (x : Option (List AV)) : (QQ H o o2 p p2 q r).set j x = QQ (H.set j x) o o2 p p2 q r := by
  unfold QQ
  rw [QX_seti (B.of2 _ _ _) _ h3 h4, QX_seti B.a _ h1 h2]
theorem BB.ga (B : BB H o o2 p p2) (j : Nat) : (QQ (H ++ l) o o2 p p2 q r)[H.length + j]? = l[j]? := by
  have := B.a.h1; have := B.a.h2; have := B.b.h1; have := B.b.h2
  rw [QQ_geti _ (by omega) (by omega) (by omega) (by omega)]
  exact app_at _ _ _
theorem BB.sa (B : BB H o o2 p p2) (j : Nat) (x : Option (List AV)) : (QQ (H ++ l) o o2 p p2 q r).set (H.length + j) x = QQ (H ++ l.set j x) o o2 p p2 q r := by
  have h1 := B.a.h1; have h2 := B.a.h2; have h3 := B.b.h1; have h4 := B.b.h2
  unfold QQ QX
  rw [List.set_comm _ _ (show p2 ≠ H.length + j by omega), List.set_comm _ _ (show p ≠ H.length + j by omega), List.set_comm _ _ (show o2 ≠ H.length + j by omega), List.set_comm _ _ (show o ≠ H.length + j by omega), app_set]
end

/-- The heap after the clone, but for the specification's queues in place 4. -/
structure KF (c : Case) (Kf : RQ → Heap) (N p p2 : Nat) : Prop where
  len : ∀ r, (Kf r).length = N
  bb : ∀ r, BB (Kf r) 3 2 p p2
  g0 : ∀ r, (Kf r)[0]? = some (some c.c)
  g4 : ∀ r, (Kf r)[4]? = some (some r.c)
  s4 : ∀ r r', (Kf r).set 4 (some (RQ.c r')) = Kf r'
  p4 : 4 < p ∧ 4 < p2 ∧ 4 < N

section
variable {c : Case} {Kf : RQ → Heap} {N p p2 : Nat} {l : Heap} {q t : QS}
theorem KF.at0 (h : KF c Kf N p p2) (r : RQ) : (QQ (Kf r) 3 2 p p2 q t)[0]? = some (some c.c) := by
  have := h.p4
  rw [QQ_geti _ (by decide) (by decide) (by omega) (by omega)]; exact h.g0 r
theorem KF.atl (h : KF c Kf N p p2) (r : RQ) : (QQ (Kf r ++ l) 3 2 p p2 q t)[0]? = some (some c.c) := by
  have := h.p4
  rw [QQ_geti _ (by decide) (by decide) (by omega) (by omega), List.getElem?_append_left (by rw [h.len]; omega)]; exact h.g0 r
theorem KF.r0 (h : KF c Kf N p p2) (r : RQ) : (QQ (Kf r) 3 2 p p2 q t)[4]? = some (some r.c) := by
  have := h.p4
  rw [QQ_geti _ (by decide) (by decide) (by omega) (by omega)]; exact h.g4 r
theorem KF.rl (h : KF c Kf N p p2) (r : RQ) : (QQ (Kf r ++ l) 3 2 p p2 q t)[4]? = some (some r.c) := by
  have := h.p4
  rw [QQ_geti _ (by decide) (by decide) (by omega) (by omega), List.getElem?_append_left (by rw [h.len]; omega)]; exact h.g4 r
theorem KF.sl (h : KF c Kf N p p2) (r r' : RQ) (B : BB (Kf r ++ l) 3 2 p p2) : (QQ (Kf r ++ l) 3 2 p p2 q t).set 4 (some r'.c) = QQ (Kf r' ++ l) 3 2 p p2 q t := by
  have := h.p4
  rw [B.seti _ (by decide) (by decide) (by omega) (by omega), List.set_append_left _ _ (by rw [h.len]; omega), h.s4]
theorem KF.bl (h : KF c Kf N p p2) (r r' : RQ) (B : BB (Kf r ++ l) 3 2 p p2) : BB (Kf r' ++ l) 3 2 p p2 := by
  have := B.swap (j := 4) (cs := r'.c) (by simp only [go_sem])
  rwa [List.set_append_left _ _ (by rw [h.len]; have := h.p4; omega), h.s4] at this
theorem KF.push1 (h : KF c Kf N p p2) (r : RQ) (x : Option (List AV)) : QQ (Kf r) 3 2 p p2 q t ++ [x] = QQ (Kf r ++ [x]) 3 2 p p2 q t := (h.bb r).push1 x
theorem KF.push (h : KF c Kf N p p2) (r : RQ) (x : Option (List AV)) : QQ (Kf r ++ l) 3 2 p p2 q t ++ [x] = QQ (Kf r ++ (l ++ [x])) 3 2 p p2 q t := (h.bb r).push x
theorem KF.ga (h : KF c Kf N p p2) (r : RQ) (j : Nat) : (QQ (Kf r ++ l) 3 2 p p2 q t)[N + j]? = l[j]? := by rw [← h.len r]; exact (h.bb r).ga j
theorem KF.gz (h : KF c Kf N p p2) (r : RQ) : (QQ (Kf r ++ l) 3 2 p p2 q t)[N]? = l[0]? := h.ga r 0
theorem KF.sa (h : KF c Kf N p p2) (r : RQ) (j : Nat) (x : Option (List AV)) : (QQ (Kf r ++ l) 3 2 p p2 q t).set (N + j) x = QQ (Kf r ++ l.set j x) 3 2 p p2 q t := by rw [← h.len r]; exact (h.bb r).sa j x
theorem KF.sz (h : KF c Kf N p p2) (r : RQ) (x : Option (List AV)) : (QQ (Kf r ++ l) 3 2 p p2 q t).set N x = QQ (Kf r ++ l.set 0 x) 3 2 p p2 q t := h.sa r 0 x
end

theorem KF.make {c : Case} {H1 : Heap} {r0 : RQ} {g : Heap} (hl : H1.length = 4) (h0 : H1[0]? = some (some c.c)) (B : Base (H1 ++ some r0.c :: g) 3 2) :
    KF c (fun r => cbase (H1 ++ some r.c :: g)) (H1.length + g.length + 4) ((H1 ++ some r0.c :: g).length + 2) ((H1 ++ some r0.c :: g).length + 1) := by
  have hB : ∀ r : RQ, Base (H1 ++ some r.c :: g) 3 2 := fun r => by
    have := B.swap1 (j := 4) (cs := r.c) (by simp only [go_sem])
    rw [← hl, app_set0] at this
    exact this
  refine ⟨fun r => by simp [cbase]; omega, fun r => ?_, fun r => ?_, fun r => ?_, fun r r' => ?_, by simp; omega⟩
  · have := cbase_bb (hB r)
    simpa using this
  · unfold cbase
    rw [List.getElem?_append_left (by simp; omega), List.getElem?_append_left (by omega)]; exact h0
  · unfold cbase
    rw [List.getElem?_append_left (by simp; omega), ← hl, app_at0]; rfl
  · unfold cbase
    rw [List.set_append_left _ _ (by simp; omega), ← hl, app_set0]; rfl

theorem f8_c (c : Case) (hn : c.n.small) (at_ : Int) (hat : 0 ≤ at_ ∧ at_ ≤ 255) : PCall Try.prog 8 [.agg c.c, .int .u8 at_] (.bool true) := by
  refine PCall.of h8 mixed h8_d Try.func8 rfl call8 (by simp [Try.f8]) (by simp [pureL, AV.pure, go_sem]) rfl ?_
  simp only [Try.f8, go_sem, Nat.reduceEqDiff, Nat.reduceLT, ↓reduceIte, Nat.reduceAdd, Nat.reduceSub, Nat.reduceMul, Nat.reduceBEq, Nat.reduceLeDiff, Nat.reduceDvd, reduceCtorEq, Int.reduceToNat, Int.reduceLT, Int.reduceLE, Nat.le_refl, Int.le_refl, false_implies, implies_true, frzSlot, List.take_length, List.mem_cons, List.not_mem_nil, or_false, forall_eq_or_imp, forall_eq, List.range_succ, List.range_zero, exists_eq_left', Option.some.injEq]
  refine ACallK.prop (f9_c c hn) ?_
  rintro _ ⟨b, rfl, hb⟩
  cases b with
  | false =>
    simp only [go_sem, Nat.reduceEqDiff, Nat.reduceLT, ↓reduceIte, Nat.reduceAdd, Nat.reduceSub, Nat.reduceMul, Nat.reduceBEq, Nat.reduceLeDiff, Nat.reduceDvd, reduceCtorEq, Int.reduceToNat, Int.reduceLT, Int.reduceLE, Nat.le_refl, Int.le_refl, false_implies, implies_true, frzSlot, List.take_length, List.mem_cons, List.not_mem_nil, or_false, forall_eq_or_imp, forall_eq, List.range_succ, List.range_zero, exists_eq_left', Option.some.injEq]
    refine PCallK.intro f10_c ?_
    simp only [go_sem, Nat.reduceEqDiff, Nat.reduceLT, ↓reduceIte, Nat.reduceAdd, Nat.reduceSub, Nat.reduceMul, Nat.reduceBEq, Nat.reduceLeDiff, Nat.reduceDvd, reduceCtorEq, Int.reduceToNat, Int.reduceLT, Int.reduceLE, Nat.le_refl, Int.le_refl, false_implies, implies_true, frzSlot, List.take_length, List.mem_cons, List.not_mem_nil, or_false, forall_eq_or_imp, forall_eq, List.range_succ, List.range_zero, exists_eq_left', Option.some.injEq]
  | true =>
    obtain ⟨g1, g2, g3, g4, g5⟩ := hb rfl
    have hcl : closedH [some c.c] := closedB_spec (by simp only [go_sem])
    simp only [go_sem, Nat.reduceEqDiff, Nat.reduceLT, ↓reduceIte, Nat.reduceAdd, Nat.reduceSub, Nat.reduceMul, Nat.reduceBEq, Nat.reduceLeDiff, Nat.reduceDvd, reduceCtorEq, Int.reduceToNat, Int.reduceLT, Int.reduceLE, Nat.le_refl, Int.le_refl, false_implies, implies_true, frzSlot, List.take_length, List.mem_cons, List.not_mem_nil, or_false, forall_eq_or_imp, forall_eq, List.range_succ, List.range_zero, exists_eq_left', Option.some.injEq]
    cases hf : rfine c.n c.delays c.length with
    | false =>
      have e12 : rnew c.n c.delays c.length = (noRQ, 1) := by unfold rnew; rw [hf]; rfl
      refine ACallK.intro (f11_bad hcl c.n c.delays c.length hf) ?_
      rintro _ _ ⟨rfl, rfl⟩
      simp only [go_sem, Nat.reduceEqDiff, Nat.reduceLT, ↓reduceIte, Nat.reduceAdd, Nat.reduceSub, Nat.reduceMul, Nat.reduceBEq, Nat.reduceLeDiff, Nat.reduceDvd, reduceCtorEq, Int.reduceToNat, Int.reduceLT, Int.reduceLE, Nat.le_refl, Int.le_refl, false_implies, implies_true, frzSlot, List.take_length, List.mem_cons, List.not_mem_nil, or_false, forall_eq_or_imp, forall_eq, List.range_succ, List.range_zero, exists_eq_left', Option.some.injEq]
      have h12 := f12_c c.n c.delays c.length (by omega)
      rw [e12] at h12
      refine PCallK.intro h12 ?_
      simp only [go_sem, Nat.reduceEqDiff, Nat.reduceLT, ↓reduceIte, Nat.reduceAdd, Nat.reduceSub, Nat.reduceMul, Nat.reduceBEq, Nat.reduceLeDiff, Nat.reduceDvd, reduceCtorEq, Int.reduceToNat, Int.reduceLT, Int.reduceLE, Nat.le_refl, Int.le_refl, false_implies, implies_true, frzSlot, List.take_length, List.mem_cons, List.not_mem_nil, or_false, forall_eq_or_imp, forall_eq, List.range_succ, List.range_zero, exists_eq_left', Option.some.injEq, Int.reduceBEq, Int.reduceBNe, beq_self_eq_true]
      refine PCallK.intro f10_c ?_
      simp only [go_sem, Nat.reduceEqDiff, Nat.reduceLT, ↓reduceIte, Nat.reduceAdd, Nat.reduceSub, Nat.reduceMul, Nat.reduceBEq, Nat.reduceLeDiff, Nat.reduceDvd, reduceCtorEq, Int.reduceToNat, Int.reduceLT, Int.reduceLE, Nat.le_refl, Int.le_refl, false_implies, implies_true, frzSlot, List.take_length, List.mem_cons, List.not_mem_nil, or_false, forall_eq_or_imp, forall_eq, List.range_succ, List.range_zero, exists_eq_left', Option.some.injEq]
    | true =>
      have e12 : rnew c.n c.delays c.length = ((rnew c.n c.delays c.length).1, 0) := by unfold rnew; rw [hf]; rfl
      obtain ⟨s1, s2⟩ := new_step hf (by omega) (fun x hx => g3 x hx)
      refine ACallK.intro (f11_good hcl c.n c.delays c.length hf (by omega)) ?_
      rintro _ _ ⟨rfl, rfl⟩
      have B0 : Base (nbase [some c.c] c.n) 3 2 := nbase_ok hcl c.n
      have q0 : ∀ n len L l, (QX (nbase [some c.c] c.n ++ l) 3 2 n len L)[0]? = some (some c.c) := fun n len L l => rfl
      have q00 : ∀ n len L, (QX (nbase [some c.c] c.n) 3 2 n len L)[0]? = some (some c.c) := fun n len L => rfl
      have hl4 : (nbase [some c.c] c.n).length = 4 := rfl
      simp only [go_sem, Nat.reduceEqDiff, Nat.reduceLT, ↓reduceIte, Nat.reduceAdd, Nat.reduceSub, Nat.reduceMul, Nat.reduceBEq, Nat.reduceLeDiff, Nat.reduceDvd, reduceCtorEq, Int.reduceToNat, Int.reduceLT, Int.reduceLE, Nat.le_refl, Int.le_refl, false_implies, implies_true, frzSlot, List.take_length, List.mem_cons, List.not_mem_nil, or_false, forall_eq_or_imp, forall_eq, List.range_succ, List.range_zero, exists_eq_left', Option.some.injEq, Nat.reduceAdd]
      generalize nbase [some c.c] c.n = H1 at *
      simp only [go_sem, Nat.reduceEqDiff, Nat.reduceLT, ↓reduceIte, Nat.reduceAdd, Nat.reduceSub, Nat.reduceMul, Nat.reduceBEq, Nat.reduceLeDiff, Nat.reduceDvd, reduceCtorEq, Int.reduceToNat, Int.reduceLT, Int.reduceLE, Nat.le_refl, Int.le_refl, false_implies, implies_true, frzSlot, List.take_length, List.mem_cons, List.not_mem_nil, or_false, forall_eq_or_imp, forall_eq, List.range_succ, List.range_zero, exists_eq_left', Option.some.injEq, q0, q00]
      have h12 := f12_c c.n c.delays c.length (by omega)
      rw [e12, s1] at h12
      refine PCallK.intro h12 ?_
      simp only [go_sem, Nat.reduceEqDiff, Nat.reduceLT, ↓reduceIte, Nat.reduceAdd, Nat.reduceSub, Nat.reduceMul, Nat.reduceBEq, Nat.reduceLeDiff, Nat.reduceDvd, reduceCtorEq, Int.reduceToNat, Int.reduceLT, Int.reduceLE, Nat.le_refl, Int.le_refl, false_implies, implies_true, frzSlot, List.take_length, List.mem_cons, List.not_mem_nil, or_false, forall_eq_or_imp, forall_eq, List.range_succ, List.range_zero, exists_eq_left', Option.some.injEq, Int.reduceBEq, Int.reduceBNe, beq_self_eq_true, B0.push, B0.push2, QX_len, B0.sa, B0.ga, B0.g0, B0.s0, app_at0, app_at, app_set0, app_set, List.length_append, q0]
      have B1 : Base (H1 ++ [some (absQ c.n c.delays (newq c.n c.delays c.length)).c]) 3 2 := B0.app (by simp only [go_sem])
      by_cases hpos : 0 < c.l.length
      · have hpos' : (0 : Int) < (c.l.length : Int) := by omega
        have hK : ∃ K : Nat, (IntKind.i64.wrap at_).tmod (c.l.length : Int) = (K : Int) ∧ K ≤ c.l.length := by
          rw [w64 (by omega) (by omega), Int.tmod_eq_emod_of_nonneg hat.1]
          have h1 := Int.emod_nonneg at_ (show (c.l.length : Int) ≠ 0 by omega)
          have h2 := Int.emod_lt_of_pos at_ hpos'
          exact ⟨(at_ % (c.l.length : Int)).toNat, by omega, by omega⟩
        obtain ⟨K, hK1, hK⟩ := hK
        have hK0 : (0 : Int) ≤ (K : Int) := by omega
        have hK2 : (K : Int) ≤ (c.l.length : Int) := by omega
        have hne : ¬ (c.l.length : Int) = 0 := by omega
        simp only [go_sem, Nat.reduceEqDiff, Nat.reduceLT, ↓reduceIte, Nat.reduceAdd, Nat.reduceSub, Nat.reduceMul, Nat.reduceBEq, Nat.reduceLeDiff, Nat.reduceDvd, reduceCtorEq, Int.reduceToNat, Int.reduceLT, Int.reduceLE, Nat.le_refl, Int.le_refl, false_implies, implies_true, frzSlot, List.take_length, List.mem_cons, List.not_mem_nil, or_false, forall_eq_or_imp, forall_eq, List.range_succ, List.range_zero, exists_eq_left', Option.some.injEq, hpos', q0, hK1, hK0, hK2, hne, ite_self]
        have hTk : (c.l.take K).length = K := by rw [List.length_take]; omega
        refine awp_wh (σ := Nat × QS × Heap) (fun s => [(2, .ptr 0 0), (5, .ptr 3 0), (7, .ptr H1.length 0), (9, .int .i64 (K : Int)), (62, .sl none (l47 (c.l.take K))), (63, .int .i64 (K : Int)), (64, .int .i64 (s.1 : Int))])
          (fun s => QH (H1 ++ some (absQ c.n c.delays s.2.1).c :: s.2.2) 3 2 s.2.1)
          (fun s => s.1 ≤ K ∧ QInv s.1 c.n c.delays s.2.1 ∧ Base (H1 ++ some (absQ c.n c.delays s.2.1).c :: s.2.2) 3 2)
          (fun s => K - s.1) (0, newq c.n c.delays c.length, []) ⟨Nat.zero_le _, s2, B1⟩ (by first | rfl | (rw [hTk]; rfl) | (subst hKz; rfl)) rfl ?_
        rintro ⟨k, q, g⟩ ⟨hk, hI, B⟩
        dsimp only at hk hI B ⊢
        by_cases hlt : k < K
        · obtain ⟨x, hx⟩ : ∃ x, (c.l.take K)[k]? = some x := ⟨_, List.getElem?_eq_getElem (by omega)⟩
          have k0 : (0 : Int) ≤ (k : Int) := by omega
          have k1 : (k : Int) < (K : Int) := by omega
          have hi : k < 3000 := by omega
          have Bx : Base (H1 ++ some (absQ c.n c.delays q).c :: (g ++ [some x.c])) 3 2 := by
            have := B.app (cs := x.c) (by simp only [go_sem])
            simpa using this
          simp only [go_sem, Nat.reduceEqDiff, Nat.reduceLT, ↓reduceIte, Nat.reduceAdd, Nat.reduceSub, Nat.reduceMul, Nat.reduceBEq, Nat.reduceLeDiff, Nat.reduceDvd, reduceCtorEq, Int.reduceToNat, Int.reduceLT, Int.reduceLE, Nat.le_refl, Int.le_refl, false_implies, implies_true, frzSlot, List.take_length, List.mem_cons, List.not_mem_nil, or_false, forall_eq_or_imp, forall_eq, List.range_succ, List.range_zero, exists_eq_left', Option.some.injEq, k0, k1, l47_get hx, B0.push2, QX_len, B0.sa, B0.ga, B0.g0, B0.s0, app_at0, app_at, app_set0, app_set, List.length_append]
          refine ACallK.intro (f13_a Bx q hI.fine x) ?_
          rintro _ _ ⟨rfl, rfl⟩
          simp only [go_sem, Nat.reduceEqDiff, Nat.reduceLT, ↓reduceIte, Nat.reduceAdd, Nat.reduceSub, Nat.reduceMul, Nat.reduceBEq, Nat.reduceLeDiff, Nat.reduceDvd, reduceCtorEq, Int.reduceToNat, Int.reduceLT, Int.reduceLE, Nat.le_refl, Int.le_refl, false_implies, implies_true, frzSlot, List.take_length, List.mem_cons, List.not_mem_nil, or_false, forall_eq_or_imp, forall_eq, List.range_succ, List.range_zero, exists_eq_left', Option.some.injEq, B0.push2, QX_len, B0.sa, B0.ga, B0.g0, B0.s0, app_at0, app_at, app_set0, app_set, List.length_append]
          refine PCallK.intro (f14_u hI hi x) ?_
          obtain ⟨_, hI'⟩ := do_step hI hi x
          simp only [go_sem, Nat.reduceEqDiff, Nat.reduceLT, ↓reduceIte, Nat.reduceAdd, Nat.reduceSub, Nat.reduceMul, Nat.reduceBEq, Nat.reduceLeDiff, Nat.reduceDvd, reduceCtorEq, Int.reduceToNat, Int.reduceLT, Int.reduceLE, Nat.le_refl, Int.le_refl, false_implies, implies_true, frzSlot, List.take_length, List.mem_cons, List.not_mem_nil, or_false, forall_eq_or_imp, forall_eq, List.range_succ, List.range_zero, exists_eq_left', Option.some.injEq, B0.push2, QX_len, B0.sa, B0.ga, B0.g0, B0.s0, app_at0, app_at, app_set0, app_set, List.length_append, w64s (show k < 9223372036854775807 by omega)]
          have Bz : Base (H1 ++ some (absQ c.n c.delays (pdo q x).1).c :: (g ++ [some x.c])) 3 2 := by
            have := Bx.swap1 (j := H1.length) (cs := (absQ c.n c.delays (pdo q x).1).c) (by simp only [go_sem])
            rwa [app_set0] at this
          exact ⟨(k + 1, (pdo q x).1, g ++ [some x.c]), ⟨hlt, hI', Bz⟩, by dsimp only; omega, rfl, rfl⟩
        · have k1 : ¬ (k : Int) < (K : Int) := by omega
          simp only [go_sem, Nat.reduceEqDiff, Nat.reduceLT, ↓reduceIte, Nat.reduceAdd, Nat.reduceSub, Nat.reduceMul, Nat.reduceBEq, Nat.reduceLeDiff, Nat.reduceDvd, reduceCtorEq, Int.reduceToNat, Int.reduceLT, Int.reduceLE, Nat.le_refl, Int.le_refl, false_implies, implies_true, frzSlot, List.take_length, List.mem_cons, List.not_mem_nil, or_false, forall_eq_or_imp, forall_eq, List.range_succ, List.range_zero, exists_eq_left', Option.some.injEq, k1]
          refine ACallK.intro (f23_a B q hI.fine) ?_
          rintro _ _ ⟨rfl, rfl⟩
          have hmk := KF.make hl4 (by have := q00 0 0 []; rwa [QX_geti _ (by decide) (by decide)] at this) B
          have hk100 : k ≤ 100 := by omega
          have hsm := hI.rsmall
          have hal := alike hI
          have hfi := hI.fine
          have hN4 : H1.length = 4 := hl4
          obtain ⟨Kf, hKf⟩ : ∃ Kf : RQ → Heap, Kf = fun r => cbase (H1 ++ some r.c :: g) := ⟨_, rfl⟩
          have hKf0 : cbase (H1 ++ some (absQ c.n c.delays q).c :: g) = Kf (absQ c.n c.delays q) := by rw [hKf]
          rw [← hKf] at hmk
          rw [hKf0, hN4]
          generalize (H1 ++ some (absQ c.n c.delays q).c :: g).length + 2 = p at hmk ⊢
          generalize (H1 ++ some (absQ c.n c.delays q).c :: g).length + 1 = p2 at hmk ⊢
          generalize H1.length + g.length + 4 = N at hmk
          clear hKf0 hKf q0 q00 hl4 B hN4 B1 B0
          have hF := hmk
          simp only [go_sem, Nat.reduceEqDiff, Nat.reduceLT, ↓reduceIte, Nat.reduceAdd, Nat.reduceSub, Nat.reduceMul, Nat.reduceBEq, Nat.reduceLeDiff, Nat.reduceDvd, reduceCtorEq, Int.reduceToNat, Int.reduceLT, Int.reduceLE, Nat.le_refl, Int.le_refl, false_implies, implies_true, frzSlot, List.take_length, List.mem_cons, List.not_mem_nil, or_false, forall_eq_or_imp, forall_eq, List.range_succ, List.range_zero, exists_eq_left', Option.some.injEq, hF.at0, hF.atl, hF.r0, hF.rl, hF.push1, hF.push, hF.ga, hF.gz, hF.sa, hF.sz, QQ_len, hF.len, app_at0, app_at, app_set0, app_set, List.length_append]
          refine RCallK.intro (f16_s (hF.bb _).v2 hI) ?_
          simp only [go_sem, Nat.reduceEqDiff, Nat.reduceLT, ↓reduceIte, Nat.reduceAdd, Nat.reduceSub, Nat.reduceMul, Nat.reduceBEq, Nat.reduceLeDiff, Nat.reduceDvd, reduceCtorEq, Int.reduceToNat, Int.reduceLT, Int.reduceLE, Nat.le_refl, Int.le_refl, false_implies, implies_true, frzSlot, List.take_length, List.mem_cons, List.not_mem_nil, or_false, forall_eq_or_imp, forall_eq, List.range_succ, List.range_zero, exists_eq_left', Option.some.injEq, hF.at0, hF.atl, hF.r0, hF.rl, hF.push1, hF.push, hF.ga, hF.gz, hF.sa, hF.sz, QQ_len, hF.len, app_at0, app_at, app_set0, app_set, List.length_append]
          refine ⟨Int.natCast_nonneg _, Int.ofNat_le.2 hK, ?_⟩
          have Bo : BB (Kf (absQ c.n c.delays q) ++ [some (absQ c.n c.delays q).c]) 3 2 p p2 := (hF.bb _).app (by simp only [go_sem])
          refine awp_wh (σ := Nat × QS × Heap) (fun s => [(2, .ptr 0 0), (5, .ptr 3 0), (7, .ptr 4 0), (9, .int .i64 (K : Int)), (12, .ptr p 0), (13, .ptr N 0), (93, .sl none (l47 (c.l.drop K))), (94, .int .i64 ((c.l.drop K).length : Int)), (95, .int .i64 (s.1 : Int))])
            (fun s => QQ (Kf (absQ c.n c.delays s.2.1) ++ some (absQ c.n c.delays q).c :: s.2.2) 3 2 p p2 s.2.1 q)
            (fun s => s.1 ≤ (c.l.drop K).length ∧ QInv (k + s.1) c.n c.delays s.2.1 ∧ BB (Kf (absQ c.n c.delays s.2.1) ++ some (absQ c.n c.delays q).c :: s.2.2) 3 2 p p2)
            (fun s => (c.l.drop K).length - s.1) (0, q, []) ⟨Nat.zero_le _, hI, Bo⟩ rfl rfl ?_
          rintro ⟨u, q2, f⟩ ⟨hu, hI2, Bu⟩
          dsimp only at hu hI2 Bu ⊢
          have hdl : (c.l.drop K).length = c.l.length - K := List.length_drop
          by_cases hult : u < (c.l.drop K).length
          · obtain ⟨x, hx⟩ : ∃ x, (c.l.drop K)[u]? = some x := ⟨_, List.getElem?_eq_getElem hult⟩
            have k0 : (0 : Int) ≤ (u : Int) := by omega
            have k1 : (u : Int) < ((c.l.drop K).length : Int) := by omega
            have hi : k + u < 3000 := by omega
            have Bx : BB (Kf (absQ c.n c.delays q2) ++ some (absQ c.n c.delays q).c :: (f ++ [some x.c])) 3 2 p p2 := by
              have := Bu.app (cs := x.c) (by simp only [go_sem])
              simpa using this
            simp only [go_sem, Nat.reduceEqDiff, Nat.reduceLT, ↓reduceIte, Nat.reduceAdd, Nat.reduceSub, Nat.reduceMul, Nat.reduceBEq, Nat.reduceLeDiff, Nat.reduceDvd, reduceCtorEq, Int.reduceToNat, Int.reduceLT, Int.reduceLE, Nat.le_refl, Int.le_refl, false_implies, implies_true, frzSlot, List.take_length, List.mem_cons, List.not_mem_nil, or_false, forall_eq_or_imp, forall_eq, List.range_succ, List.range_zero, exists_eq_left', Option.some.injEq, k0, k1, l47_get hx, hF.at0, hF.atl, hF.r0, hF.rl, hF.push1, hF.push, hF.ga, hF.gz, hF.sa, hF.sz, QQ_len, hF.len, app_at0, app_at, app_set0, app_set, List.length_append]
            refine ACallK.intro (f13_q1 Bx hI2.fine x) ?_
            rintro _ _ ⟨rfl, rfl⟩
            simp only [go_sem, Nat.reduceEqDiff, Nat.reduceLT, ↓reduceIte, Nat.reduceAdd, Nat.reduceSub, Nat.reduceMul, Nat.reduceBEq, Nat.reduceLeDiff, Nat.reduceDvd, reduceCtorEq, Int.reduceToNat, Int.reduceLT, Int.reduceLE, Nat.le_refl, Int.le_refl, false_implies, implies_true, frzSlot, List.take_length, List.mem_cons, List.not_mem_nil, or_false, forall_eq_or_imp, forall_eq, List.range_succ, List.range_zero, exists_eq_left', Option.some.injEq, hF.at0, hF.atl, hF.r0, hF.rl, hF.push1, hF.push, hF.ga, hF.gz, hF.sa, hF.sz, QQ_len, hF.len, app_at0, app_at, app_set0, app_set, List.length_append]
            refine PCallK.intro (f14_u hI2 hi x) ?_
            obtain ⟨_, hI2'⟩ := do_step hI2 hi x
            have Bz := hF.bl _ (absQ c.n c.delays (pdo q2 x).1) Bx
            simp only [go_sem, Nat.reduceEqDiff, Nat.reduceLT, ↓reduceIte, Nat.reduceAdd, Nat.reduceSub, Nat.reduceMul, Nat.reduceBEq, Nat.reduceLeDiff, Nat.reduceDvd, reduceCtorEq, Int.reduceToNat, Int.reduceLT, Int.reduceLE, Nat.le_refl, Int.le_refl, false_implies, implies_true, frzSlot, List.take_length, List.mem_cons, List.not_mem_nil, or_false, forall_eq_or_imp, forall_eq, List.range_succ, List.range_zero, exists_eq_left', Option.some.injEq, hF.at0, hF.atl, hF.r0, hF.rl, hF.push1, hF.push, hF.ga, hF.gz, hF.sa, hF.sz, QQ_len, hF.len, app_at0, app_at, app_set0, app_set, List.length_append, w64s (show u < 9223372036854775807 by omega)]
            refine ⟨(u + 1, (pdo q2 x).1, f ++ [some x.c]), ⟨hult, hI2', Bz⟩, by dsimp only; omega, rfl, ?_⟩
            exact hF.sl _ _ Bx
          · have k1 : ¬ (u : Int) < ((c.l.drop K).length : Int) := by omega
            simp only [go_sem, Nat.reduceEqDiff, Nat.reduceLT, ↓reduceIte, Nat.reduceAdd, Nat.reduceSub, Nat.reduceMul, Nat.reduceBEq, Nat.reduceLeDiff, Nat.reduceDvd, reduceCtorEq, Int.reduceToNat, Int.reduceLT, Int.reduceLE, Nat.le_refl, Int.le_refl, false_implies, implies_true, frzSlot, List.take_length, List.mem_cons, List.not_mem_nil, or_false, forall_eq_or_imp, forall_eq, List.range_succ, List.range_zero, exists_eq_left', Option.some.injEq, k1, hF.at0, hF.atl, hF.r0, hF.rl, hF.push1, hF.push, hF.ga, hF.gz, hF.sa, hF.sz, QQ_len, hF.len, app_at0, app_at, app_set0, app_set, List.length_append]
            refine RCallK.intro (f16_s Bu.v2 hI) ?_
            simp only [go_sem, Nat.reduceEqDiff, Nat.reduceLT, ↓reduceIte, Nat.reduceAdd, Nat.reduceSub, Nat.reduceMul, Nat.reduceBEq, Nat.reduceLeDiff, Nat.reduceDvd, reduceCtorEq, Int.reduceToNat, Int.reduceLT, Int.reduceLE, Nat.le_refl, Int.le_refl, false_implies, implies_true, frzSlot, List.take_length, List.mem_cons, List.not_mem_nil, or_false, forall_eq_or_imp, forall_eq, List.range_succ, List.range_zero, exists_eq_left', Option.some.injEq, hF.at0, hF.atl, hF.r0, hF.rl, hF.push1, hF.push, hF.ga, hF.gz, hF.sa, hF.sz, QQ_len, hF.len, app_at0, app_at, app_set0, app_set, List.length_append]
            refine RCallK.intro (f16_s Bu.v1 hI2) ?_
            simp only [go_sem, Nat.reduceEqDiff, Nat.reduceLT, ↓reduceIte, Nat.reduceAdd, Nat.reduceSub, Nat.reduceMul, Nat.reduceBEq, Nat.reduceLeDiff, Nat.reduceDvd, reduceCtorEq, Int.reduceToNat, Int.reduceLT, Int.reduceLE, Nat.le_refl, Int.le_refl, false_implies, implies_true, frzSlot, List.take_length, List.mem_cons, List.not_mem_nil, or_false, forall_eq_or_imp, forall_eq, List.range_succ, List.range_zero, exists_eq_left', Option.some.injEq, hF.at0, hF.atl, hF.r0, hF.rl, hF.push1, hF.push, hF.ga, hF.gz, hF.sa, hF.sz, QQ_len, hF.len, app_at0, app_at, app_set0, app_set, List.length_append]
            refine ⟨Int.natCast_nonneg _, Int.ofNat_le.2 hK, ?_⟩
            refine awp_wh (σ := Nat × QS × Heap) (fun s => [(2, .ptr 0 0), (5, .ptr 3 0), (7, .ptr 4 0), (12, .ptr p 0), (13, .ptr N 0), (124, .int .i64 ((c.l.drop K).length : Int)), (125, .int .i64 (s.1 : Int))])
              (fun s => QQ (Kf (absQ c.n c.delays q2) ++ some (absQ c.n c.delays s.2.1).c :: s.2.2) 3 2 p p2 q2 s.2.1)
              (fun s => s.1 ≤ (c.l.drop K).length ∧ QInv (k + s.1) c.n c.delays s.2.1 ∧ BB (Kf (absQ c.n c.delays q2) ++ some (absQ c.n c.delays s.2.1).c :: s.2.2) 3 2 p p2)
              (fun s => (c.l.drop K).length - s.1) (0, q, f) ⟨Nat.zero_le _, hI, Bu⟩ rfl rfl ?_
            rintro ⟨v, tw, e⟩ ⟨hv, hIt, Bv⟩
            dsimp only at hv hIt Bv ⊢
            by_cases hvlt : v < (c.l.drop K).length
            · obtain ⟨x, hx⟩ : ∃ x, c.l[c.l.length - 1 - v]? = some x := ⟨_, List.getElem?_eq_getElem (by omega)⟩
              have k1 : (v : Int) < ((c.l.drop K).length : Int) := by omega
              have hi : k + v < 3000 := by omega
              have w1 : IntKind.i64.wrap ((c.l.length : Int) - 1) = (c.l.length : Int) - 1 := w64 (by omega) (by omega)
              have w2 : IntKind.i64.wrap ((c.l.length : Int) - 1 - (v : Int)) = ((c.l.length - 1 - v : Nat) : Int) := by rw [w64 (by omega) (by omega)]; omega
              have k3 : (0 : Int) ≤ ((c.l.length - 1 - v : Nat) : Int) := by omega
              have k4 : ((c.l.length - 1 - v : Nat) : Int) < (c.l.length : Int) := by omega
              have Bx : BB (Kf (absQ c.n c.delays q2) ++ some (absQ c.n c.delays tw).c :: (e ++ [some x.c])) 3 2 p p2 := by
                have := Bv.app (cs := x.c) (by simp only [go_sem])
                simpa using this
              simp only [go_sem, Nat.reduceEqDiff, Nat.reduceLT, ↓reduceIte, Nat.reduceAdd, Nat.reduceSub, Nat.reduceMul, Nat.reduceBEq, Nat.reduceLeDiff, Nat.reduceDvd, reduceCtorEq, Int.reduceToNat, Int.reduceLT, Int.reduceLE, Nat.le_refl, Int.le_refl, false_implies, implies_true, frzSlot, List.take_length, List.mem_cons, List.not_mem_nil, or_false, forall_eq_or_imp, forall_eq, List.range_succ, List.range_zero, exists_eq_left', Option.some.injEq, k1, hF.at0, hF.atl, hF.r0, hF.rl, hF.push1, hF.push, hF.ga, hF.gz, hF.sa, hF.sz, QQ_len, hF.len, app_at0, app_at, app_set0, app_set, List.length_append, w1, w2, k3, k4, l47_get hx]
              refine ACallK.intro (f13_q2 Bx hIt.fine x) ?_
              rintro _ _ ⟨rfl, rfl⟩
              simp only [go_sem, Nat.reduceEqDiff, Nat.reduceLT, ↓reduceIte, Nat.reduceAdd, Nat.reduceSub, Nat.reduceMul, Nat.reduceBEq, Nat.reduceLeDiff, Nat.reduceDvd, reduceCtorEq, Int.reduceToNat, Int.reduceLT, Int.reduceLE, Nat.le_refl, Int.le_refl, false_implies, implies_true, frzSlot, List.take_length, List.mem_cons, List.not_mem_nil, or_false, forall_eq_or_imp, forall_eq, List.range_succ, List.range_zero, exists_eq_left', Option.some.injEq, hF.at0, hF.atl, hF.r0, hF.rl, hF.push1, hF.push, hF.ga, hF.gz, hF.sa, hF.sz, QQ_len, hF.len, app_at0, app_at, app_set0, app_set, List.length_append]
              refine PCallK.intro (f14_u hIt hi x) ?_
              obtain ⟨_, hIt'⟩ := do_step hIt hi x
              have Bz : BB (Kf (absQ c.n c.delays q2) ++ some (absQ c.n c.delays (pdo tw x).1).c :: (e ++ [some x.c])) 3 2 p p2 := by
                have := Bx.swap (j := (Kf (absQ c.n c.delays q2)).length) (cs := (absQ c.n c.delays (pdo tw x).1).c) (by simp only [go_sem])
                rwa [app_set0] at this
              simp only [go_sem, Nat.reduceEqDiff, Nat.reduceLT, ↓reduceIte, Nat.reduceAdd, Nat.reduceSub, Nat.reduceMul, Nat.reduceBEq, Nat.reduceLeDiff, Nat.reduceDvd, reduceCtorEq, Int.reduceToNat, Int.reduceLT, Int.reduceLE, Nat.le_refl, Int.le_refl, false_implies, implies_true, frzSlot, List.take_length, List.mem_cons, List.not_mem_nil, or_false, forall_eq_or_imp, forall_eq, List.range_succ, List.range_zero, exists_eq_left', Option.some.injEq, hF.at0, hF.atl, hF.r0, hF.rl, hF.push1, hF.push, hF.ga, hF.gz, hF.sa, hF.sz, QQ_len, hF.len, app_at0, app_at, app_set0, app_set, List.length_append, w64s (show v < 9223372036854775807 by omega)]
              exact ⟨(v + 1, (pdo tw x).1, e ++ [some x.c]), ⟨hvlt, hIt', Bz⟩, by dsimp only; omega, rfl, rfl⟩
            · have k1 : ¬ (v : Int) < ((c.l.drop K).length : Int) := by omega
              simp only [go_sem, Nat.reduceEqDiff, Nat.reduceLT, ↓reduceIte, Nat.reduceAdd, Nat.reduceSub, Nat.reduceMul, Nat.reduceBEq, Nat.reduceLeDiff, Nat.reduceDvd, reduceCtorEq, Int.reduceToNat, Int.reduceLT, Int.reduceLE, Nat.le_refl, Int.le_refl, false_implies, implies_true, frzSlot, List.take_length, List.mem_cons, List.not_mem_nil, or_false, forall_eq_or_imp, forall_eq, List.range_succ, List.range_zero, exists_eq_left', Option.some.injEq, k1, hF.at0, hF.atl, hF.r0, hF.rl, hF.push1, hF.push, hF.ga, hF.gz, hF.sa, hF.sz, QQ_len, hF.len, app_at0, app_at, app_set0, app_set, List.length_append]
              refine PCallK.intro f10_c ?_
              simp only [go_sem, Nat.reduceEqDiff, Nat.reduceLT, ↓reduceIte, Nat.reduceAdd, Nat.reduceSub, Nat.reduceMul, Nat.reduceBEq, Nat.reduceLeDiff, Nat.reduceDvd, reduceCtorEq, Int.reduceToNat, Int.reduceLT, Int.reduceLE, Nat.le_refl, Int.le_refl, false_implies, implies_true, frzSlot, List.take_length, List.mem_cons, List.not_mem_nil, or_false, forall_eq_or_imp, forall_eq, List.range_succ, List.range_zero, exists_eq_left', Option.some.injEq, hF.at0, hF.atl, hF.r0, hF.rl, hF.push1, hF.push, hF.ga, hF.gz, hF.sa, hF.sz, QQ_len, hF.len, app_at0, app_at, app_set0, app_set, List.length_append]
              refine RCallK.intro (f16_s Bv.v2 hIt) ?_
              simp only [go_sem, Nat.reduceEqDiff, Nat.reduceLT, ↓reduceIte, Nat.reduceAdd, Nat.reduceSub, Nat.reduceMul, Nat.reduceBEq, Nat.reduceLeDiff, Nat.reduceDvd, reduceCtorEq, Int.reduceToNat, Int.reduceLT, Int.reduceLE, Nat.le_refl, Int.le_refl, false_implies, implies_true, frzSlot, List.take_length, List.mem_cons, List.not_mem_nil, or_false, forall_eq_or_imp, forall_eq, List.range_succ, List.range_zero, exists_eq_left', Option.some.injEq, hF.at0, hF.atl, hF.r0, hF.rl, hF.push1, hF.push, hF.ga, hF.gz, hF.sa, hF.sz, QQ_len, hF.len, app_at0, app_at, app_set0, app_set, List.length_append]
              refine RCallK.intro (f16_s Bv.v1 hI2) ?_
              simp only [go_sem, Nat.reduceEqDiff, Nat.reduceLT, ↓reduceIte, Nat.reduceAdd, Nat.reduceSub, Nat.reduceMul, Nat.reduceBEq, Nat.reduceLeDiff, Nat.reduceDvd, reduceCtorEq, Int.reduceToNat, Int.reduceLT, Int.reduceLE, Nat.le_refl, Int.le_refl, false_implies, implies_true, frzSlot, List.take_length, List.mem_cons, List.not_mem_nil, or_false, forall_eq_or_imp, forall_eq, List.range_succ, List.range_zero, exists_eq_left', Option.some.injEq, hF.at0, hF.atl, hF.r0, hF.rl, hF.push1, hF.push, hF.ga, hF.gz, hF.sa, hF.sz, QQ_len, hF.len, app_at0, app_at, app_set0, app_set, List.length_append]
      · have hpos' : ¬ (0 : Int) < (c.l.length : Int) := by omega
        obtain ⟨K, hKz⟩ : ∃ K : Nat, K = 0 := ⟨0, rfl⟩
        have hK : K ≤ c.l.length := by omega
        simp only [go_sem, Nat.reduceEqDiff, Nat.reduceLT, ↓reduceIte, Nat.reduceAdd, Nat.reduceSub, Nat.reduceMul, Nat.reduceBEq, Nat.reduceLeDiff, Nat.reduceDvd, reduceCtorEq, Int.reduceToNat, Int.reduceLT, Int.reduceLE, Nat.le_refl, Int.le_refl, false_implies, implies_true, frzSlot, List.take_length, List.mem_cons, List.not_mem_nil, or_false, forall_eq_or_imp, forall_eq, List.range_succ, List.range_zero, exists_eq_left', Option.some.injEq, hpos', q0, ite_self]
        refine ⟨Int.natCast_nonneg _, ?_⟩
        have hTk : (c.l.take K).length = K := by rw [List.length_take]; omega
        refine awp_wh (σ := Nat × QS × Heap) (fun s => [(2, .ptr 0 0), (5, .ptr 3 0), (7, .ptr H1.length 0), (9, .int .i64 (K : Int)), (62, .sl none (l47 (c.l.take K))), (63, .int .i64 (K : Int)), (64, .int .i64 (s.1 : Int))])
          (fun s => QH (H1 ++ some (absQ c.n c.delays s.2.1).c :: s.2.2) 3 2 s.2.1)
          (fun s => s.1 ≤ K ∧ QInv s.1 c.n c.delays s.2.1 ∧ Base (H1 ++ some (absQ c.n c.delays s.2.1).c :: s.2.2) 3 2)
          (fun s => K - s.1) (0, newq c.n c.delays c.length, []) ⟨Nat.zero_le _, s2, B1⟩ (by first | rfl | (rw [hTk]; rfl) | (subst hKz; rfl)) rfl ?_
        rintro ⟨k, q, g⟩ ⟨hk, hI, B⟩
        dsimp only at hk hI B ⊢
        by_cases hlt : k < K
        · obtain ⟨x, hx⟩ : ∃ x, (c.l.take K)[k]? = some x := ⟨_, List.getElem?_eq_getElem (by omega)⟩
          have k0 : (0 : Int) ≤ (k : Int) := by omega
          have k1 : (k : Int) < (K : Int) := by omega
          have hi : k < 3000 := by omega
          have Bx : Base (H1 ++ some (absQ c.n c.delays q).c :: (g ++ [some x.c])) 3 2 := by
            have := B.app (cs := x.c) (by simp only [go_sem])
            simpa using this
          simp only [go_sem, Nat.reduceEqDiff, Nat.reduceLT, ↓reduceIte, Nat.reduceAdd, Nat.reduceSub, Nat.reduceMul, Nat.reduceBEq, Nat.reduceLeDiff, Nat.reduceDvd, reduceCtorEq, Int.reduceToNat, Int.reduceLT, Int.reduceLE, Nat.le_refl, Int.le_refl, false_implies, implies_true, frzSlot, List.take_length, List.mem_cons, List.not_mem_nil, or_false, forall_eq_or_imp, forall_eq, List.range_succ, List.range_zero, exists_eq_left', Option.some.injEq, k0, k1, l47_get hx, B0.push2, QX_len, B0.sa, B0.ga, B0.g0, B0.s0, app_at0, app_at, app_set0, app_set, List.length_append]
          refine ACallK.intro (f13_a Bx q hI.fine x) ?_
          rintro _ _ ⟨rfl, rfl⟩
          simp only [go_sem, Nat.reduceEqDiff, Nat.reduceLT, ↓reduceIte, Nat.reduceAdd, Nat.reduceSub, Nat.reduceMul, Nat.reduceBEq, Nat.reduceLeDiff, Nat.reduceDvd, reduceCtorEq, Int.reduceToNat, Int.reduceLT, Int.reduceLE, Nat.le_refl, Int.le_refl, false_implies, implies_true, frzSlot, List.take_length, List.mem_cons, List.not_mem_nil, or_false, forall_eq_or_imp, forall_eq, List.range_succ, List.range_zero, exists_eq_left', Option.some.injEq, B0.push2, QX_len, B0.sa, B0.ga, B0.g0, B0.s0, app_at0, app_at, app_set0, app_set, List.length_append]
          refine PCallK.intro (f14_u hI hi x) ?_
          obtain ⟨_, hI'⟩ := do_step hI hi x
          simp only [go_sem, Nat.reduceEqDiff, Nat.reduceLT, ↓reduceIte, Nat.reduceAdd, Nat.reduceSub, Nat.reduceMul, Nat.reduceBEq, Nat.reduceLeDiff, Nat.reduceDvd, reduceCtorEq, Int.reduceToNat, Int.reduceLT, Int.reduceLE, Nat.le_refl, Int.le_refl, false_implies, implies_true, frzSlot, List.take_length, List.mem_cons, List.not_mem_nil, or_false, forall_eq_or_imp, forall_eq, List.range_succ, List.range_zero, exists_eq_left', Option.some.injEq, B0.push2, QX_len, B0.sa, B0.ga, B0.g0, B0.s0, app_at0, app_at, app_set0, app_set, List.length_append, w64s (show k < 9223372036854775807 by omega)]
          have Bz : Base (H1 ++ some (absQ c.n c.delays (pdo q x).1).c :: (g ++ [some x.c])) 3 2 := by
            have := Bx.swap1 (j := H1.length) (cs := (absQ c.n c.delays (pdo q x).1).c) (by simp only [go_sem])
            rwa [app_set0] at this
          exact ⟨(k + 1, (pdo q x).1, g ++ [some x.c]), ⟨hlt, hI', Bz⟩, by dsimp only; omega, rfl, rfl⟩
        · have k1 : ¬ (k : Int) < (K : Int) := by omega
          simp only [go_sem, Nat.reduceEqDiff, Nat.reduceLT, ↓reduceIte, Nat.reduceAdd, Nat.reduceSub, Nat.reduceMul, Nat.reduceBEq, Nat.reduceLeDiff, Nat.reduceDvd, reduceCtorEq, Int.reduceToNat, Int.reduceLT, Int.reduceLE, Nat.le_refl, Int.le_refl, false_implies, implies_true, frzSlot, List.take_length, List.mem_cons, List.not_mem_nil, or_false, forall_eq_or_imp, forall_eq, List.range_succ, List.range_zero, exists_eq_left', Option.some.injEq, k1]
          refine ACallK.intro (f23_a B q hI.fine) ?_
          rintro _ _ ⟨rfl, rfl⟩
          have hmk := KF.make hl4 (by have := q00 0 0 []; rwa [QX_geti _ (by decide) (by decide)] at this) B
          have hk100 : k ≤ 100 := by omega
          have hsm := hI.rsmall
          have hal := alike hI
          have hfi := hI.fine
          have hN4 : H1.length = 4 := hl4
          obtain ⟨Kf, hKf⟩ : ∃ Kf : RQ → Heap, Kf = fun r => cbase (H1 ++ some r.c :: g) := ⟨_, rfl⟩
          have hKf0 : cbase (H1 ++ some (absQ c.n c.delays q).c :: g) = Kf (absQ c.n c.delays q) := by rw [hKf]
          rw [← hKf] at hmk
          rw [hKf0, hN4]
          generalize (H1 ++ some (absQ c.n c.delays q).c :: g).length + 2 = p at hmk ⊢
          generalize (H1 ++ some (absQ c.n c.delays q).c :: g).length + 1 = p2 at hmk ⊢
          generalize H1.length + g.length + 4 = N at hmk
          clear hKf0 hKf q0 q00 hl4 B hN4 B1 B0
          have hF := hmk
          simp only [go_sem, Nat.reduceEqDiff, Nat.reduceLT, ↓reduceIte, Nat.reduceAdd, Nat.reduceSub, Nat.reduceMul, Nat.reduceBEq, Nat.reduceLeDiff, Nat.reduceDvd, reduceCtorEq, Int.reduceToNat, Int.reduceLT, Int.reduceLE, Nat.le_refl, Int.le_refl, false_implies, implies_true, frzSlot, List.take_length, List.mem_cons, List.not_mem_nil, or_false, forall_eq_or_imp, forall_eq, List.range_succ, List.range_zero, exists_eq_left', Option.some.injEq, hF.at0, hF.atl, hF.r0, hF.rl, hF.push1, hF.push, hF.ga, hF.gz, hF.sa, hF.sz, QQ_len, hF.len, app_at0, app_at, app_set0, app_set, List.length_append]
          refine RCallK.intro (f16_s (hF.bb _).v2 hI) ?_
          simp only [go_sem, Nat.reduceEqDiff, Nat.reduceLT, ↓reduceIte, Nat.reduceAdd, Nat.reduceSub, Nat.reduceMul, Nat.reduceBEq, Nat.reduceLeDiff, Nat.reduceDvd, reduceCtorEq, Int.reduceToNat, Int.reduceLT, Int.reduceLE, Nat.le_refl, Int.le_refl, false_implies, implies_true, frzSlot, List.take_length, List.mem_cons, List.not_mem_nil, or_false, forall_eq_or_imp, forall_eq, List.range_succ, List.range_zero, exists_eq_left', Option.some.injEq, hF.at0, hF.atl, hF.r0, hF.rl, hF.push1, hF.push, hF.ga, hF.gz, hF.sa, hF.sz, QQ_len, hF.len, app_at0, app_at, app_set0, app_set, List.length_append]
          refine ⟨Int.natCast_nonneg _, Int.ofNat_le.2 hK, ?_⟩
          have Bo : BB (Kf (absQ c.n c.delays q) ++ [some (absQ c.n c.delays q).c]) 3 2 p p2 := (hF.bb _).app (by simp only [go_sem])
          refine awp_wh (σ := Nat × QS × Heap) (fun s => [(2, .ptr 0 0), (5, .ptr 3 0), (7, .ptr 4 0), (9, .int .i64 (K : Int)), (12, .ptr p 0), (13, .ptr N 0), (93, .sl none (l47 (c.l.drop K))), (94, .int .i64 ((c.l.drop K).length : Int)), (95, .int .i64 (s.1 : Int))])
            (fun s => QQ (Kf (absQ c.n c.delays s.2.1) ++ some (absQ c.n c.delays q).c :: s.2.2) 3 2 p p2 s.2.1 q)
            (fun s => s.1 ≤ (c.l.drop K).length ∧ QInv (k + s.1) c.n c.delays s.2.1 ∧ BB (Kf (absQ c.n c.delays s.2.1) ++ some (absQ c.n c.delays q).c :: s.2.2) 3 2 p p2)
            (fun s => (c.l.drop K).length - s.1) (0, q, []) ⟨Nat.zero_le _, hI, Bo⟩ rfl rfl ?_
          rintro ⟨u, q2, f⟩ ⟨hu, hI2, Bu⟩
          dsimp only at hu hI2 Bu ⊢
          have hdl : (c.l.drop K).length = c.l.length - K := List.length_drop
          by_cases hult : u < (c.l.drop K).length
          · obtain ⟨x, hx⟩ : ∃ x, (c.l.drop K)[u]? = some x := ⟨_, List.getElem?_eq_getElem hult⟩
            have k0 : (0 : Int) ≤ (u : Int) := by omega
            have k1 : (u : Int) < ((c.l.drop K).length : Int) := by omega
            have hi : k + u < 3000 := by omega
            have Bx : BB (Kf (absQ c.n c.delays q2) ++ some (absQ c.n c.delays q).c :: (f ++ [some x.c])) 3 2 p p2 := by
              have := Bu.app (cs := x.c) (by simp only [go_sem])
              simpa using this
            simp only [go_sem, Nat.reduceEqDiff, Nat.reduceLT, ↓reduceIte, Nat.reduceAdd, Nat.reduceSub, Nat.reduceMul, Nat.reduceBEq, Nat.reduceLeDiff, Nat.reduceDvd, reduceCtorEq, Int.reduceToNat, Int.reduceLT, Int.reduceLE, Nat.le_refl, Int.le_refl, false_implies, implies_true, frzSlot, List.take_length, List.mem_cons, List.not_mem_nil, or_false, forall_eq_or_imp, forall_eq, List.range_succ, List.range_zero, exists_eq_left', Option.some.injEq, k0, k1, l47_get hx, hF.at0, hF.atl, hF.r0, hF.rl, hF.push1, hF.push, hF.ga, hF.gz, hF.sa, hF.sz, QQ_len, hF.len, app_at0, app_at, app_set0, app_set, List.length_append]
            refine ACallK.intro (f13_q1 Bx hI2.fine x) ?_
            rintro _ _ ⟨rfl, rfl⟩
            simp only [go_sem, Nat.reduceEqDiff, Nat.reduceLT, ↓reduceIte, Nat.reduceAdd, Nat.reduceSub, Nat.reduceMul, Nat.reduceBEq, Nat.reduceLeDiff, Nat.reduceDvd, reduceCtorEq, Int.reduceToNat, Int.reduceLT, Int.reduceLE, Nat.le_refl, Int.le_refl, false_implies, implies_true, frzSlot, List.take_length, List.mem_cons, List.not_mem_nil, or_false, forall_eq_or_imp, forall_eq, List.range_succ, List.range_zero, exists_eq_left', Option.some.injEq, hF.at0, hF.atl, hF.r0, hF.rl, hF.push1, hF.push, hF.ga, hF.gz, hF.sa, hF.sz, QQ_len, hF.len, app_at0, app_at, app_set0, app_set, List.length_append]
            refine PCallK.intro (f14_u hI2 hi x) ?_
            obtain ⟨_, hI2'⟩ := do_step hI2 hi x
            have Bz := hF.bl _ (absQ c.n c.delays (pdo q2 x).1) Bx
            simp only [go_sem, Nat.reduceEqDiff, Nat.reduceLT, ↓reduceIte, Nat.reduceAdd, Nat.reduceSub, Nat.reduceMul, Nat.reduceBEq, Nat.reduceLeDiff, Nat.reduceDvd, reduceCtorEq, Int.reduceToNat, Int.reduceLT, Int.reduceLE, Nat.le_refl, Int.le_refl, false_implies, implies_true, frzSlot, List.take_length, List.mem_cons, List.not_mem_nil, or_false, forall_eq_or_imp, forall_eq, List.range_succ, List.range_zero, exists_eq_left', Option.some.injEq, hF.at0, hF.atl, hF.r0, hF.rl, hF.push1, hF.push, hF.ga, hF.gz, hF.sa, hF.sz, QQ_len, hF.len, app_at0, app_at, app_set0, app_set, List.length_append, w64s (show u < 9223372036854775807 by omega)]
            refine ⟨(u + 1, (pdo q2 x).1, f ++ [some x.c]), ⟨hult, hI2', Bz⟩, by dsimp only; omega, rfl, ?_⟩
            exact hF.sl _ _ Bx
          · have k1 : ¬ (u : Int) < ((c.l.drop K).length : Int) := by omega
            simp only [go_sem, Nat.reduceEqDiff, Nat.reduceLT, ↓reduceIte, Nat.reduceAdd, Nat.reduceSub, Nat.reduceMul, Nat.reduceBEq, Nat.reduceLeDiff, Nat.reduceDvd, reduceCtorEq, Int.reduceToNat, Int.reduceLT, Int.reduceLE, Nat.le_refl, Int.le_refl, false_implies, implies_true, frzSlot, List.take_length, List.mem_cons, List.not_mem_nil, or_false, forall_eq_or_imp, forall_eq, List.range_succ, List.range_zero, exists_eq_left', Option.some.injEq, k1, hF.at0, hF.atl, hF.r0, hF.rl, hF.push1, hF.push, hF.ga, hF.gz, hF.sa, hF.sz, QQ_len, hF.len, app_at0, app_at, app_set0, app_set, List.length_append]
            refine RCallK.intro (f16_s Bu.v2 hI) ?_
            simp only [go_sem, Nat.reduceEqDiff, Nat.reduceLT, ↓reduceIte, Nat.reduceAdd, Nat.reduceSub, Nat.reduceMul, Nat.reduceBEq, Nat.reduceLeDiff, Nat.reduceDvd, reduceCtorEq, Int.reduceToNat, Int.reduceLT, Int.reduceLE, Nat.le_refl, Int.le_refl, false_implies, implies_true, frzSlot, List.take_length, List.mem_cons, List.not_mem_nil, or_false, forall_eq_or_imp, forall_eq, List.range_succ, List.range_zero, exists_eq_left', Option.some.injEq, hF.at0, hF.atl, hF.r0, hF.rl, hF.push1, hF.push, hF.ga, hF.gz, hF.sa, hF.sz, QQ_len, hF.len, app_at0, app_at, app_set0, app_set, List.length_append]
            refine RCallK.intro (f16_s Bu.v1 hI2) ?_
            simp only [go_sem, Nat.reduceEqDiff, Nat.reduceLT, ↓reduceIte, Nat.reduceAdd, Nat.reduceSub, Nat.reduceMul, Nat.reduceBEq, Nat.reduceLeDiff, Nat.reduceDvd, reduceCtorEq, Int.reduceToNat, Int.reduceLT, Int.reduceLE, Nat.le_refl, Int.le_refl, false_implies, implies_true, frzSlot, List.take_length, List.mem_cons, List.not_mem_nil, or_false, forall_eq_or_imp, forall_eq, List.range_succ, List.range_zero, exists_eq_left', Option.some.injEq, hF.at0, hF.atl, hF.r0, hF.rl, hF.push1, hF.push, hF.ga, hF.gz, hF.sa, hF.sz, QQ_len, hF.len, app_at0, app_at, app_set0, app_set, List.length_append]
            refine ⟨Int.natCast_nonneg _, Int.ofNat_le.2 hK, ?_⟩
            refine awp_wh (σ := Nat × QS × Heap) (fun s => [(2, .ptr 0 0), (5, .ptr 3 0), (7, .ptr 4 0), (12, .ptr p 0), (13, .ptr N 0), (124, .int .i64 ((c.l.drop K).length : Int)), (125, .int .i64 (s.1 : Int))])
              (fun s => QQ (Kf (absQ c.n c.delays q2) ++ some (absQ c.n c.delays s.2.1).c :: s.2.2) 3 2 p p2 q2 s.2.1)
              (fun s => s.1 ≤ (c.l.drop K).length ∧ QInv (k + s.1) c.n c.delays s.2.1 ∧ BB (Kf (absQ c.n c.delays q2) ++ some (absQ c.n c.delays s.2.1).c :: s.2.2) 3 2 p p2)
              (fun s => (c.l.drop K).length - s.1) (0, q, f) ⟨Nat.zero_le _, hI, Bu⟩ rfl rfl ?_
            rintro ⟨v, tw, e⟩ ⟨hv, hIt, Bv⟩
            dsimp only at hv hIt Bv ⊢
            by_cases hvlt : v < (c.l.drop K).length
            · obtain ⟨x, hx⟩ : ∃ x, c.l[c.l.length - 1 - v]? = some x := ⟨_, List.getElem?_eq_getElem (by omega)⟩
              have k1 : (v : Int) < ((c.l.drop K).length : Int) := by omega
              have hi : k + v < 3000 := by omega
              have w1 : IntKind.i64.wrap ((c.l.length : Int) - 1) = (c.l.length : Int) - 1 := w64 (by omega) (by omega)
              have w2 : IntKind.i64.wrap ((c.l.length : Int) - 1 - (v : Int)) = ((c.l.length - 1 - v : Nat) : Int) := by rw [w64 (by omega) (by omega)]; omega
              have k3 : (0 : Int) ≤ ((c.l.length - 1 - v : Nat) : Int) := by omega
              have k4 : ((c.l.length - 1 - v : Nat) : Int) < (c.l.length : Int) := by omega
              have Bx : BB (Kf (absQ c.n c.delays q2) ++ some (absQ c.n c.delays tw).c :: (e ++ [some x.c])) 3 2 p p2 := by
                have := Bv.app (cs := x.c) (by simp only [go_sem])
                simpa using this
              simp only [go_sem, Nat.reduceEqDiff, Nat.reduceLT, ↓reduceIte, Nat.reduceAdd, Nat.reduceSub, Nat.reduceMul, Nat.reduceBEq, Nat.reduceLeDiff, Nat.reduceDvd, reduceCtorEq, Int.reduceToNat, Int.reduceLT, Int.reduceLE, Nat.le_refl, Int.le_refl, false_implies, implies_true, frzSlot, List.take_length, List.mem_cons, List.not_mem_nil, or_false, forall_eq_or_imp, forall_eq, List.range_succ, List.range_zero, exists_eq_left', Option.some.injEq, k1, hF.at0, hF.atl, hF.r0, hF.rl, hF.push1, hF.push, hF.ga, hF.gz, hF.sa, hF.sz, QQ_len, hF.len, app_at0, app_at, app_set0, app_set, List.length_append, w1, w2, k3, k4, l47_get hx]
              refine ACallK.intro (f13_q2 Bx hIt.fine x) ?_
              rintro _ _ ⟨rfl, rfl⟩
              simp only [go_sem, Nat.reduceEqDiff, Nat.reduceLT, ↓reduceIte, Nat.reduceAdd, Nat.reduceSub, Nat.reduceMul, Nat.reduceBEq, Nat.reduceLeDiff, Nat.reduceDvd, reduceCtorEq, Int.reduceToNat, Int.reduceLT, Int.reduceLE, Nat.le_refl, Int.le_refl, false_implies, implies_true, frzSlot, List.take_length, List.mem_cons, List.not_mem_nil, or_false, forall_eq_or_imp, forall_eq, List.range_succ, List.range_zero, exists_eq_left', Option.some.injEq, hF.at0, hF.atl, hF.r0, hF.rl, hF.push1, hF.push, hF.ga, hF.gz, hF.sa, hF.sz, QQ_len, hF.len, app_at0, app_at, app_set0, app_set, List.length_append]
              refine PCallK.intro (f14_u hIt hi x) ?_
              obtain ⟨_, hIt'⟩ := do_step hIt hi x
              have Bz : BB (Kf (absQ c.n c.delays q2) ++ some (absQ c.n c.delays (pdo tw x).1).c :: (e ++ [some x.c])) 3 2 p p2 := by
                have := Bx.swap (j := (Kf (absQ c.n c.delays q2)).length) (cs := (absQ c.n c.delays (pdo tw x).1).c) (by simp only [go_sem])
                rwa [app_set0] at this
              simp only [go_sem, Nat.reduceEqDiff, Nat.reduceLT, ↓reduceIte, Nat.reduceAdd, Nat.reduceSub, Nat.reduceMul, Nat.reduceBEq, Nat.reduceLeDiff, Nat.reduceDvd, reduceCtorEq, Int.reduceToNat, Int.reduceLT, Int.reduceLE, Nat.le_refl, Int.le_refl, false_implies, implies_true, frzSlot, List.take_length, List.mem_cons, List.not_mem_nil, or_false, forall_eq_or_imp, forall_eq, List.range_succ, List.range_zero, exists_eq_left', Option.some.injEq, hF.at0, hF.atl, hF.r0, hF.rl, hF.push1, hF.push, hF.ga, hF.gz, hF.sa, hF.sz, QQ_len, hF.len, app_at0, app_at, app_set0, app_set, List.length_append, w64s (show v < 9223372036854775807 by omega)]
              exact ⟨(v + 1, (pdo tw x).1, e ++ [some x.c]), ⟨hvlt, hIt', Bz⟩, by dsimp only; omega, rfl, rfl⟩
            · have k1 : ¬ (v : Int) < ((c.l.drop K).length : Int) := by omega
              simp only [go_sem, Nat.reduceEqDiff, Nat.reduceLT, ↓reduceIte, Nat.reduceAdd, Nat.reduceSub, Nat.reduceMul, Nat.reduceBEq, Nat.reduceLeDiff, Nat.reduceDvd, reduceCtorEq, Int.reduceToNat, Int.reduceLT, Int.reduceLE, Nat.le_refl, Int.le_refl, false_implies, implies_true, frzSlot, List.take_length, List.mem_cons, List.not_mem_nil, or_false, forall_eq_or_imp, forall_eq, List.range_succ, List.range_zero, exists_eq_left', Option.some.injEq, k1, hF.at0, hF.atl, hF.r0, hF.rl, hF.push1, hF.push, hF.ga, hF.gz, hF.sa, hF.sz, QQ_len, hF.len, app_at0, app_at, app_set0, app_set, List.length_append]
              refine PCallK.intro f10_c ?_
              simp only [go_sem, Nat.reduceEqDiff, Nat.reduceLT, ↓reduceIte, Nat.reduceAdd, Nat.reduceSub, Nat.reduceMul, Nat.reduceBEq, Nat.reduceLeDiff, Nat.reduceDvd, reduceCtorEq, Int.reduceToNat, Int.reduceLT, Int.reduceLE, Nat.le_refl, Int.le_refl, false_implies, implies_true, frzSlot, List.take_length, List.mem_cons, List.not_mem_nil, or_false, forall_eq_or_imp, forall_eq, List.range_succ, List.range_zero, exists_eq_left', Option.some.injEq, hF.at0, hF.atl, hF.r0, hF.rl, hF.push1, hF.push, hF.ga, hF.gz, hF.sa, hF.sz, QQ_len, hF.len, app_at0, app_at, app_set0, app_set, List.length_append]
              refine RCallK.intro (f16_s Bv.v2 hIt) ?_
              simp only [go_sem, Nat.reduceEqDiff, Nat.reduceLT, ↓reduceIte, Nat.reduceAdd, Nat.reduceSub, Nat.reduceMul, Nat.reduceBEq, Nat.reduceLeDiff, Nat.reduceDvd, reduceCtorEq, Int.reduceToNat, Int.reduceLT, Int.reduceLE, Nat.le_refl, Int.le_refl, false_implies, implies_true, frzSlot, List.take_length, List.mem_cons, List.not_mem_nil, or_false, forall_eq_or_imp, forall_eq, List.range_succ, List.range_zero, exists_eq_left', Option.some.injEq, hF.at0, hF.atl, hF.r0, hF.rl, hF.push1, hF.push, hF.ga, hF.gz, hF.sa, hF.sz, QQ_len, hF.len, app_at0, app_at, app_set0, app_set, List.length_append]
              refine RCallK.intro (f16_s Bv.v1 hI2) ?_
              simp only [go_sem, Nat.reduceEqDiff, Nat.reduceLT, ↓reduceIte, Nat.reduceAdd, Nat.reduceSub, Nat.reduceMul, Nat.reduceBEq, Nat.reduceLeDiff, Nat.reduceDvd, reduceCtorEq, Int.reduceToNat, Int.reduceLT, Int.reduceLE, Nat.le_refl, Int.le_refl, false_implies, implies_true, frzSlot, List.take_length, List.mem_cons, List.not_mem_nil, or_false, forall_eq_or_imp, forall_eq, List.range_succ, List.range_zero, exists_eq_left', Option.some.injEq, hF.at0, hF.atl, hF.r0, hF.rl, hF.push1, hF.push, hF.ga, hF.gz, hF.sa, hF.sz, QQ_len, hF.len, app_at0, app_at, app_set0, app_set, List.length_append]
end Go.AI
