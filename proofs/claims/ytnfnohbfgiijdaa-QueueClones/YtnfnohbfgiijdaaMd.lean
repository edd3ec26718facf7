/- New queues; the objects behind them. -/
import Derived.Test.YtnfnohbfgiijdaaQi
set_option linter.unusedSimpArgs false
set_option linter.unusedVariables false
namespace Go.AI
open Go.Proofs
set_option maxRecDepth 20000

section
variable {H0 : Heap} {o o2 : Nat} {n len : Int} {L : List LF} {l : Heap}

theorem Base.ga (B : Base H0 o o2) (j : Nat) : (QX (H0 ++ l) o o2 n len L)[H0.length + j]? = l[j]? := by
  unfold QX
  rw [List.set_append_left _ _ B.h1, List.set_append_left _ _ (by rw [List.length_set]; exact B.h2), List.getElem?_append_right (by simp)]
  simp
theorem Base.g0 (B : Base H0 o o2) : (QX (H0 ++ l) o o2 n len L)[H0.length]? = l[0]? := B.ga 0
theorem Base.sa (B : Base H0 o o2) (j : Nat) (x : Option (List AV)) : (QX (H0 ++ l) o o2 n len L).set (H0.length + j) x = QX (H0 ++ l.set j x) o o2 n len L := by
  unfold QX
  rw [List.set_append_left _ _ B.h1, List.set_append_left _ _ (by rw [List.length_set]; exact B.h2), List.set_append_right _ _ (by simp), List.set_append_left _ _ B.h1, List.set_append_left _ _ (by rw [List.length_set]; exact B.h2)]
  simp
theorem Base.s0 (B : Base H0 o o2) (x : Option (List AV)) : (QX (H0 ++ l) o o2 n len L).set H0.length x = QX (H0 ++ l.set 0 x) o o2 n len L := B.sa 0 x
theorem Base.push2 (B : Base H0 o o2) (x : Option (List AV)) : QX (H0 ++ l) o o2 n len L ++ [x] = QX (H0 ++ (l ++ [x])) o o2 n len L := by
  unfold QX
  rw [List.set_append_left _ _ B.h1, List.set_append_left _ _ (by rw [List.length_set]; exact B.h2), List.set_append_left _ _ B.h1, List.set_append_left _ _ (by rw [List.length_set]; exact B.h2), List.append_assoc]
end

theorem f30_c (d : Int) : PCall Try.prog 30 [.int .i64 d] (.bool (!dfine d)) := by
  refine PCall.of h30 mixed h30_d Try.func30 rfl call30 (by simp [Try.f30]) (by simp [pureL, AV.pure, go_sem]) rfl ?_
  unfold dfine
  by_cases h1 : d < 1
  · have h2 : ¬ 1 ≤ d := by omega
    simp only [Try.f30, go_sem, Nat.reduceEqDiff, Nat.reduceLT, ↓reduceIte, Nat.reduceAdd, Nat.reduceSub, Nat.reduceMul, Nat.reduceBEq, Nat.reduceLeDiff, Nat.reduceDvd, reduceCtorEq, Int.reduceToNat, Int.reduceLT, Int.reduceLE, Nat.le_refl, Int.le_refl, false_implies, implies_true, frzSlot, List.take_length, List.mem_cons, List.not_mem_nil, or_false, forall_eq_or_imp, forall_eq, List.range_succ, List.range_zero, exists_eq_left', Option.some.injEq, h1, h2]
  · have h2 : 1 ≤ d := by omega
    by_cases h3 : 100 < d
    · have h4 : ¬ d ≤ 100 := by omega
      simp only [Try.f30, go_sem, Nat.reduceEqDiff, Nat.reduceLT, ↓reduceIte, Nat.reduceAdd, Nat.reduceSub, Nat.reduceMul, Nat.reduceBEq, Nat.reduceLeDiff, Nat.reduceDvd, reduceCtorEq, Int.reduceToNat, Int.reduceLT, Int.reduceLE, Nat.le_refl, Int.le_refl, false_implies, implies_true, frzSlot, List.take_length, List.mem_cons, List.not_mem_nil, or_false, forall_eq_or_imp, forall_eq, List.range_succ, List.range_zero, exists_eq_left', Option.some.injEq, h1, h2, h3, h4]
    · have h4 : d ≤ 100 := by omega
      simp only [Try.f30, go_sem, Nat.reduceEqDiff, Nat.reduceLT, ↓reduceIte, Nat.reduceAdd, Nat.reduceSub, Nat.reduceMul, Nat.reduceBEq, Nat.reduceLeDiff, Nat.reduceDvd, reduceCtorEq, Int.reduceToNat, Int.reduceLT, Int.reduceLE, Nat.le_refl, Int.le_refl, false_implies, implies_true, frzSlot, List.take_length, List.mem_cons, List.not_mem_nil, or_false, forall_eq_or_imp, forall_eq, List.range_succ, List.range_zero, exists_eq_left', Option.some.injEq, h1, h2, h3, h4]

def pbad (ds : List Int) : Int := match ds.findIdx? fun d => !dfine d with
  | some k => k
  | none => -1

theorem f52_c (ds : List Int) (hn : ds.length ≤ 9223372036854775807) : PCall Try.prog 52 [.sl none (l3 ds), .fn (.func 30) [] []] (.int .i64 (pbad ds)) := by
  refine PCall.of h52 mixed h52_d Try.func52 rfl call52 (by simp [Try.f52]) (by simp [pureL, AV.pure, go_sem]) rfl ?_
  simp only [Try.f52, go_sem, Nat.reduceEqDiff, Nat.reduceLT, ↓reduceIte, Nat.reduceAdd, Nat.reduceSub, Nat.reduceMul, Nat.reduceBEq, Nat.reduceLeDiff, Nat.reduceDvd, reduceCtorEq, Int.reduceToNat, Int.reduceLT, Int.reduceLE, Nat.le_refl, Int.le_refl, false_implies, implies_true, frzSlot, List.take_length, List.mem_cons, List.not_mem_nil, or_false, forall_eq_or_imp, forall_eq, List.range_succ, List.range_zero, exists_eq_left', Option.some.injEq]
  refine awp_wh (σ := Nat) (fun k => [(0, .sl none (l3 ds)), (1, .fn (.func 30) [] []), (7, .int .i64 (ds.length : Int)), (8, .int .i64 (k : Int))]) (fun _ => []) (fun k => k ≤ ds.length ∧ ∀ x ∈ ds.take k, dfine x = true) (fun k => ds.length - k) 0 ⟨Nat.zero_le _, by simp⟩ rfl rfl ?_
  intro k ⟨hk, ht⟩
  by_cases hlt : k < ds.length
  · obtain ⟨x, hx⟩ : ∃ x, ds[k]? = some x := ⟨_, List.getElem?_eq_getElem hlt⟩
    have h0 : (0 : Int) ≤ (k : Int) := by omega
    have h1 : (k : Int) < (ds.length : Int) := by omega
    simp only [go_sem, Nat.reduceEqDiff, Nat.reduceLT, ↓reduceIte, Nat.reduceAdd, Nat.reduceSub, Nat.reduceMul, Nat.reduceBEq, Nat.reduceLeDiff, Nat.reduceDvd, reduceCtorEq, Int.reduceToNat, Int.reduceLT, Int.reduceLE, Nat.le_refl, Int.le_refl, false_implies, implies_true, frzSlot, List.take_length, List.mem_cons, List.not_mem_nil, or_false, forall_eq_or_imp, forall_eq, List.range_succ, List.range_zero, exists_eq_left', Option.some.injEq, h0, h1, l3_get hx]
    refine PCallK.intro (f30_c x) ?_
    cases hp : dfine x
    · have hi : pbad ds = k := by
        have : ds.findIdx? (fun d => !dfine d) = some k := by
          rw [List.findIdx?_eq_some_iff_getElem]
          obtain ⟨h3, h4⟩ := List.getElem?_eq_some_iff.1 hx
          refine ⟨h3, by rw [h4, hp]; rfl, fun j hj => ?_⟩
          have := ht (ds[j]'(by omega)) (List.mem_take_iff_getElem.2 ⟨j, by omega, rfl⟩)
          simpa using this
        unfold pbad; rw [this]
      simp only [go_sem, Nat.reduceEqDiff, Nat.reduceLT, ↓reduceIte, Nat.reduceAdd, Nat.reduceSub, Nat.reduceMul, Nat.reduceBEq, Nat.reduceLeDiff, Nat.reduceDvd, reduceCtorEq, Int.reduceToNat, Int.reduceLT, Int.reduceLE, Nat.le_refl, Int.le_refl, false_implies, implies_true, frzSlot, List.take_length, List.mem_cons, List.not_mem_nil, or_false, forall_eq_or_imp, forall_eq, List.range_succ, List.range_zero, exists_eq_left', Option.some.injEq, hi]
    · simp only [go_sem, Nat.reduceEqDiff, Nat.reduceLT, ↓reduceIte, Nat.reduceAdd, Nat.reduceSub, Nat.reduceMul, Nat.reduceBEq, Nat.reduceLeDiff, Nat.reduceDvd, reduceCtorEq, Int.reduceToNat, Int.reduceLT, Int.reduceLE, Nat.le_refl, Int.le_refl, false_implies, implies_true, frzSlot, List.take_length, List.mem_cons, List.not_mem_nil, or_false, forall_eq_or_imp, forall_eq, List.range_succ, List.range_zero, exists_eq_left', Option.some.injEq, w64s (show k < 9223372036854775807 by omega)]
      refine ⟨k + 1, ⟨by omega, fun y hy => ?_⟩, by omega, rfl, rfl⟩
      rw [take_snoc hx] at hy
      rcases List.mem_append.1 hy with h | h
      · exact ht y h
      · rw [List.mem_singleton.1 h]; exact hp
  · have h1 : ¬ (k : Int) < (ds.length : Int) := by omega
    have hi : pbad ds = -1 := by
      have : ds.findIdx? (fun d => !dfine d) = none := by
        rw [List.findIdx?_eq_none_iff]
        rw [List.take_of_length_le (by omega)] at ht
        exact fun x hx => by simpa using ht x hx
      unfold pbad; rw [this]
    simp only [go_sem, Nat.reduceEqDiff, Nat.reduceLT, ↓reduceIte, Nat.reduceAdd, Nat.reduceSub, Nat.reduceMul, Nat.reduceBEq, Nat.reduceLeDiff, Nat.reduceDvd, reduceCtorEq, Int.reduceToNat, Int.reduceLT, Int.reduceLE, Nat.le_refl, Int.le_refl, false_implies, implies_true, frzSlot, List.take_length, List.mem_cons, List.not_mem_nil, or_false, forall_eq_or_imp, forall_eq, List.range_succ, List.range_zero, exists_eq_left', Option.some.injEq, h1, hi]

theorem pbad_all (ds : List Int) : decide (0 ≤ pbad ds) = !ds.all dfine := by
  unfold pbad
  cases h : ds.findIdx? fun d => !dfine d with
  | none =>
    rw [List.findIdx?_eq_none_iff] at h
    have : ds.all dfine = true := by
      rw [List.all_eq_true]
      intro x hx
      simpa using h x hx
    rw [this]; rfl
  | some k =>
    rw [List.findIdx?_eq_some_iff_getElem] at h
    obtain ⟨h3, h4, _⟩ := h
    have : ds.all dfine = false := by
      rw [List.all_eq_false]
      exact ⟨_, List.getElem_mem h3, by simpa using h4⟩
    rw [this]; simp

theorem f31_c (ds : List Int) (hn : ds.length ≤ 9223372036854775807) : PCall Try.prog 31 [.sl none (l3 ds), .fn (.func 30) [] []] (.bool (!ds.all dfine)) := by
  refine PCall.of h31 mixed h31_d Try.func31 rfl call31 (by simp [Try.f31]) (by simp [pureL, AV.pure, go_sem]) rfl ?_
  simp only [Try.f31, go_sem, Nat.reduceEqDiff, Nat.reduceLT, ↓reduceIte, Nat.reduceAdd, Nat.reduceSub, Nat.reduceMul, Nat.reduceBEq, Nat.reduceLeDiff, Nat.reduceDvd, reduceCtorEq, Int.reduceToNat, Int.reduceLT, Int.reduceLE, Nat.le_refl, Int.le_refl, false_implies, implies_true, frzSlot, List.take_length, List.mem_cons, List.not_mem_nil, or_false, forall_eq_or_imp, forall_eq, List.range_succ, List.range_zero, exists_eq_left', Option.some.injEq]
  refine PCallK.intro (f52_c ds hn) ?_
  simp only [go_sem, Nat.reduceEqDiff, Nat.reduceLT, ↓reduceIte, Nat.reduceAdd, Nat.reduceSub, Nat.reduceMul, Nat.reduceBEq, Nat.reduceLeDiff, Nat.reduceDvd, reduceCtorEq, Int.reduceToNat, Int.reduceLT, Int.reduceLE, Nat.le_refl, Int.le_refl, false_implies, implies_true, frzSlot, List.take_length, List.mem_cons, List.not_mem_nil, or_false, forall_eq_or_imp, forall_eq, List.range_succ, List.range_zero, exists_eq_left', Option.some.injEq, pbad_all]

def pline (l : Link) (d : Int) : Ln := { Ln.z with capacity := l.capacity, delay := d }
def plines (n : Network) (ds : List Int) : List Ln := List.zipWith pline n.links ds

/-- The base of new queues in a heap H. -/
def nbase (H : Heap) (n : Network) : Heap := H ++ [some n.c, some [], some []]

theorem nbase_ok {H : Heap} (hc : closedH H) (n : Network) : Base (nbase H n) (H.length + 2) (H.length + 1) where
  h1 := by simp [nbase]
  h2 := by simp [nbase]
  ne := by omega
  cl := by
    have h1 : closedH (H ++ [some n.c]) := hc.app (by simp only [go_sem])
    have h2 : closedH (H ++ [some n.c] ++ [some []]) := h1.app rfl
    have h3 : closedH (H ++ [some n.c] ++ [some []] ++ [some []]) := h2.app rfl
    simpa [nbase] using h3

theorem QX_new (H : Heap) (n : Network) (a len : Int) (L : List LF) : QX (nbase H n) (H.length + 2) (H.length + 1) a len L = H ++ [some n.c, some (L.flatMap lf), some [.int .i64 a, .int .i64 len, .msl (H.length + 1) 0 L.length 10]] := by
  unfold QX nbase
  rw [List.set_append_right _ _ (by omega), List.set_append_right _ _ (by omega)]
  simp

theorem f11_bad {H : Heap} (hc : closedH H) (n : Network) (ds : List Int) (len : Int) (hf : rfine n ds len = false) :
    ACall Try.prog 11 [.agg n.c, .sl none (l3 ds), .int .i64 len] H fun v H' => v = .tup [.nilp, .int .i64 1] ∧ H' = H := by
  refine ACall.clean hc (by simp only [go_sem]) ?_
  refine ACall.fit call11 fun hfit _ => ?_
  have hn : ds.length ≤ 9223372036854775807 := by rw [← l3_len ds]; exact fit_sl (o := none) (es := l3 ds) (by simp) hfit
  refine ACall.of h11 rfl mixed h11_d Try.func11 rfl call11 (by simp [Try.f11]) ?_
  unfold rfine at hf
  cases h1 : (ds.length : Int) == n.links.length
  · have h1' : ((ds.length : Int) != n.links.length) = true := by rw [bne, h1]; rfl
    simp only [Try.f11, go_sem, Nat.reduceEqDiff, Nat.reduceLT, ↓reduceIte, Nat.reduceAdd, Nat.reduceSub, Nat.reduceMul, Nat.reduceBEq, Nat.reduceLeDiff, Nat.reduceDvd, reduceCtorEq, Int.reduceToNat, Int.reduceLT, Int.reduceLE, Nat.le_refl, Int.le_refl, false_implies, implies_true, frzSlot, List.take_length, List.mem_cons, List.not_mem_nil, or_false, forall_eq_or_imp, forall_eq, List.range_succ, List.range_zero, exists_eq_left', Option.some.injEq, h1', List.getElem?_concat_length]
    exact ⟨_, rfl⟩
  · have h1' : ((ds.length : Int) != n.links.length) = false := by rw [bne, h1]; rfl
    simp only [Try.f11, go_sem, Nat.reduceEqDiff, Nat.reduceLT, ↓reduceIte, Nat.reduceAdd, Nat.reduceSub, Nat.reduceMul, Nat.reduceBEq, Nat.reduceLeDiff, Nat.reduceDvd, reduceCtorEq, Int.reduceToNat, Int.reduceLT, Int.reduceLE, Nat.le_refl, Int.le_refl, false_implies, implies_true, frzSlot, List.take_length, List.mem_cons, List.not_mem_nil, or_false, forall_eq_or_imp, forall_eq, List.range_succ, List.range_zero, exists_eq_left', Option.some.injEq, h1', List.getElem?_concat_length]
    refine PCallK.intro (f31_c ds hn) ?_
    cases h2 : ds.all dfine
    · simp only [go_sem, Nat.reduceEqDiff, Nat.reduceLT, ↓reduceIte, Nat.reduceAdd, Nat.reduceSub, Nat.reduceMul, Nat.reduceBEq, Nat.reduceLeDiff, Nat.reduceDvd, reduceCtorEq, Int.reduceToNat, Int.reduceLT, Int.reduceLE, Nat.le_refl, Int.le_refl, false_implies, implies_true, frzSlot, List.take_length, List.mem_cons, List.not_mem_nil, or_false, forall_eq_or_imp, forall_eq, List.range_succ, List.range_zero, exists_eq_left', Option.some.injEq]
      exact ⟨_, rfl⟩
    · by_cases h3 : len < 0
      · simp only [go_sem, Nat.reduceEqDiff, Nat.reduceLT, ↓reduceIte, Nat.reduceAdd, Nat.reduceSub, Nat.reduceMul, Nat.reduceBEq, Nat.reduceLeDiff, Nat.reduceDvd, reduceCtorEq, Int.reduceToNat, Int.reduceLT, Int.reduceLE, Nat.le_refl, Int.le_refl, false_implies, implies_true, frzSlot, List.take_length, List.mem_cons, List.not_mem_nil, or_false, forall_eq_or_imp, forall_eq, List.range_succ, List.range_zero, exists_eq_left', Option.some.injEq, h3]
        exact ⟨_, rfl⟩
      · by_cases h4 : 1000 < len
        · simp only [go_sem, Nat.reduceEqDiff, Nat.reduceLT, ↓reduceIte, Nat.reduceAdd, Nat.reduceSub, Nat.reduceMul, Nat.reduceBEq, Nat.reduceLeDiff, Nat.reduceDvd, reduceCtorEq, Int.reduceToNat, Int.reduceLT, Int.reduceLE, Nat.le_refl, Int.le_refl, false_implies, implies_true, frzSlot, List.take_length, List.mem_cons, List.not_mem_nil, or_false, forall_eq_or_imp, forall_eq, List.range_succ, List.range_zero, exists_eq_left', Option.some.injEq, h3, h4]
          exact ⟨_, rfl⟩
        · have h5 : decide (0 ≤ len) = true := by simp; omega
          have h6 : decide (len ≤ 1000) = true := by simp; omega
          rw [h1, h2, h5, h6] at hf
          cases hf

def newq (n : Network) (ds : List Int) (len : Int) : QS := ⟨0, len, plines n ds⟩

def nl (n : Network) (ds : List Int) (k : Nat) : List Ln := (plines n ds).take k ++ List.replicate (ds.length - k) Ln.z

theorem app_at {α : Type} (l r : List α) (j : Nat) : (l ++ r)[l.length + j]? = r[j]? := by rw [List.getElem?_append_right (by omega)]; simp
theorem app_at0 {α : Type} (l r : List α) : (l ++ r)[l.length]? = r[0]? := app_at l r 0

theorem plines_len {n : Network} {ds : List Int} (h : ds.length = n.links.length) : (plines n ds).length = ds.length := by simp [plines]; omega
theorem nl_len {n : Network} {ds : List Int} {k : Nat} (h : ds.length = n.links.length) (hk : k ≤ ds.length) : (nl n ds k).length = ds.length := by
  simp [nl, plines_len h]; omega
theorem nl_at {n : Network} {ds : List Int} {k : Nat} (h : ds.length = n.links.length) (hk : k < ds.length) : (nl n ds k)[k]? = some Ln.z := by
  unfold nl
  have : (plines n ds).length = ds.length := plines_len h
  rw [List.getElem?_append_right (by simp; omega)]
  rw [List.length_take, this, Nat.min_eq_left (Nat.le_of_lt hk), Nat.sub_self, List.getElem?_replicate, if_pos (by omega)]
theorem nl_succ {n : Network} {ds : List Int} {k : Nat} {l : Link} {d : Int} (h : ds.length = n.links.length) (hl : n.links[k]? = some l) (hd : ds[k]? = some d) : (nl n ds k).set k (pline l d) = nl n ds (k + 1) := by
  have hk := (List.getElem?_eq_some_iff.1 hd).1
  have h1 : (plines n ds)[k]? = some (pline l d) := by
    unfold plines
    rw [List.getElem?_zipWith, hl, hd]
  have h2 : (plines n ds).length = ds.length := plines_len h
  unfold nl
  rw [List.set_append_right _ _ (by simp; omega), take_snoc h1, List.append_assoc]
  congr 1
  have h3 : ds.length - k = (ds.length - (k + 1)) + 1 := by omega
  rw [h3, List.replicate_succ]
  simp [List.length_take, h2, Nat.min_eq_left (Nat.le_of_lt hk)]

theorem QX_n (H : Heap) (n : Network) (a len : Int) (L : List LF) : (QX (nbase H n) (H.length + 2) (H.length + 1) a len L)[H.length]? = some (some n.c) := by
  rw [QX_new, app_at0]; rfl

theorem f11_good {H : Heap} (hc : closedH H) (n : Network) (ds : List Int) (len : Int) (hf : rfine n ds len = true) (hs : ds.length ≤ 1000000) :
    ACall Try.prog 11 [.agg n.c, .sl none (l3 ds), .int .i64 len] H fun v H' => v = .tup [.ptr (H.length + 2) 0, .int .i64 0] ∧ H' = QH (nbase H n) (H.length + 2) (H.length + 1) (newq n ds len) := by
  refine ACall.of h11 rfl mixed h11_d Try.func11 rfl call11 (by simp [Try.f11]) ?_
  unfold rfine at hf
  simp only [Bool.and_eq_true, decide_eq_true_eq] at hf
  obtain ⟨h2, ⟨h1, h5⟩, h6⟩ := hf
  have h1e : ds.length = n.links.length := by have := beq_iff_eq.1 h1; omega
  have h1' : ((ds.length : Int) != n.links.length) = false := by rw [bne, h1]; rfl
  have h3 : ¬ len < 0 := by omega
  have h4 : ¬ 1000 < len := by omega
  simp only [Try.f11, go_sem, Nat.reduceEqDiff, Nat.reduceLT, ↓reduceIte, Nat.reduceAdd, Nat.reduceSub, Nat.reduceMul, Nat.reduceBEq, Nat.reduceLeDiff, Nat.reduceDvd, reduceCtorEq, Int.reduceToNat, Int.reduceLT, Int.reduceLE, Nat.le_refl, Int.le_refl, false_implies, implies_true, frzSlot, List.take_length, List.mem_cons, List.not_mem_nil, or_false, forall_eq_or_imp, forall_eq, List.range_succ, List.range_zero, exists_eq_left', Option.some.injEq, h1', List.getElem?_concat_length]
  refine PCallK.intro (f31_c ds (by omega)) ?_
  have B := nbase_ok hc n
  simp only [go_sem, Nat.reduceEqDiff, Nat.reduceLT, ↓reduceIte, Nat.reduceAdd, Nat.reduceSub, Nat.reduceMul, Nat.reduceBEq, Nat.reduceLeDiff, Nat.reduceDvd, reduceCtorEq, Int.reduceToNat, Int.reduceLT, Int.reduceLE, Nat.le_refl, Int.le_refl, false_implies, implies_true, frzSlot, List.take_length, List.mem_cons, List.not_mem_nil, or_false, forall_eq_or_imp, forall_eq, List.range_succ, List.range_zero, exists_eq_left', Option.some.injEq, h2, h3, h4, List.length_append, app_at, app_at0]
  refine ⟨by omega, by omega, by omega, ?_⟩
  refine awp_for ds.length (fun k => [(1, .sl none (l3 ds)), (3, .ptr H.length 0), (9, .ptr (H.length + 2) 0), (40, .int .i64 (ds.length : Int)), (41, .int .i64 (k : Int))]) (fun k => QX (nbase H n) (H.length + 2) (H.length + 1) 0 len ((nl n ds k).map ow)) rfl (by
    rw [QX_new, ow_len, nl_len h1e (Nat.zero_le _), ow_flat]
    simp [nl, List.flatMap, List.map_replicate]) ?_
  intro k hk
  have hnl := nl_len h1e hk
  by_cases hlt : k < ds.length
  · obtain ⟨d, hd⟩ : ∃ d, ds[k]? = some d := ⟨_, List.getElem?_eq_getElem hlt⟩
    obtain ⟨l, hl⟩ : ∃ l, n.links[k]? = some l := ⟨_, List.getElem?_eq_getElem (by omega)⟩
    have k0 : (0 : Int) ≤ (k : Int) := by omega
    have k1 : (k : Int) < (ds.length : Int) := by omega
    have hz := nl_at h1e hlt
    simp only [go_sem, Nat.reduceEqDiff, Nat.reduceLT, ↓reduceIte, Nat.reduceAdd, Nat.reduceSub, Nat.reduceMul, Nat.reduceBEq, Nat.reduceLeDiff, Nat.reduceDvd, reduceCtorEq, Int.reduceToNat, Int.reduceLT, Int.reduceLE, Nat.le_refl, Int.le_refl, false_implies, implies_true, frzSlot, List.take_length, List.mem_cons, List.not_mem_nil, or_false, forall_eq_or_imp, forall_eq, List.range_succ, List.range_zero, exists_eq_left', Option.some.injEq, k0, k1, hnl, B.lines, QX_n, l65_get hl, l3_get hd, hz, B.scap, B.sdel, w64s (lt63 hlt hs)]
    exact ⟨hlt, rfl, by rw [← nl_succ h1e hl hd]; rfl⟩
  · have k1 : ¬ (k : Int) < (ds.length : Int) := by omega
    have hke : k = ds.length := by omega
    have e1 : nl n ds k = plines n ds := by
      unfold nl
      rw [hke, ← plines_len h1e, List.take_length, plines_len h1e]; simp
    simp only [go_sem, Nat.reduceEqDiff, Nat.reduceLT, ↓reduceIte, Nat.reduceAdd, Nat.reduceSub, Nat.reduceMul, Nat.reduceBEq, Nat.reduceLeDiff, Nat.reduceDvd, reduceCtorEq, Int.reduceToNat, Int.reduceLT, Int.reduceLE, Nat.le_refl, Int.le_refl, false_implies, implies_true, frzSlot, List.take_length, List.mem_cons, List.not_mem_nil, or_false, forall_eq_or_imp, forall_eq, List.range_succ, List.range_zero, exists_eq_left', Option.some.injEq, k1, e1]
    rfl
end Go.AI

/- A step done; the two sides compared. -/
namespace Go.AI
open Go.Proofs
set_option maxRecDepth 20000

/-- The same, the result being lent. -/
theorem ACall.cleanB {H0 : Heap} {o o2 : Nat} {f : FuncId} {vs : List AV} {q q' : QS} {v : AV} (B : Base H0 o o2) (hv : v.bnd H0.length = true) (h : ACall Try.prog f vs (QH H0 o o2 q) fun v' H' => v'.borrow = v ∧ ∃ junk, H' = QH H0 o o2 q' ++ junk) : ACall Try.prog f vs (QH H0 o o2 q) fun v' H' => v' = v ∧ H' = QH H0 o o2 q' :=
  ACall.cleanQ B hv ⟨h.1, fun F G w us hc => Calls.mono (h.2 F G w us hc) fun e w' he => by
    obtain ⟨u, rfl, v, H', G', ⟨rfl, hj⟩, h2, h3⟩ := he
    exact ⟨u, rfl, v.borrow, _, G', ⟨rfl, hj⟩, by simpa using h2.lend, h3⟩⟩

def pdo (q : QS) (x : Step) : QS × List Passed × Int :=
  if x.kind = 1 then ((pput q x.link x.packet).1, [], (pput q x.link x.packet).2)
  else if x.kind = 2 then ((ptick q).1, (ptick q).2, 0)
  else if x.kind = 3 ∨ x.kind = 4 then ((pswitch q x.link (x.kind == 4)).1, [], (pswitch q x.link (x.kind == 4)).2)
  else (q, [], 0)

def QS.fine (q : QS) : Prop := q.good ∧ q.lines.length ≤ 1000 ∧ ∀ x ∈ q.lines, 0 ≤ x.capacity ∧ x.capacity ≤ 1048576

theorem f13_a {H0 : Heap} {o o2 : Nat} (B : Base H0 o o2) (q : QS) (hq : q.fine) (x : Step) :
    ACall Try.prog 13 [.ptr o 0, .agg x.c] (QH H0 o o2 q) fun v H' => v = .tup [.sl none (l57 (pdo q x).2.1), .int .i64 (pdo q x).2.2] ∧ H' = QH H0 o o2 (pdo q x).1 := by
  refine ACall.cleanB B (by simp only [go_sem]) ?_
  refine ACall.of h13 rfl mixed h13_d Try.func13 rfl call13 (by simp [Try.f13]) ?_
  unfold pdo
  have B' : Base (H0 ++ [some x.c]) o o2 := B.app (by simp only [go_sem])
  by_cases h1 : x.kind = 1
  · have e1 : (x.kind == 1) = true := by simp [h1]
    rw [if_pos h1]
    simp only [Try.f13, go_sem, Nat.reduceEqDiff, Nat.reduceLT, ↓reduceIte, Nat.reduceAdd, Nat.reduceSub, Nat.reduceMul, Nat.reduceBEq, Nat.reduceLeDiff, Nat.reduceDvd, reduceCtorEq, Int.reduceToNat, Int.reduceLT, Int.reduceLE, Nat.le_refl, Int.le_refl, false_implies, implies_true, frzSlot, List.take_length, List.mem_cons, List.not_mem_nil, or_false, forall_eq_or_imp, forall_eq, List.range_succ, List.range_zero, exists_eq_left', Option.some.injEq, B.push, QX_len, B.g0, e1]
    refine ACallK.intro (f21_a B' q hq.1 x.link x.packet) ?_
    rintro _ _ ⟨rfl, rfl⟩
    simp only [go_sem, Nat.reduceEqDiff, Nat.reduceLT, ↓reduceIte, Nat.reduceAdd, Nat.reduceSub, Nat.reduceMul, Nat.reduceBEq, Nat.reduceLeDiff, Nat.reduceDvd, reduceCtorEq, Int.reduceToNat, Int.reduceLT, Int.reduceLE, Nat.le_refl, Int.le_refl, false_implies, implies_true, frzSlot, List.take_length, List.mem_cons, List.not_mem_nil, or_false, forall_eq_or_imp, forall_eq, List.range_succ, List.range_zero, exists_eq_left', Option.some.injEq]
    exact ⟨_, (B.push _).symm⟩
  · have e1 : (x.kind == 1) = false := by simp [h1]
    rw [if_neg h1]
    by_cases h2 : x.kind = 2
    · have e2 : (x.kind == 2) = true := by simp [h2]
      rw [if_pos h2]
      simp only [Try.f13, go_sem, Nat.reduceEqDiff, Nat.reduceLT, ↓reduceIte, Nat.reduceAdd, Nat.reduceSub, Nat.reduceMul, Nat.reduceBEq, Nat.reduceLeDiff, Nat.reduceDvd, reduceCtorEq, Int.reduceToNat, Int.reduceLT, Int.reduceLE, Nat.le_refl, Int.le_refl, false_implies, implies_true, frzSlot, List.take_length, List.mem_cons, List.not_mem_nil, or_false, forall_eq_or_imp, forall_eq, List.range_succ, List.range_zero, exists_eq_left', Option.some.injEq, B.push, QX_len, B.g0, e1, e2]
      refine ACallK.intro (f22_a B' q hq.1 hq.2.1 hq.2.2) ?_
      rintro _ _ ⟨rfl, rfl⟩
      simp only [go_sem, Nat.reduceEqDiff, Nat.reduceLT, ↓reduceIte, Nat.reduceAdd, Nat.reduceSub, Nat.reduceMul, Nat.reduceBEq, Nat.reduceLeDiff, Nat.reduceDvd, reduceCtorEq, Int.reduceToNat, Int.reduceLT, Int.reduceLE, Nat.le_refl, Int.le_refl, false_implies, implies_true, frzSlot, List.take_length, List.mem_cons, List.not_mem_nil, or_false, forall_eq_or_imp, forall_eq, List.range_succ, List.range_zero, exists_eq_left', Option.some.injEq]
      exact ⟨_, (B.push _).symm⟩
    · have e2 : (x.kind == 2) = false := by simp [h2]
      rw [if_neg h2]
      by_cases h3 : x.kind = 3
      · have e3 : (x.kind == 3) = true := by simp [h3]
        have e4 : (x.kind == 4) = false := by simp [h3]
        rw [if_pos (.inl h3)]
        simp only [Try.f13, go_sem, Nat.reduceEqDiff, Nat.reduceLT, ↓reduceIte, Nat.reduceAdd, Nat.reduceSub, Nat.reduceMul, Nat.reduceBEq, Nat.reduceLeDiff, Nat.reduceDvd, reduceCtorEq, Int.reduceToNat, Int.reduceLT, Int.reduceLE, Nat.le_refl, Int.le_refl, false_implies, implies_true, frzSlot, List.take_length, List.mem_cons, List.not_mem_nil, or_false, forall_eq_or_imp, forall_eq, List.range_succ, List.range_zero, exists_eq_left', Option.some.injEq, B.push, QX_len, B.g0, e1, e2, e3, e4]
        refine ACallK.intro (f28_a B' q hq.1 x.link false) ?_
        rintro _ _ ⟨rfl, rfl⟩
        simp only [go_sem, Nat.reduceEqDiff, Nat.reduceLT, ↓reduceIte, Nat.reduceAdd, Nat.reduceSub, Nat.reduceMul, Nat.reduceBEq, Nat.reduceLeDiff, Nat.reduceDvd, reduceCtorEq, Int.reduceToNat, Int.reduceLT, Int.reduceLE, Nat.le_refl, Int.le_refl, false_implies, implies_true, frzSlot, List.take_length, List.mem_cons, List.not_mem_nil, or_false, forall_eq_or_imp, forall_eq, List.range_succ, List.range_zero, exists_eq_left', Option.some.injEq]
        exact ⟨_, (B.push _).symm⟩
      · have e3 : (x.kind == 3) = false := by simp [h3]
        by_cases h4 : x.kind = 4
        · have e4 : (x.kind == 4) = true := by simp [h4]
          rw [if_pos (.inr h4)]
          simp only [Try.f13, go_sem, Nat.reduceEqDiff, Nat.reduceLT, ↓reduceIte, Nat.reduceAdd, Nat.reduceSub, Nat.reduceMul, Nat.reduceBEq, Nat.reduceLeDiff, Nat.reduceDvd, reduceCtorEq, Int.reduceToNat, Int.reduceLT, Int.reduceLE, Nat.le_refl, Int.le_refl, false_implies, implies_true, frzSlot, List.take_length, List.mem_cons, List.not_mem_nil, or_false, forall_eq_or_imp, forall_eq, List.range_succ, List.range_zero, exists_eq_left', Option.some.injEq, B.push, QX_len, B.g0, e1, e2, e3, e4]
          refine ACallK.intro (f28_a B' q hq.1 x.link true) ?_
          rintro _ _ ⟨rfl, rfl⟩
          simp only [go_sem, Nat.reduceEqDiff, Nat.reduceLT, ↓reduceIte, Nat.reduceAdd, Nat.reduceSub, Nat.reduceMul, Nat.reduceBEq, Nat.reduceLeDiff, Nat.reduceDvd, reduceCtorEq, Int.reduceToNat, Int.reduceLT, Int.reduceLE, Nat.le_refl, Int.le_refl, false_implies, implies_true, frzSlot, List.take_length, List.mem_cons, List.not_mem_nil, or_false, forall_eq_or_imp, forall_eq, List.range_succ, List.range_zero, exists_eq_left', Option.some.injEq]
          exact ⟨_, (B.push _).symm⟩
        · have e4 : (x.kind == 4) = false := by simp [h4]
          rw [if_neg (by simp [h3, h4])]
          simp only [Try.f13, go_sem, Nat.reduceEqDiff, Nat.reduceLT, ↓reduceIte, Nat.reduceAdd, Nat.reduceSub, Nat.reduceMul, Nat.reduceBEq, Nat.reduceLeDiff, Nat.reduceDvd, reduceCtorEq, Int.reduceToNat, Int.reduceLT, Int.reduceLE, Nat.le_refl, Int.le_refl, false_implies, implies_true, frzSlot, List.take_length, List.mem_cons, List.not_mem_nil, or_false, forall_eq_or_imp, forall_eq, List.range_succ, List.range_zero, exists_eq_left', Option.some.injEq, B.push, QX_len, B.g0, e1, e2, e3, e4]
          exact ⟨_, (B.push _).symm⟩
end Go.AI
