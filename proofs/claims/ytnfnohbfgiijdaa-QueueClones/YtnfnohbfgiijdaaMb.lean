/- Contracts of the reference's New, and of what it asks of its arguments. -/
import Derived.Test.YtnfnohbfgiijdaaQc
set_option linter.unusedSimpArgs false
set_option linter.unusedVariables false
namespace Go.AI
open Go.Proofs
set_option maxRecDepth 20000

def dfine (d : Int) : Bool := decide (1 ≤ d) && decide (d ≤ 100)
def rfine (n : Network) (ds : List Int) (len : Int) : Bool := ds.all dfine && (((ds.length : Int) == n.links.length) && decide (0 ≤ len) && decide (len ≤ 1000))

theorem fit_sl {o : Option Nat} {es : List AV} {vs : List AV} (h : (AV.sl o es) ∈ vs) (hf : fitL vs) : es.length ≤ 9223372036854775807 := (fitL_iff.1 hf _ h).1

theorem f32_c (n : Network) (ds : List Int) (len : Int) : PCall Try.prog 32 [.agg n.c, .sl none (l3 ds), .int .i64 len] (.bool (rfine n ds len)) := by
  refine PCall.fit call32 fun hf => ?_
  have hl : ds.length ≤ 9223372036854775807 := by have := fit_sl (o := none) (es := l3 ds) (by simp) hf; rwa [l3_len] at this
  refine PCall.of h32 mixed h32_d Try.func32 rfl call32 (by simp [Try.f32]) (by simp [pureL, AV.pure, go_sem]) rfl ?_
  simp only [Try.f32, go_sem, Nat.reduceEqDiff, Nat.reduceLT, ↓reduceIte, Nat.reduceAdd, Nat.reduceSub, Nat.reduceMul, Nat.reduceBEq, Nat.reduceLeDiff, Nat.reduceDvd, reduceCtorEq, Int.reduceToNat, Int.reduceLT, Int.reduceLE, Nat.le_refl, Int.le_refl, false_implies, implies_true, frzSlot, List.take_length, List.mem_cons, List.not_mem_nil, or_false, forall_eq_or_imp, forall_eq, List.range_succ, List.range_zero, exists_eq_left', Option.some.injEq]
  refine awp_wh (σ := Nat) (fun k => [(1, .sl none (l3 ds)), (2, .int .i64 len), (3, .ptr 0 0), (7, .int .i64 (k : Int))]) (fun _ => [some n.c]) (fun k => k ≤ ds.length ∧ ds.all dfine = (ds.drop k).all dfine) (fun k => ds.length - k) 0 ⟨Nat.zero_le _, rfl⟩ rfl rfl ?_
  intro k ⟨hk, hd⟩
  unfold rfine
  by_cases hlt : k < ds.length
  · obtain ⟨x, hx⟩ : ∃ x, ds[k]? = some x := ⟨_, List.getElem?_eq_getElem hlt⟩
    have h0 : (0 : Int) ≤ (k : Int) := by omega
    have h1 : (k : Int) < (ds.length : Int) := by omega
    rw [drop_at hx, List.all_cons] at hd
    by_cases ha : x < 1
    · have hda : dfine x = false := by simp [dfine]; omega
      simp only [go_sem, Nat.reduceEqDiff, Nat.reduceLT, ↓reduceIte, Nat.reduceAdd, Nat.reduceSub, Nat.reduceMul, Nat.reduceBEq, Nat.reduceLeDiff, Nat.reduceDvd, reduceCtorEq, Int.reduceToNat, Int.reduceLT, Int.reduceLE, Nat.le_refl, Int.le_refl, false_implies, implies_true, frzSlot, List.take_length, List.mem_cons, List.not_mem_nil, or_false, forall_eq_or_imp, forall_eq, List.range_succ, List.range_zero, exists_eq_left', Option.some.injEq, h0, h1, l3_get hx, ha, hd, hda]
    · by_cases hb : 100 < x
      · have hda : dfine x = false := by simp [dfine]; omega
        simp only [go_sem, Nat.reduceEqDiff, Nat.reduceLT, ↓reduceIte, Nat.reduceAdd, Nat.reduceSub, Nat.reduceMul, Nat.reduceBEq, Nat.reduceLeDiff, Nat.reduceDvd, reduceCtorEq, Int.reduceToNat, Int.reduceLT, Int.reduceLE, Nat.le_refl, Int.le_refl, false_implies, implies_true, frzSlot, List.take_length, List.mem_cons, List.not_mem_nil, or_false, forall_eq_or_imp, forall_eq, List.range_succ, List.range_zero, exists_eq_left', Option.some.injEq, h0, h1, l3_get hx, ha, hb, hd, hda]
      · have hda : dfine x = true := by simp [dfine]; omega
        simp only [go_sem, Nat.reduceEqDiff, Nat.reduceLT, ↓reduceIte, Nat.reduceAdd, Nat.reduceSub, Nat.reduceMul, Nat.reduceBEq, Nat.reduceLeDiff, Nat.reduceDvd, reduceCtorEq, Int.reduceToNat, Int.reduceLT, Int.reduceLE, Nat.le_refl, Int.le_refl, false_implies, implies_true, frzSlot, List.take_length, List.mem_cons, List.not_mem_nil, or_false, forall_eq_or_imp, forall_eq, List.range_succ, List.range_zero, exists_eq_left', Option.some.injEq, h0, h1, l3_get hx, ha, hb, w64s (show k < 9223372036854775807 by omega)]
        exact ⟨k + 1, ⟨by omega, by simp [hd, hda]⟩, by omega, rfl, rfl⟩
  · have h1 : ¬ (k : Int) < (ds.length : Int) := by omega
    rw [List.drop_of_length_le (by omega)] at hd
    cases he : (ds.length : Int) == n.links.length
    · simp only [go_sem, Nat.reduceEqDiff, Nat.reduceLT, ↓reduceIte, Nat.reduceAdd, Nat.reduceSub, Nat.reduceMul, Nat.reduceBEq, Nat.reduceLeDiff, Nat.reduceDvd, reduceCtorEq, Int.reduceToNat, Int.reduceLT, Int.reduceLE, Nat.le_refl, Int.le_refl, false_implies, implies_true, frzSlot, List.take_length, List.mem_cons, List.not_mem_nil, or_false, forall_eq_or_imp, forall_eq, List.range_succ, List.range_zero, exists_eq_left', Option.some.injEq, h1, hd, List.all_nil, he]
    · by_cases hlo : 0 ≤ len
      · simp only [go_sem, Nat.reduceEqDiff, Nat.reduceLT, ↓reduceIte, Nat.reduceAdd, Nat.reduceSub, Nat.reduceMul, Nat.reduceBEq, Nat.reduceLeDiff, Nat.reduceDvd, reduceCtorEq, Int.reduceToNat, Int.reduceLT, Int.reduceLE, Nat.le_refl, Int.le_refl, false_implies, implies_true, frzSlot, List.take_length, List.mem_cons, List.not_mem_nil, or_false, forall_eq_or_imp, forall_eq, List.range_succ, List.range_zero, exists_eq_left', Option.some.injEq, h1, hd, List.all_nil, he, hlo]
      · simp only [go_sem, Nat.reduceEqDiff, Nat.reduceLT, ↓reduceIte, Nat.reduceAdd, Nat.reduceSub, Nat.reduceMul, Nat.reduceBEq, Nat.reduceLeDiff, Nat.reduceDvd, reduceCtorEq, Int.reduceToNat, Int.reduceLT, Int.reduceLE, Nat.le_refl, Int.le_refl, false_implies, implies_true, frzSlot, List.take_length, List.mem_cons, List.not_mem_nil, or_false, forall_eq_or_imp, forall_eq, List.range_succ, List.range_zero, exists_eq_left', Option.some.injEq, h1, hd, List.all_nil, he, hlo]

def newLine : RLine := ⟨true, ⟨0, 0, 0, 0, 0⟩, [], []⟩
def noRQ : RQ := ⟨⟨[], [], []⟩, [], 0, 0, []⟩
def rnew (n : Network) (ds : List Int) (len : Int) : RQ × Int :=
  if rfine n ds len = true then (⟨n, ds, len, 0, List.replicate n.links.length newLine⟩, 0) else (noRQ, 1)

theorem l90_new (a : List RLine) : l90 a ++ [.agg [.bool true, .int .i64 0, .int .i64 0, .int .i64 0, .int .i64 0, .int .i64 0, .sl none [], .sl none []]] = l90 (a ++ [newLine]) := by simp [l90]; rfl

theorem f12_c (n : Network) (ds : List Int) (len : Int) (hn : n.links.length ≤ 1000000) : PCall Try.prog 12 [.agg n.c, .sl none (l3 ds), .int .i64 len] (.tup [.agg (rnew n ds len).1.c, .int .i64 (rnew n ds len).2]) := by
  refine PCall.ofB h12 mixed h12_d Try.func12 rfl call12 (by simp [Try.f12]) (by simp [pureL, AV.pure, go_sem]) (by simp [pureL, AV.pure, go_sem]) ?_
  unfold rnew
  cases hh : rfine n ds len
  · simp only [Try.f12, go_sem, Nat.reduceEqDiff, Nat.reduceLT, ↓reduceIte, Nat.reduceAdd, Nat.reduceSub, Nat.reduceMul, Nat.reduceBEq, Nat.reduceLeDiff, Nat.reduceDvd, reduceCtorEq, Int.reduceToNat, Int.reduceLT, Int.reduceLE, Nat.le_refl, Int.le_refl, false_implies, implies_true, frzSlot, List.take_length, List.mem_cons, List.not_mem_nil, or_false, forall_eq_or_imp, forall_eq, List.range_succ, List.range_zero, exists_eq_left', Option.some.injEq]
    refine PCallK.intro (f32_c n ds len) ?_
    simp only [go_sem, Nat.reduceEqDiff, Nat.reduceLT, ↓reduceIte, Nat.reduceAdd, Nat.reduceSub, Nat.reduceMul, Nat.reduceBEq, Nat.reduceLeDiff, Nat.reduceDvd, reduceCtorEq, Int.reduceToNat, Int.reduceLT, Int.reduceLE, Nat.le_refl, Int.le_refl, false_implies, implies_true, frzSlot, List.take_length, List.mem_cons, List.not_mem_nil, or_false, forall_eq_or_imp, forall_eq, List.range_succ, List.range_zero, exists_eq_left', Option.some.injEq, hh]
    rfl
  · simp only [Try.f12, go_sem, Nat.reduceEqDiff, Nat.reduceLT, ↓reduceIte, Nat.reduceAdd, Nat.reduceSub, Nat.reduceMul, Nat.reduceBEq, Nat.reduceLeDiff, Nat.reduceDvd, reduceCtorEq, Int.reduceToNat, Int.reduceLT, Int.reduceLE, Nat.le_refl, Int.le_refl, false_implies, implies_true, frzSlot, List.take_length, List.mem_cons, List.not_mem_nil, or_false, forall_eq_or_imp, forall_eq, List.range_succ, List.range_zero, exists_eq_left', Option.some.injEq]
    refine PCallK.intro (f32_c n ds len) ?_
    simp only [go_sem, Nat.reduceEqDiff, Nat.reduceLT, ↓reduceIte, Nat.reduceAdd, Nat.reduceSub, Nat.reduceMul, Nat.reduceBEq, Nat.reduceLeDiff, Nat.reduceDvd, reduceCtorEq, Int.reduceToNat, Int.reduceLT, Int.reduceLE, Nat.le_refl, Int.le_refl, false_implies, implies_true, frzSlot, List.take_length, List.mem_cons, List.not_mem_nil, or_false, forall_eq_or_imp, forall_eq, List.range_succ, List.range_zero, exists_eq_left', Option.some.injEq, hh, Network.c]
    refine awp_for n.links.length (fun k => [(3, .ptr 0 0), (6, .ptr 1 0), (9, .ptr 2 0), (10, .int .i64 (k : Int))])
      (fun k => [some [.sl none (l111 n.nodes), .sl none (l65 n.links), .sl none (l114 n.edges)], some zeroRQ, some [.sl none (l111 n.nodes), .sl none (l65 n.links), .sl none (l114 n.edges), .sl none (l3 ds), .int .i64 len, .int .i64 0, .sl (some 8) (l90 (List.replicate k newLine))]]) rfl rfl ?_
    intro k hk
    by_cases hlt : k < n.links.length
    · have h1 : (k : Int) < (n.links.length : Int) := by omega
      have g2 : (k + 1) * 96 ≤ 140737488355328 := by omega
      have g3 : k + 1 ≤ 9223372036854775807 := by omega
      simp only [go_sem, Nat.reduceEqDiff, Nat.reduceLT, ↓reduceIte, Nat.reduceAdd, Nat.reduceSub, Nat.reduceMul, Nat.reduceBEq, Nat.reduceLeDiff, Nat.reduceDvd, reduceCtorEq, Int.reduceToNat, Int.reduceLT, Int.reduceLE, Nat.le_refl, Int.le_refl, false_implies, implies_true, frzSlot, List.take_length, List.mem_cons, List.not_mem_nil, or_false, forall_eq_or_imp, forall_eq, List.range_succ, List.range_zero, exists_eq_left', Option.some.injEq, h1, List.length_replicate, g2, g3, l90_new, w64s (show k < 9223372036854775807 by omega)]
      exact ⟨hlt, rfl, by rw [List.replicate_succ']; rfl⟩
    · have h1 : ¬ (k : Int) < (n.links.length : Int) := by omega
      have hke : k = n.links.length := by omega
      subst hke
      simp only [go_sem, Nat.reduceEqDiff, Nat.reduceLT, ↓reduceIte, Nat.reduceAdd, Nat.reduceSub, Nat.reduceMul, Nat.reduceBEq, Nat.reduceLeDiff, Nat.reduceDvd, reduceCtorEq, Int.reduceToNat, Int.reduceLT, Int.reduceLE, Nat.le_refl, Int.le_refl, false_implies, implies_true, frzSlot, List.take_length, List.mem_cons, List.not_mem_nil, or_false, forall_eq_or_imp, forall_eq, List.range_succ, List.range_zero, exists_eq_left', Option.some.injEq, h1]
      rfl
end Go.AI

/- Contracts of the checks: what is right about a case. -/
namespace Go.AI
open Go.Proofs
set_option maxRecDepth 20000

theorem f24_c (n : Network) (a b c : Int) : PCall Try.prog 24 [.agg n.c, .int .i64 a, .int .i64 b, .int .i64 c] (.bool (decide ((n.nodes.length : Int) ≤ a) && (decide ((n.links.length : Int) ≤ b) && decide ((n.edges.length : Int) ≤ c)))) := by
  refine PCall.of h24 mixed h24_d Try.func24 rfl call24 (by simp [Try.f24]) (by simp [pureL, AV.pure, go_sem]) rfl ?_
  by_cases h1 : (n.nodes.length : Int) ≤ a
  · by_cases h2 : (n.links.length : Int) ≤ b
    · simp only [Try.f24, go_sem, Nat.reduceEqDiff, Nat.reduceLT, ↓reduceIte, Nat.reduceAdd, Nat.reduceSub, Nat.reduceMul, Nat.reduceBEq, Nat.reduceLeDiff, Nat.reduceDvd, reduceCtorEq, Int.reduceToNat, Int.reduceLT, Int.reduceLE, Nat.le_refl, Int.le_refl, false_implies, implies_true, frzSlot, List.take_length, List.mem_cons, List.not_mem_nil, or_false, forall_eq_or_imp, forall_eq, List.range_succ, List.range_zero, exists_eq_left', Option.some.injEq, h1, h2]
    · simp only [Try.f24, go_sem, Nat.reduceEqDiff, Nat.reduceLT, ↓reduceIte, Nat.reduceAdd, Nat.reduceSub, Nat.reduceMul, Nat.reduceBEq, Nat.reduceLeDiff, Nat.reduceDvd, reduceCtorEq, Int.reduceToNat, Int.reduceLT, Int.reduceLE, Nat.le_refl, Int.le_refl, false_implies, implies_true, frzSlot, List.take_length, List.mem_cons, List.not_mem_nil, or_false, forall_eq_or_imp, forall_eq, List.range_succ, List.range_zero, exists_eq_left', Option.some.injEq, h1, h2]
  · simp only [Try.f24, go_sem, Nat.reduceEqDiff, Nat.reduceLT, ↓reduceIte, Nat.reduceAdd, Nat.reduceSub, Nat.reduceMul, Nat.reduceBEq, Nat.reduceLeDiff, Nat.reduceDvd, reduceCtorEq, Int.reduceToNat, Int.reduceLT, Int.reduceLE, Nat.le_refl, Int.le_refl, false_implies, implies_true, frzSlot, List.take_length, List.mem_cons, List.not_mem_nil, or_false, forall_eq_or_imp, forall_eq, List.range_succ, List.range_zero, exists_eq_left', Option.some.injEq, h1]

theorem f49_c (n : Network) (k : Int) : PCall Try.prog 49 [.agg n.c, .int .i64 k] (.bool (decide (0 ≤ k) && decide (k < n.nodes.length))) := by
  refine PCall.of h49 mixed h49_d Try.func49 rfl call49 (by simp [Try.f49]) (by simp [pureL, AV.pure, go_sem]) rfl ?_
  by_cases h1 : 0 ≤ k
  · simp only [Try.f49, go_sem, Nat.reduceEqDiff, Nat.reduceLT, ↓reduceIte, Nat.reduceAdd, Nat.reduceSub, Nat.reduceMul, Nat.reduceBEq, Nat.reduceLeDiff, Nat.reduceDvd, reduceCtorEq, Int.reduceToNat, Int.reduceLT, Int.reduceLE, Nat.le_refl, Int.le_refl, false_implies, implies_true, frzSlot, List.take_length, List.mem_cons, List.not_mem_nil, or_false, forall_eq_or_imp, forall_eq, List.range_succ, List.range_zero, exists_eq_left', Option.some.injEq, h1]
  · simp only [Try.f49, go_sem, Nat.reduceEqDiff, Nat.reduceLT, ↓reduceIte, Nat.reduceAdd, Nat.reduceSub, Nat.reduceMul, Nat.reduceBEq, Nat.reduceLeDiff, Nat.reduceDvd, reduceCtorEq, Int.reduceToNat, Int.reduceLT, Int.reduceLE, Nat.le_refl, Int.le_refl, false_implies, implies_true, frzSlot, List.take_length, List.mem_cons, List.not_mem_nil, or_false, forall_eq_or_imp, forall_eq, List.range_succ, List.range_zero, exists_eq_left', Option.some.injEq, h1]

def isBoolV (v : AV) : Prop := ∃ b, v = .bool b

theorem f55_c (s : ByteArray) (hs : s.size ≤ 1000000000000000) : QCall Try.prog 55 [.str s] isBoolV := by
  refine QCall.of h55 mixed h55_d Try.func55 rfl call55 (by simp [Try.f55]) (by simp [pureL, AV.pure, go_sem]) ?_
  simp only [Try.f55, go_sem, Nat.reduceEqDiff, Nat.reduceLT, ↓reduceIte, Nat.reduceAdd, Nat.reduceSub, Nat.reduceMul, Nat.reduceBEq, Nat.reduceLeDiff, Nat.reduceDvd, reduceCtorEq, Int.reduceToNat, Int.reduceLT, Int.reduceLE, Nat.le_refl, Int.le_refl, false_implies, implies_true, frzSlot, List.take_length, List.mem_cons, List.not_mem_nil, or_false, forall_eq_or_imp, forall_eq, List.range_succ, List.range_zero, exists_eq_left', Option.some.injEq]
  refine awp_wh (σ := Nat) (fun k => [(0, .str s), (3, .int .i64 (k : Int))]) (fun _ => []) (fun k => k ≤ s.size) (fun k => s.size - k) 0 (Nat.zero_le _) rfl rfl ?_
  intro k hk
  by_cases hlt : k < s.size
  · have h0 : (0 : Int) ≤ (k : Int) := by omega
    have h1 : (k : Int) < (s.size : Int) := by omega
    have hw := w64s (show k < 9223372036854775807 by omega)
    generalize hc : ((s.data[k]?).getD 0).toNat = c
    by_cases hA : 97 ≤ (c : Int) ∧ (c : Int) ≤ 122
    · obtain ⟨a1, a2⟩ := hA
      have a3 : 48 ≤ (c : Int) := by omega
      have a4 : ¬ (c : Int) ≤ 57 := by omega
      have a5 : ((c : Int) == 95) = false := by simp; omega
      simp only [go_sem, Nat.reduceEqDiff, Nat.reduceLT, ↓reduceIte, Nat.reduceAdd, Nat.reduceSub, Nat.reduceMul, Nat.reduceBEq, Nat.reduceLeDiff, Nat.reduceDvd, reduceCtorEq, Int.reduceToNat, Int.reduceLT, Int.reduceLE, Nat.le_refl, Int.le_refl, false_implies, implies_true, frzSlot, List.take_length, List.mem_cons, List.not_mem_nil, or_false, forall_eq_or_imp, forall_eq, List.range_succ, List.range_zero, exists_eq_left', Option.some.injEq, h0, h1, hc, a1, a2, a3, a4, a5, hw]
      exact ⟨k + 1, by omega, by omega, rfl, rfl⟩
    by_cases hB : 48 ≤ (c : Int) ∧ (c : Int) ≤ 57
    · obtain ⟨a3, a4⟩ := hB
      have a1 : ¬ 97 ≤ (c : Int) := by omega
      cases hk0 : (k : Int) == 0
      · simp only [go_sem, Nat.reduceEqDiff, Nat.reduceLT, ↓reduceIte, Nat.reduceAdd, Nat.reduceSub, Nat.reduceMul, Nat.reduceBEq, Nat.reduceLeDiff, Nat.reduceDvd, reduceCtorEq, Int.reduceToNat, Int.reduceLT, Int.reduceLE, Nat.le_refl, Int.le_refl, false_implies, implies_true, frzSlot, List.take_length, List.mem_cons, List.not_mem_nil, or_false, forall_eq_or_imp, forall_eq, List.range_succ, List.range_zero, exists_eq_left', Option.some.injEq, h0, h1, hc, a1, a3, a4, hw, hk0]
        exact ⟨k + 1, by omega, by omega, rfl, rfl⟩
      · simp only [go_sem, Nat.reduceEqDiff, Nat.reduceLT, ↓reduceIte, Nat.reduceAdd, Nat.reduceSub, Nat.reduceMul, Nat.reduceBEq, Nat.reduceLeDiff, Nat.reduceDvd, reduceCtorEq, Int.reduceToNat, Int.reduceLT, Int.reduceLE, Nat.le_refl, Int.le_refl, false_implies, implies_true, frzSlot, List.take_length, List.mem_cons, List.not_mem_nil, or_false, forall_eq_or_imp, forall_eq, List.range_succ, List.range_zero, exists_eq_left', Option.some.injEq, h0, h1, hc, a1, a3, a4, hw, hk0]
        exact ⟨rfl, _, rfl⟩
    by_cases hC : (c : Int) = 95
    · have a1 : ¬ 97 ≤ (c : Int) := by omega
      have a3 : 48 ≤ (c : Int) := by omega
      have a4 : ¬ (c : Int) ≤ 57 := by omega
      have a5 : ((c : Int) == 95) = true := by simp; omega
      cases hk0 : (k : Int) == 0
      · simp only [go_sem, Nat.reduceEqDiff, Nat.reduceLT, ↓reduceIte, Nat.reduceAdd, Nat.reduceSub, Nat.reduceMul, Nat.reduceBEq, Nat.reduceLeDiff, Nat.reduceDvd, reduceCtorEq, Int.reduceToNat, Int.reduceLT, Int.reduceLE, Nat.le_refl, Int.le_refl, false_implies, implies_true, frzSlot, List.take_length, List.mem_cons, List.not_mem_nil, or_false, forall_eq_or_imp, forall_eq, List.range_succ, List.range_zero, exists_eq_left', Option.some.injEq, h0, h1, hc, a1, a3, a4, a5, hw, hk0]
        exact ⟨k + 1, by omega, by omega, rfl, rfl⟩
      · simp only [go_sem, Nat.reduceEqDiff, Nat.reduceLT, ↓reduceIte, Nat.reduceAdd, Nat.reduceSub, Nat.reduceMul, Nat.reduceBEq, Nat.reduceLeDiff, Nat.reduceDvd, reduceCtorEq, Int.reduceToNat, Int.reduceLT, Int.reduceLE, Nat.le_refl, Int.le_refl, false_implies, implies_true, frzSlot, List.take_length, List.mem_cons, List.not_mem_nil, or_false, forall_eq_or_imp, forall_eq, List.range_succ, List.range_zero, exists_eq_left', Option.some.injEq, h0, h1, hc, a1, a3, a4, a5, hw, hk0]
        exact ⟨rfl, _, rfl⟩
    have a5 : ((c : Int) == 95) = false := by simp; omega
    by_cases a3 : 48 ≤ (c : Int)
    · have a4 : ¬ (c : Int) ≤ 57 := by omega
      by_cases a1 : 97 ≤ (c : Int)
      · have a2 : ¬ (c : Int) ≤ 122 := by omega
        simp only [go_sem, Nat.reduceEqDiff, Nat.reduceLT, ↓reduceIte, Nat.reduceAdd, Nat.reduceSub, Nat.reduceMul, Nat.reduceBEq, Nat.reduceLeDiff, Nat.reduceDvd, reduceCtorEq, Int.reduceToNat, Int.reduceLT, Int.reduceLE, Nat.le_refl, Int.le_refl, false_implies, implies_true, frzSlot, List.take_length, List.mem_cons, List.not_mem_nil, or_false, forall_eq_or_imp, forall_eq, List.range_succ, List.range_zero, exists_eq_left', Option.some.injEq, h0, h1, hc, a1, a2, a3, a4, a5, hw]
        exact ⟨rfl, _, rfl⟩
      · simp only [go_sem, Nat.reduceEqDiff, Nat.reduceLT, ↓reduceIte, Nat.reduceAdd, Nat.reduceSub, Nat.reduceMul, Nat.reduceBEq, Nat.reduceLeDiff, Nat.reduceDvd, reduceCtorEq, Int.reduceToNat, Int.reduceLT, Int.reduceLE, Nat.le_refl, Int.le_refl, false_implies, implies_true, frzSlot, List.take_length, List.mem_cons, List.not_mem_nil, or_false, forall_eq_or_imp, forall_eq, List.range_succ, List.range_zero, exists_eq_left', Option.some.injEq, h0, h1, hc, a1, a3, a4, a5, hw]
        exact ⟨rfl, _, rfl⟩
    · have a1 : ¬ 97 ≤ (c : Int) := by omega
      simp only [go_sem, Nat.reduceEqDiff, Nat.reduceLT, ↓reduceIte, Nat.reduceAdd, Nat.reduceSub, Nat.reduceMul, Nat.reduceBEq, Nat.reduceLeDiff, Nat.reduceDvd, reduceCtorEq, Int.reduceToNat, Int.reduceLT, Int.reduceLE, Nat.le_refl, Int.le_refl, false_implies, implies_true, frzSlot, List.take_length, List.mem_cons, List.not_mem_nil, or_false, forall_eq_or_imp, forall_eq, List.range_succ, List.range_zero, exists_eq_left', Option.some.injEq, h0, h1, hc, a1, a3, a5, hw]
      exact ⟨rfl, _, rfl⟩
  · have h1 : ¬ (k : Int) < (s.size : Int) := by omega
    by_cases h2 : 1 ≤ (s.size : Int)
    · simp only [go_sem, Nat.reduceEqDiff, Nat.reduceLT, ↓reduceIte, Nat.reduceAdd, Nat.reduceSub, Nat.reduceMul, Nat.reduceBEq, Nat.reduceLeDiff, Nat.reduceDvd, reduceCtorEq, Int.reduceToNat, Int.reduceLT, Int.reduceLE, Nat.le_refl, Int.le_refl, false_implies, implies_true, frzSlot, List.take_length, List.mem_cons, List.not_mem_nil, or_false, forall_eq_or_imp, forall_eq, List.range_succ, List.range_zero, exists_eq_left', Option.some.injEq, h1, h2]
      exact ⟨rfl, _, rfl⟩
    · simp only [go_sem, Nat.reduceEqDiff, Nat.reduceLT, ↓reduceIte, Nat.reduceAdd, Nat.reduceSub, Nat.reduceMul, Nat.reduceBEq, Nat.reduceLeDiff, Nat.reduceDvd, reduceCtorEq, Int.reduceToNat, Int.reduceLT, Int.reduceLE, Nat.le_refl, Int.le_refl, false_implies, implies_true, frzSlot, List.take_length, List.mem_cons, List.not_mem_nil, or_false, forall_eq_or_imp, forall_eq, List.range_succ, List.range_zero, exists_eq_left', Option.some.injEq, h1, h2]
      exact ⟨rfl, _, rfl⟩

theorem f48_c (l : List ByteArray) (hl : l.length ≤ 1000000) (hs : ∀ s ∈ l, s.size ≤ 1000000000000000) : QCall Try.prog 48 [.sl none (l9 l)] isBoolV := by
  refine QCall.of h48 mixed h48_d Try.func48 rfl call48 (by simp [Try.f48]) (by simp [pureL, AV.pure, go_sem]) ?_
  simp only [Try.f48, go_sem, Nat.reduceEqDiff, Nat.reduceLT, ↓reduceIte, Nat.reduceAdd, Nat.reduceSub, Nat.reduceMul, Nat.reduceBEq, Nat.reduceLeDiff, Nat.reduceDvd, reduceCtorEq, Int.reduceToNat, Int.reduceLT, Int.reduceLE, Nat.le_refl, Int.le_refl, false_implies, implies_true, frzSlot, List.take_length, List.mem_cons, List.not_mem_nil, or_false, forall_eq_or_imp, forall_eq, List.range_succ, List.range_zero, exists_eq_left', Option.some.injEq]
  refine awp_wh (σ := Nat) (fun i => [(0, .sl none (l9 l)), (3, .int .i64 (i : Int))]) (fun _ => []) (fun i => i ≤ l.length) (fun i => l.length - i) 0 (Nat.zero_le _) rfl rfl ?_
  intro i hi
  by_cases hlt : i < l.length
  · obtain ⟨x, hx⟩ : ∃ x, l[i]? = some x := ⟨_, List.getElem?_eq_getElem hlt⟩
    have h0 : (0 : Int) ≤ (i : Int) := by omega
    have h1 : (i : Int) < (l.length : Int) := by omega
    have hw := w64s (show i < 9223372036854775807 by omega)
    simp only [go_sem, Nat.reduceEqDiff, Nat.reduceLT, ↓reduceIte, Nat.reduceAdd, Nat.reduceSub, Nat.reduceMul, Nat.reduceBEq, Nat.reduceLeDiff, Nat.reduceDvd, reduceCtorEq, Int.reduceToNat, Int.reduceLT, Int.reduceLE, Nat.le_refl, Int.le_refl, false_implies, implies_true, frzSlot, List.take_length, List.mem_cons, List.not_mem_nil, or_false, forall_eq_or_imp, forall_eq, List.range_succ, List.range_zero, exists_eq_left', Option.some.injEq, h0, h1, l9_get hx]
    refine ACallK.prop (f55_c x (hs x (List.mem_of_getElem? hx))) fun v hv => ?_
    obtain ⟨b, rfl⟩ := hv
    cases b
    · simp only [go_sem, Nat.reduceEqDiff, Nat.reduceLT, ↓reduceIte, Nat.reduceAdd, Nat.reduceSub, Nat.reduceMul, Nat.reduceBEq, Nat.reduceLeDiff, Nat.reduceDvd, reduceCtorEq, Int.reduceToNat, Int.reduceLT, Int.reduceLE, Nat.le_refl, Int.le_refl, false_implies, implies_true, frzSlot, List.take_length, List.mem_cons, List.not_mem_nil, or_false, forall_eq_or_imp, forall_eq, List.range_succ, List.range_zero, exists_eq_left', Option.some.injEq]
      exact ⟨rfl, _, rfl⟩
    · simp only [go_sem, Nat.reduceEqDiff, Nat.reduceLT, ↓reduceIte, Nat.reduceAdd, Nat.reduceSub, Nat.reduceMul, Nat.reduceBEq, Nat.reduceLeDiff, Nat.reduceDvd, reduceCtorEq, Int.reduceToNat, Int.reduceLT, Int.reduceLE, Nat.le_refl, Int.le_refl, false_implies, implies_true, frzSlot, List.take_length, List.mem_cons, List.not_mem_nil, or_false, forall_eq_or_imp, forall_eq, List.range_succ, List.range_zero, exists_eq_left', Option.some.injEq]
      refine awp_wh (σ := Nat) (fun k => [(0, .sl none (l9 l)), (3, .int .i64 (i : Int)), (5, .int .i64 (k : Int))]) (fun _ => []) (fun k => k ≤ i) (fun k => i - k) 0 (Nat.zero_le _) rfl rfl ?_
      intro k hk
      by_cases hki : k < i
      · obtain ⟨y, hy⟩ : ∃ y, l[k]? = some y := ⟨_, List.getElem?_eq_getElem (by omega)⟩
        have g0 : (0 : Int) ≤ (k : Int) := by omega
        have g1 : (k : Int) < (i : Int) := by omega
        have gw := w64s (show k < 9223372036854775807 by omega)
        cases hxy : y.toList == x.toList
        · simp only [go_sem, Nat.reduceEqDiff, Nat.reduceLT, ↓reduceIte, Nat.reduceAdd, Nat.reduceSub, Nat.reduceMul, Nat.reduceBEq, Nat.reduceLeDiff, Nat.reduceDvd, reduceCtorEq, Int.reduceToNat, Int.reduceLT, Int.reduceLE, Nat.le_refl, Int.le_refl, false_implies, implies_true, frzSlot, List.take_length, List.mem_cons, List.not_mem_nil, or_false, forall_eq_or_imp, forall_eq, List.range_succ, List.range_zero, exists_eq_left', Option.some.injEq, h0, h1, g0, g1, l9_get hx, l9_get hy, hxy, gw]
          exact ⟨k + 1, by omega, by omega, rfl, rfl⟩
        · simp only [go_sem, Nat.reduceEqDiff, Nat.reduceLT, ↓reduceIte, Nat.reduceAdd, Nat.reduceSub, Nat.reduceMul, Nat.reduceBEq, Nat.reduceLeDiff, Nat.reduceDvd, reduceCtorEq, Int.reduceToNat, Int.reduceLT, Int.reduceLE, Nat.le_refl, Int.le_refl, false_implies, implies_true, frzSlot, List.take_length, List.mem_cons, List.not_mem_nil, or_false, forall_eq_or_imp, forall_eq, List.range_succ, List.range_zero, exists_eq_left', Option.some.injEq, h0, h1, g0, g1, l9_get hx, l9_get hy, hxy, gw]
          exact ⟨rfl, _, rfl⟩
      · have g1 : ¬ (k : Int) < (i : Int) := by omega
        simp only [go_sem, Nat.reduceEqDiff, Nat.reduceLT, ↓reduceIte, Nat.reduceAdd, Nat.reduceSub, Nat.reduceMul, Nat.reduceBEq, Nat.reduceLeDiff, Nat.reduceDvd, reduceCtorEq, Int.reduceToNat, Int.reduceLT, Int.reduceLE, Nat.le_refl, Int.le_refl, false_implies, implies_true, frzSlot, List.take_length, List.mem_cons, List.not_mem_nil, or_false, forall_eq_or_imp, forall_eq, List.range_succ, List.range_zero, exists_eq_left', Option.some.injEq, g1, hw]
        exact ⟨i + 1, by omega, by omega, rfl, rfl⟩
  · have h1 : ¬ (i : Int) < (l.length : Int) := by omega
    simp only [go_sem, Nat.reduceEqDiff, Nat.reduceLT, ↓reduceIte, Nat.reduceAdd, Nat.reduceSub, Nat.reduceMul, Nat.reduceBEq, Nat.reduceLeDiff, Nat.reduceDvd, reduceCtorEq, Int.reduceToNat, Int.reduceLT, Int.reduceLE, Nat.le_refl, Int.le_refl, false_implies, implies_true, frzSlot, List.take_length, List.mem_cons, List.not_mem_nil, or_false, forall_eq_or_imp, forall_eq, List.range_succ, List.range_zero, exists_eq_left', Option.some.injEq, h1]
    exact ⟨rfl, _, rfl⟩

theorem f47_c (n : Network) (h1 : n.nodes.length ≤ 1000000) (h2 : n.edges.length ≤ 1000000) : PCall Try.prog 47 [.agg n.c] (.tup [.sl none (l9 (n.nodes.map (·.name))), .sl none (l9 (n.edges.map (·.name)))]) := by
  refine PCall.ofB h47 mixed h47_d Try.func47 rfl call47 (by simp [Try.f47]) (by simp [pureL, AV.pure, go_sem]) (by simp [pureL, AV.pure, go_sem]) ?_
  simp only [Try.f47, go_sem, Nat.reduceEqDiff, Nat.reduceLT, ↓reduceIte, Nat.reduceAdd, Nat.reduceSub, Nat.reduceMul, Nat.reduceBEq, Nat.reduceLeDiff, Nat.reduceDvd, reduceCtorEq, Int.reduceToNat, Int.reduceLT, Int.reduceLE, Nat.le_refl, Int.le_refl, false_implies, implies_true, frzSlot, List.take_length, List.mem_cons, List.not_mem_nil, or_false, forall_eq_or_imp, forall_eq, List.range_succ, List.range_zero, exists_eq_left', Option.some.injEq]
  refine awp_for n.nodes.length (fun i => [(1, .ptr 0 0), (4, .sl (some 1) (l9 ((n.nodes.take i).map (·.name)))), (5, .sl (some 1) []), (6, .int .i64 (i : Int))]) (fun _ => [some n.c]) rfl rfl ?_
  intro i hi
  by_cases hlt : i < n.nodes.length
  · obtain ⟨x, hx⟩ : ∃ x, n.nodes[i]? = some x := ⟨_, List.getElem?_eq_getElem hlt⟩
    have g0 : (0 : Int) ≤ (i : Int) := by omega
    have g1 : (i : Int) < (n.nodes.length : Int) := by omega
    have e1 : (min i n.nodes.length + 1) * 16 ≤ 140737488355328 := by omega
    have e2 : min i n.nodes.length + 1 ≤ 9223372036854775807 := by omega
    simp only [go_sem, Nat.reduceEqDiff, Nat.reduceLT, ↓reduceIte, Nat.reduceAdd, Nat.reduceSub, Nat.reduceMul, Nat.reduceBEq, Nat.reduceLeDiff, Nat.reduceDvd, reduceCtorEq, Int.reduceToNat, Int.reduceLT, Int.reduceLE, Nat.le_refl, Int.le_refl, false_implies, implies_true, frzSlot, List.take_length, List.mem_cons, List.not_mem_nil, or_false, forall_eq_or_imp, forall_eq, List.range_succ, List.range_zero, exists_eq_left', Option.some.injEq, g0, g1, l111_get hx, List.length_map, List.length_take, e1, e2, w64s (show i < 9223372036854775807 by omega)]
    exact ⟨hlt, by simp only [take_snoc hx, List.map_append]; rfl, rfl⟩
  · have g1 : ¬ (i : Int) < (n.nodes.length : Int) := by omega
    have e3 : n.nodes.take i = n.nodes := List.take_of_length_le (by omega)
    simp only [go_sem, Nat.reduceEqDiff, Nat.reduceLT, ↓reduceIte, Nat.reduceAdd, Nat.reduceSub, Nat.reduceMul, Nat.reduceBEq, Nat.reduceLeDiff, Nat.reduceDvd, reduceCtorEq, Int.reduceToNat, Int.reduceLT, Int.reduceLE, Nat.le_refl, Int.le_refl, false_implies, implies_true, frzSlot, List.take_length, List.mem_cons, List.not_mem_nil, or_false, forall_eq_or_imp, forall_eq, List.range_succ, List.range_zero, exists_eq_left', Option.some.injEq, g1, e3]
    clear hi hlt g1 e3
    refine awp_for n.edges.length (fun i => [(1, .ptr 0 0), (4, .sl (some 1) (l9 (n.nodes.map (·.name)))), (5, .sl (some 1) (l9 ((n.edges.take i).map (·.name)))), (7, .int .i64 (i : Int))]) (fun _ => [some n.c]) rfl rfl ?_
    intro i hi
    by_cases hlt : i < n.edges.length
    · obtain ⟨x, hx⟩ : ∃ x, n.edges[i]? = some x := ⟨_, List.getElem?_eq_getElem hlt⟩
      have g0 : (0 : Int) ≤ (i : Int) := by omega
      have g1 : (i : Int) < (n.edges.length : Int) := by omega
      have e1 : (min i n.edges.length + 1) * 16 ≤ 140737488355328 := by omega
      have e2 : min i n.edges.length + 1 ≤ 9223372036854775807 := by omega
      simp only [go_sem, Nat.reduceEqDiff, Nat.reduceLT, ↓reduceIte, Nat.reduceAdd, Nat.reduceSub, Nat.reduceMul, Nat.reduceBEq, Nat.reduceLeDiff, Nat.reduceDvd, reduceCtorEq, Int.reduceToNat, Int.reduceLT, Int.reduceLE, Nat.le_refl, Int.le_refl, false_implies, implies_true, frzSlot, List.take_length, List.mem_cons, List.not_mem_nil, or_false, forall_eq_or_imp, forall_eq, List.range_succ, List.range_zero, exists_eq_left', Option.some.injEq, g0, g1, l114_get hx, List.length_map, List.length_take, e1, e2, w64s (show i < 9223372036854775807 by omega)]
      exact ⟨hlt, by simp only [take_snoc hx, List.map_append]; rfl, rfl⟩
    · have g1 : ¬ (i : Int) < (n.edges.length : Int) := by omega
      have e3 : n.edges.take i = n.edges := List.take_of_length_le (by omega)
      simp only [go_sem, Nat.reduceEqDiff, Nat.reduceLT, ↓reduceIte, Nat.reduceAdd, Nat.reduceSub, Nat.reduceMul, Nat.reduceBEq, Nat.reduceLeDiff, Nat.reduceDvd, reduceCtorEq, Int.reduceToNat, Int.reduceLT, Int.reduceLE, Nat.le_refl, Int.le_refl, false_implies, implies_true, frzSlot, List.take_length, List.mem_cons, List.not_mem_nil, or_false, forall_eq_or_imp, forall_eq, List.range_succ, List.range_zero, exists_eq_left', Option.some.injEq, g1, e3]

def capOk (x : Link) : Prop := 0 ≤ x.capacity ∧ x.capacity ≤ 1048576

def Network.small (n : Network) : Prop := (∀ x ∈ n.nodes, x.name.size ≤ 1000000000000000) ∧ ∀ x ∈ n.edges, x.name.size ≤ 1000000000000000

def checked (n : Network) (v : AV) : Prop := ∃ e : Int, v = .int .i64 e ∧ (e = 0 → ∀ x ∈ n.links, capOk x)

theorem checked_no (n : Network) (e : Int) (h : e ≠ 0) : checked n (.int .i64 e) := ⟨e, rfl, fun h' => absurd h' h⟩

set_option maxHeartbeats 1000000 in
theorem f25_c (n : Network) (hn : n.small) : QCall Try.prog 25 [.agg n.c] (checked n) := by
  refine QCall.of h25 mixed h25_d Try.func25 rfl call25 (by simp [Try.f25]) (by simp [pureL, AV.pure, go_sem]) ?_
  by_cases h1 : 200 < (n.nodes.length : Int)
  · simp only [Try.f25, go_sem, Nat.reduceEqDiff, Nat.reduceLT, ↓reduceIte, Nat.reduceAdd, Nat.reduceSub, Nat.reduceMul, Nat.reduceBEq, Nat.reduceLeDiff, Nat.reduceDvd, reduceCtorEq, Int.reduceToNat, Int.reduceLT, Int.reduceLE, Nat.le_refl, Int.le_refl, false_implies, implies_true, frzSlot, List.take_length, List.mem_cons, List.not_mem_nil, or_false, forall_eq_or_imp, forall_eq, List.range_succ, List.range_zero, exists_eq_left', Option.some.injEq, h1]
    exact ⟨rfl, checked_no _ _ (by decide)⟩
  by_cases h2 : 2000 < (n.links.length : Int)
  · simp only [Try.f25, go_sem, Nat.reduceEqDiff, Nat.reduceLT, ↓reduceIte, Nat.reduceAdd, Nat.reduceSub, Nat.reduceMul, Nat.reduceBEq, Nat.reduceLeDiff, Nat.reduceDvd, reduceCtorEq, Int.reduceToNat, Int.reduceLT, Int.reduceLE, Nat.le_refl, Int.le_refl, false_implies, implies_true, frzSlot, List.take_length, List.mem_cons, List.not_mem_nil, or_false, forall_eq_or_imp, forall_eq, List.range_succ, List.range_zero, exists_eq_left', Option.some.injEq, h1, h2]
    exact ⟨rfl, checked_no _ _ (by decide)⟩
  by_cases h3 : 400 < (n.edges.length : Int)
  · simp only [Try.f25, go_sem, Nat.reduceEqDiff, Nat.reduceLT, ↓reduceIte, Nat.reduceAdd, Nat.reduceSub, Nat.reduceMul, Nat.reduceBEq, Nat.reduceLeDiff, Nat.reduceDvd, reduceCtorEq, Int.reduceToNat, Int.reduceLT, Int.reduceLE, Nat.le_refl, Int.le_refl, false_implies, implies_true, frzSlot, List.take_length, List.mem_cons, List.not_mem_nil, or_false, forall_eq_or_imp, forall_eq, List.range_succ, List.range_zero, exists_eq_left', Option.some.injEq, h1, h2, h3]
    exact ⟨rfl, checked_no _ _ (by decide)⟩
  simp only [Try.f25, go_sem, Nat.reduceEqDiff, Nat.reduceLT, ↓reduceIte, Nat.reduceAdd, Nat.reduceSub, Nat.reduceMul, Nat.reduceBEq, Nat.reduceLeDiff, Nat.reduceDvd, reduceCtorEq, Int.reduceToNat, Int.reduceLT, Int.reduceLE, Nat.le_refl, Int.le_refl, false_implies, implies_true, frzSlot, List.take_length, List.mem_cons, List.not_mem_nil, or_false, forall_eq_or_imp, forall_eq, List.range_succ, List.range_zero, exists_eq_left', Option.some.injEq, h1, h2, h3]
  refine PCallK.intro (f47_c n (by omega) (by omega)) ?_
  simp only [go_sem, Nat.reduceEqDiff, Nat.reduceLT, ↓reduceIte, Nat.reduceAdd, Nat.reduceSub, Nat.reduceMul, Nat.reduceBEq, Nat.reduceLeDiff, Nat.reduceDvd, reduceCtorEq, Int.reduceToNat, Int.reduceLT, Int.reduceLE, Nat.le_refl, Int.le_refl, false_implies, implies_true, frzSlot, List.take_length, List.mem_cons, List.not_mem_nil, or_false, forall_eq_or_imp, forall_eq, List.range_succ, List.range_zero, exists_eq_left', Option.some.injEq]
  refine ACallK.prop (f48_c (n.nodes.map (·.name)) (by simp; omega) (by intro s hs; obtain ⟨x, hx, rfl⟩ := List.mem_map.1 hs; exact hn.1 x hx)) fun v hv => ?_
  obtain ⟨b1, rfl⟩ := hv
  simp only [go_sem, Nat.reduceEqDiff, Nat.reduceLT, ↓reduceIte, Nat.reduceAdd, Nat.reduceSub, Nat.reduceMul, Nat.reduceBEq, Nat.reduceLeDiff, Nat.reduceDvd, reduceCtorEq, Int.reduceToNat, Int.reduceLT, Int.reduceLE, Nat.le_refl, Int.le_refl, false_implies, implies_true, frzSlot, List.take_length, List.mem_cons, List.not_mem_nil, or_false, forall_eq_or_imp, forall_eq, List.range_succ, List.range_zero, exists_eq_left', Option.some.injEq]
  refine ACallK.prop (f48_c (n.edges.map (·.name)) (by simp; omega) (by intro s hs; obtain ⟨x, hx, rfl⟩ := List.mem_map.1 hs; exact hn.2 x hx)) fun v hv => ?_
  obtain ⟨b2, rfl⟩ := hv
  cases b1
  · simp only [go_sem, Nat.reduceEqDiff, Nat.reduceLT, ↓reduceIte, Nat.reduceAdd, Nat.reduceSub, Nat.reduceMul, Nat.reduceBEq, Nat.reduceLeDiff, Nat.reduceDvd, reduceCtorEq, Int.reduceToNat, Int.reduceLT, Int.reduceLE, Nat.le_refl, Int.le_refl, false_implies, implies_true, frzSlot, List.take_length, List.mem_cons, List.not_mem_nil, or_false, forall_eq_or_imp, forall_eq, List.range_succ, List.range_zero, exists_eq_left', Option.some.injEq]
    exact ⟨rfl, checked_no _ _ (by decide)⟩
  cases b2
  · simp only [go_sem, Nat.reduceEqDiff, Nat.reduceLT, ↓reduceIte, Nat.reduceAdd, Nat.reduceSub, Nat.reduceMul, Nat.reduceBEq, Nat.reduceLeDiff, Nat.reduceDvd, reduceCtorEq, Int.reduceToNat, Int.reduceLT, Int.reduceLE, Nat.le_refl, Int.le_refl, false_implies, implies_true, frzSlot, List.take_length, List.mem_cons, List.not_mem_nil, or_false, forall_eq_or_imp, forall_eq, List.range_succ, List.range_zero, exists_eq_left', Option.some.injEq]
    exact ⟨rfl, checked_no _ _ (by decide)⟩
  simp only [go_sem, Nat.reduceEqDiff, Nat.reduceLT, ↓reduceIte, Nat.reduceAdd, Nat.reduceSub, Nat.reduceMul, Nat.reduceBEq, Nat.reduceLeDiff, Nat.reduceDvd, reduceCtorEq, Int.reduceToNat, Int.reduceLT, Int.reduceLE, Nat.le_refl, Int.le_refl, false_implies, implies_true, frzSlot, List.take_length, List.mem_cons, List.not_mem_nil, or_false, forall_eq_or_imp, forall_eq, List.range_succ, List.range_zero, exists_eq_left', Option.some.injEq]
  refine awp_wh (σ := Nat) (fun i => [(1, .ptr 0 0), (7, .int .i64 (i : Int))]) (fun _ => [some n.c]) (fun i => i ≤ n.nodes.length) (fun i => n.nodes.length - i) 0 (Nat.zero_le _) rfl rfl ?_
  intro i hi
  by_cases hlt : i < n.nodes.length
  · obtain ⟨x, hx⟩ : ∃ x, n.nodes[i]? = some x := ⟨_, List.getElem?_eq_getElem hlt⟩
    have g0 : (0 : Int) ≤ (i : Int) := by omega
    have g1 : (i : Int) < (n.nodes.length : Int) := by omega
    have hw := w64s (show i < 9223372036854775807 by omega)
    by_cases a1 : x.rules < 0
    · simp only [go_sem, Nat.reduceEqDiff, Nat.reduceLT, ↓reduceIte, Nat.reduceAdd, Nat.reduceSub, Nat.reduceMul, Nat.reduceBEq, Nat.reduceLeDiff, Nat.reduceDvd, reduceCtorEq, Int.reduceToNat, Int.reduceLT, Int.reduceLE, Nat.le_refl, Int.le_refl, false_implies, implies_true, frzSlot, List.take_length, List.mem_cons, List.not_mem_nil, or_false, forall_eq_or_imp, forall_eq, List.range_succ, List.range_zero, exists_eq_left', Option.some.injEq, g0, g1, l111_get hx, a1]
      exact ⟨rfl, checked_no _ _ (by decide)⟩
    by_cases a2 : 4000 < x.rules
    · simp only [go_sem, Nat.reduceEqDiff, Nat.reduceLT, ↓reduceIte, Nat.reduceAdd, Nat.reduceSub, Nat.reduceMul, Nat.reduceBEq, Nat.reduceLeDiff, Nat.reduceDvd, reduceCtorEq, Int.reduceToNat, Int.reduceLT, Int.reduceLE, Nat.le_refl, Int.le_refl, false_implies, implies_true, frzSlot, List.take_length, List.mem_cons, List.not_mem_nil, or_false, forall_eq_or_imp, forall_eq, List.range_succ, List.range_zero, exists_eq_left', Option.some.injEq, g0, g1, l111_get hx, a1, a2]
      exact ⟨rfl, checked_no _ _ (by decide)⟩
    by_cases a3 : x.entries < 0
    · simp only [go_sem, Nat.reduceEqDiff, Nat.reduceLT, ↓reduceIte, Nat.reduceAdd, Nat.reduceSub, Nat.reduceMul, Nat.reduceBEq, Nat.reduceLeDiff, Nat.reduceDvd, reduceCtorEq, Int.reduceToNat, Int.reduceLT, Int.reduceLE, Nat.le_refl, Int.le_refl, false_implies, implies_true, frzSlot, List.take_length, List.mem_cons, List.not_mem_nil, or_false, forall_eq_or_imp, forall_eq, List.range_succ, List.range_zero, exists_eq_left', Option.some.injEq, g0, g1, l111_get hx, a1, a2, a3]
      exact ⟨rfl, checked_no _ _ (by decide)⟩
    by_cases a4 : 100000 < x.entries
    · simp only [go_sem, Nat.reduceEqDiff, Nat.reduceLT, ↓reduceIte, Nat.reduceAdd, Nat.reduceSub, Nat.reduceMul, Nat.reduceBEq, Nat.reduceLeDiff, Nat.reduceDvd, reduceCtorEq, Int.reduceToNat, Int.reduceLT, Int.reduceLE, Nat.le_refl, Int.le_refl, false_implies, implies_true, frzSlot, List.take_length, List.mem_cons, List.not_mem_nil, or_false, forall_eq_or_imp, forall_eq, List.range_succ, List.range_zero, exists_eq_left', Option.some.injEq, g0, g1, l111_get hx, a1, a2, a3, a4]
      exact ⟨rfl, checked_no _ _ (by decide)⟩
    simp only [go_sem, Nat.reduceEqDiff, Nat.reduceLT, ↓reduceIte, Nat.reduceAdd, Nat.reduceSub, Nat.reduceMul, Nat.reduceBEq, Nat.reduceLeDiff, Nat.reduceDvd, reduceCtorEq, Int.reduceToNat, Int.reduceLT, Int.reduceLE, Nat.le_refl, Int.le_refl, false_implies, implies_true, frzSlot, List.take_length, List.mem_cons, List.not_mem_nil, or_false, forall_eq_or_imp, forall_eq, List.range_succ, List.range_zero, exists_eq_left', Option.some.injEq, g0, g1, l111_get hx, a1, a2, a3, a4, hw]
    exact ⟨i + 1, by omega, by omega, rfl, rfl⟩
  have g1 : ¬ (i : Int) < (n.nodes.length : Int) := by omega
  simp only [go_sem, Nat.reduceEqDiff, Nat.reduceLT, ↓reduceIte, Nat.reduceAdd, Nat.reduceSub, Nat.reduceMul, Nat.reduceBEq, Nat.reduceLeDiff, Nat.reduceDvd, reduceCtorEq, Int.reduceToNat, Int.reduceLT, Int.reduceLE, Nat.le_refl, Int.le_refl, false_implies, implies_true, frzSlot, List.take_length, List.mem_cons, List.not_mem_nil, or_false, forall_eq_or_imp, forall_eq, List.range_succ, List.range_zero, exists_eq_left', Option.some.injEq, g1]
  clear hlt g1 hi i
  refine awp_wh (σ := Nat) (fun i => [(1, .ptr 0 0), (9, .int .i64 (i : Int))]) (fun _ => [some n.c]) (fun i => i ≤ n.links.length ∧ ∀ x ∈ n.links.take i, capOk x) (fun i => n.links.length - i) 0 ⟨Nat.zero_le _, by simp⟩ rfl rfl ?_
  intro i ⟨hi, hcap⟩
  by_cases hlt : i < n.links.length
  · obtain ⟨x, hx⟩ : ∃ x, n.links[i]? = some x := ⟨_, List.getElem?_eq_getElem hlt⟩
    have g0 : (0 : Int) ≤ (i : Int) := by omega
    have g1 : (i : Int) < (n.links.length : Int) := by omega
    have hw := w64s (show i < 9223372036854775807 by omega)
    simp only [go_sem, Nat.reduceEqDiff, Nat.reduceLT, ↓reduceIte, Nat.reduceAdd, Nat.reduceSub, Nat.reduceMul, Nat.reduceBEq, Nat.reduceLeDiff, Nat.reduceDvd, reduceCtorEq, Int.reduceToNat, Int.reduceLT, Int.reduceLE, Nat.le_refl, Int.le_refl, false_implies, implies_true, frzSlot, List.take_length, List.mem_cons, List.not_mem_nil, or_false, forall_eq_or_imp, forall_eq, List.range_succ, List.range_zero, exists_eq_left', Option.some.injEq, g0, g1, l65_get hx]
    refine PCallK.intro (f49_c n x.src) ?_
    cases b1 : decide (0 ≤ x.src) && decide (x.src < n.nodes.length)
    · simp only [go_sem, Nat.reduceEqDiff, Nat.reduceLT, ↓reduceIte, Nat.reduceAdd, Nat.reduceSub, Nat.reduceMul, Nat.reduceBEq, Nat.reduceLeDiff, Nat.reduceDvd, reduceCtorEq, Int.reduceToNat, Int.reduceLT, Int.reduceLE, Nat.le_refl, Int.le_refl, false_implies, implies_true, frzSlot, List.take_length, List.mem_cons, List.not_mem_nil, or_false, forall_eq_or_imp, forall_eq, List.range_succ, List.range_zero, exists_eq_left', Option.some.injEq]
      exact ⟨rfl, checked_no _ _ (by decide)⟩
    simp only [go_sem, Nat.reduceEqDiff, Nat.reduceLT, ↓reduceIte, Nat.reduceAdd, Nat.reduceSub, Nat.reduceMul, Nat.reduceBEq, Nat.reduceLeDiff, Nat.reduceDvd, reduceCtorEq, Int.reduceToNat, Int.reduceLT, Int.reduceLE, Nat.le_refl, Int.le_refl, false_implies, implies_true, frzSlot, List.take_length, List.mem_cons, List.not_mem_nil, or_false, forall_eq_or_imp, forall_eq, List.range_succ, List.range_zero, exists_eq_left', Option.some.injEq]
    refine PCallK.intro (f49_c n x.dst) ?_
    cases b2 : decide (0 ≤ x.dst) && decide (x.dst < n.nodes.length)
    · simp only [go_sem, Nat.reduceEqDiff, Nat.reduceLT, ↓reduceIte, Nat.reduceAdd, Nat.reduceSub, Nat.reduceMul, Nat.reduceBEq, Nat.reduceLeDiff, Nat.reduceDvd, reduceCtorEq, Int.reduceToNat, Int.reduceLT, Int.reduceLE, Nat.le_refl, Int.le_refl, false_implies, implies_true, frzSlot, List.take_length, List.mem_cons, List.not_mem_nil, or_false, forall_eq_or_imp, forall_eq, List.range_succ, List.range_zero, exists_eq_left', Option.some.injEq]
      exact ⟨rfl, checked_no _ _ (by decide)⟩
    cases a1 : x.src == x.dst
    case true =>
      simp only [go_sem, Nat.reduceEqDiff, Nat.reduceLT, ↓reduceIte, Nat.reduceAdd, Nat.reduceSub, Nat.reduceMul, Nat.reduceBEq, Nat.reduceLeDiff, Nat.reduceDvd, reduceCtorEq, Int.reduceToNat, Int.reduceLT, Int.reduceLE, Nat.le_refl, Int.le_refl, false_implies, implies_true, frzSlot, List.take_length, List.mem_cons, List.not_mem_nil, or_false, forall_eq_or_imp, forall_eq, List.range_succ, List.range_zero, exists_eq_left', Option.some.injEq, a1]
      exact ⟨rfl, checked_no _ _ (by decide)⟩
    by_cases a2 : x.capacity < 0
    · simp only [go_sem, Nat.reduceEqDiff, Nat.reduceLT, ↓reduceIte, Nat.reduceAdd, Nat.reduceSub, Nat.reduceMul, Nat.reduceBEq, Nat.reduceLeDiff, Nat.reduceDvd, reduceCtorEq, Int.reduceToNat, Int.reduceLT, Int.reduceLE, Nat.le_refl, Int.le_refl, false_implies, implies_true, frzSlot, List.take_length, List.mem_cons, List.not_mem_nil, or_false, forall_eq_or_imp, forall_eq, List.range_succ, List.range_zero, exists_eq_left', Option.some.injEq, a1, a2]
      exact ⟨rfl, checked_no _ _ (by decide)⟩
    by_cases a3 : 1048576 < x.capacity
    · simp only [go_sem, Nat.reduceEqDiff, Nat.reduceLT, ↓reduceIte, Nat.reduceAdd, Nat.reduceSub, Nat.reduceMul, Nat.reduceBEq, Nat.reduceLeDiff, Nat.reduceDvd, reduceCtorEq, Int.reduceToNat, Int.reduceLT, Int.reduceLE, Nat.le_refl, Int.le_refl, false_implies, implies_true, frzSlot, List.take_length, List.mem_cons, List.not_mem_nil, or_false, forall_eq_or_imp, forall_eq, List.range_succ, List.range_zero, exists_eq_left', Option.some.injEq, a1, a2, a3]
      exact ⟨rfl, checked_no _ _ (by decide)⟩
    simp only [go_sem, Nat.reduceEqDiff, Nat.reduceLT, ↓reduceIte, Nat.reduceAdd, Nat.reduceSub, Nat.reduceMul, Nat.reduceBEq, Nat.reduceLeDiff, Nat.reduceDvd, reduceCtorEq, Int.reduceToNat, Int.reduceLT, Int.reduceLE, Nat.le_refl, Int.le_refl, false_implies, implies_true, frzSlot, List.take_length, List.mem_cons, List.not_mem_nil, or_false, forall_eq_or_imp, forall_eq, List.range_succ, List.range_zero, exists_eq_left', Option.some.injEq, a1, a2, a3, hw]
    refine ⟨i + 1, ⟨by omega, fun y hy => ?_⟩, by omega, rfl, rfl⟩
    rw [take_snoc hx] at hy
    rcases List.mem_append.1 hy with hy | hy
    · exact hcap y hy
    · simp at hy; subst hy; exact ⟨by omega, by omega⟩
  have g1 : ¬ (i : Int) < (n.links.length : Int) := by omega
  have hcaps : ∀ x ∈ n.links, capOk x := by
    rw [List.take_of_length_le (by omega)] at hcap; exact hcap
  simp only [go_sem, Nat.reduceEqDiff, Nat.reduceLT, ↓reduceIte, Nat.reduceAdd, Nat.reduceSub, Nat.reduceMul, Nat.reduceBEq, Nat.reduceLeDiff, Nat.reduceDvd, reduceCtorEq, Int.reduceToNat, Int.reduceLT, Int.reduceLE, Nat.le_refl, Int.le_refl, false_implies, implies_true, frzSlot, List.take_length, List.mem_cons, List.not_mem_nil, or_false, forall_eq_or_imp, forall_eq, List.range_succ, List.range_zero, exists_eq_left', Option.some.injEq, g1]
  clear hlt g1 hi hcap i
  refine awp_wh (σ := Nat) (fun i => [(1, .ptr 0 0), (11, .int .i64 (i : Int))]) (fun _ => [some n.c]) (fun i => i ≤ n.edges.length) (fun i => n.edges.length - i) 0 (Nat.zero_le _) rfl rfl ?_
  intro i hi
  by_cases hlt : i < n.edges.length
  · obtain ⟨x, hx⟩ : ∃ x, n.edges[i]? = some x := ⟨_, List.getElem?_eq_getElem hlt⟩
    have g0 : (0 : Int) ≤ (i : Int) := by omega
    have g1 : (i : Int) < (n.edges.length : Int) := by omega
    have hw := w64s (show i < 9223372036854775807 by omega)
    simp only [go_sem, Nat.reduceEqDiff, Nat.reduceLT, ↓reduceIte, Nat.reduceAdd, Nat.reduceSub, Nat.reduceMul, Nat.reduceBEq, Nat.reduceLeDiff, Nat.reduceDvd, reduceCtorEq, Int.reduceToNat, Int.reduceLT, Int.reduceLE, Nat.le_refl, Int.le_refl, false_implies, implies_true, frzSlot, List.take_length, List.mem_cons, List.not_mem_nil, or_false, forall_eq_or_imp, forall_eq, List.range_succ, List.range_zero, exists_eq_left', Option.some.injEq, g0, g1, l114_get hx]
    refine PCallK.intro (f49_c n x.node) ?_
    cases b1 : decide (0 ≤ x.node) && decide (x.node < n.nodes.length)
    · simp only [go_sem, Nat.reduceEqDiff, Nat.reduceLT, ↓reduceIte, Nat.reduceAdd, Nat.reduceSub, Nat.reduceMul, Nat.reduceBEq, Nat.reduceLeDiff, Nat.reduceDvd, reduceCtorEq, Int.reduceToNat, Int.reduceLT, Int.reduceLE, Nat.le_refl, Int.le_refl, false_implies, implies_true, frzSlot, List.take_length, List.mem_cons, List.not_mem_nil, or_false, forall_eq_or_imp, forall_eq, List.range_succ, List.range_zero, exists_eq_left', Option.some.injEq]
      exact ⟨rfl, checked_no _ _ (by decide)⟩
    simp only [go_sem, Nat.reduceEqDiff, Nat.reduceLT, ↓reduceIte, Nat.reduceAdd, Nat.reduceSub, Nat.reduceMul, Nat.reduceBEq, Nat.reduceLeDiff, Nat.reduceDvd, reduceCtorEq, Int.reduceToNat, Int.reduceLT, Int.reduceLE, Nat.le_refl, Int.le_refl, false_implies, implies_true, frzSlot, List.take_length, List.mem_cons, List.not_mem_nil, or_false, forall_eq_or_imp, forall_eq, List.range_succ, List.range_zero, exists_eq_left', Option.some.injEq, hw]
    exact ⟨i + 1, by omega, by omega, rfl, rfl⟩
  have g1 : ¬ (i : Int) < (n.edges.length : Int) := by omega
  simp only [go_sem, Nat.reduceEqDiff, Nat.reduceLT, ↓reduceIte, Nat.reduceAdd, Nat.reduceSub, Nat.reduceMul, Nat.reduceBEq, Nat.reduceLeDiff, Nat.reduceDvd, reduceCtorEq, Int.reduceToNat, Int.reduceLT, Int.reduceLE, Nat.le_refl, Int.le_refl, false_implies, implies_true, frzSlot, List.take_length, List.mem_cons, List.not_mem_nil, or_false, forall_eq_or_imp, forall_eq, List.range_succ, List.range_zero, exists_eq_left', Option.some.injEq, g1]
  exact ⟨rfl, 0, rfl, fun _ => hcaps⟩

/-- What is known of a case that is right. -/
def Case.fine (c : Case) : Prop := c.n.nodes.length ≤ 10 ∧ c.n.links.length ≤ 12 ∧ (∀ x ∈ c.n.links, capOk x) ∧ c.delays.length ≤ 20 ∧ c.l.length ≤ 80

def rightV (c : Case) (v : AV) : Prop := ∃ b, v = .bool b ∧ (b = true → c.fine)

theorem f9_c (c : Case) (hn : c.n.small) : QCall Try.prog 9 [.agg c.c] (rightV c) := by
  refine QCall.of h9 mixed h9_d Try.func9 rfl call9 (by simp [Try.f9]) (by simp [pureL, AV.pure, go_sem]) ?_
  simp only [Try.f9, go_sem, Nat.reduceEqDiff, Nat.reduceLT, ↓reduceIte, Nat.reduceAdd, Nat.reduceSub, Nat.reduceMul, Nat.reduceBEq, Nat.reduceLeDiff, Nat.reduceDvd, reduceCtorEq, Int.reduceToNat, Int.reduceLT, Int.reduceLE, Nat.le_refl, Int.le_refl, false_implies, implies_true, frzSlot, List.take_length, List.mem_cons, List.not_mem_nil, or_false, forall_eq_or_imp, forall_eq, List.range_succ, List.range_zero, exists_eq_left', Option.some.injEq]
  refine PCallK.intro (f24_c c.n 10 12 10) ?_
  by_cases h1 : (c.n.nodes.length : Int) ≤ 10
  case neg =>
    simp only [go_sem, Nat.reduceEqDiff, Nat.reduceLT, ↓reduceIte, Nat.reduceAdd, Nat.reduceSub, Nat.reduceMul, Nat.reduceBEq, Nat.reduceLeDiff, Nat.reduceDvd, reduceCtorEq, Int.reduceToNat, Int.reduceLT, Int.reduceLE, Nat.le_refl, Int.le_refl, false_implies, implies_true, frzSlot, List.take_length, List.mem_cons, List.not_mem_nil, or_false, forall_eq_or_imp, forall_eq, List.range_succ, List.range_zero, exists_eq_left', Option.some.injEq, h1]
    exact ⟨rfl, false, rfl, fun h => by cases h⟩
  by_cases h2 : (c.n.links.length : Int) ≤ 12
  case neg =>
    simp only [go_sem, Nat.reduceEqDiff, Nat.reduceLT, ↓reduceIte, Nat.reduceAdd, Nat.reduceSub, Nat.reduceMul, Nat.reduceBEq, Nat.reduceLeDiff, Nat.reduceDvd, reduceCtorEq, Int.reduceToNat, Int.reduceLT, Int.reduceLE, Nat.le_refl, Int.le_refl, false_implies, implies_true, frzSlot, List.take_length, List.mem_cons, List.not_mem_nil, or_false, forall_eq_or_imp, forall_eq, List.range_succ, List.range_zero, exists_eq_left', Option.some.injEq, h1, h2]
    exact ⟨rfl, false, rfl, fun h => by cases h⟩
  by_cases h3 : (c.n.edges.length : Int) ≤ 10
  case neg =>
    simp only [go_sem, Nat.reduceEqDiff, Nat.reduceLT, ↓reduceIte, Nat.reduceAdd, Nat.reduceSub, Nat.reduceMul, Nat.reduceBEq, Nat.reduceLeDiff, Nat.reduceDvd, reduceCtorEq, Int.reduceToNat, Int.reduceLT, Int.reduceLE, Nat.le_refl, Int.le_refl, false_implies, implies_true, frzSlot, List.take_length, List.mem_cons, List.not_mem_nil, or_false, forall_eq_or_imp, forall_eq, List.range_succ, List.range_zero, exists_eq_left', Option.some.injEq, h1, h2, h3]
    exact ⟨rfl, false, rfl, fun h => by cases h⟩
  simp only [go_sem, Nat.reduceEqDiff, Nat.reduceLT, ↓reduceIte, Nat.reduceAdd, Nat.reduceSub, Nat.reduceMul, Nat.reduceBEq, Nat.reduceLeDiff, Nat.reduceDvd, reduceCtorEq, Int.reduceToNat, Int.reduceLT, Int.reduceLE, Nat.le_refl, Int.le_refl, false_implies, implies_true, frzSlot, List.take_length, List.mem_cons, List.not_mem_nil, or_false, forall_eq_or_imp, forall_eq, List.range_succ, List.range_zero, exists_eq_left', Option.some.injEq, h1, h2, h3]
  refine ACallK.prop (f25_c c.n hn) fun v hv => ?_
  obtain ⟨e, rfl, he⟩ := hv
  cases h4 : e == 0
  · simp only [go_sem, Nat.reduceEqDiff, Nat.reduceLT, ↓reduceIte, Nat.reduceAdd, Nat.reduceSub, Nat.reduceMul, Nat.reduceBEq, Nat.reduceLeDiff, Nat.reduceDvd, reduceCtorEq, Int.reduceToNat, Int.reduceLT, Int.reduceLE, Nat.le_refl, Int.le_refl, false_implies, implies_true, frzSlot, List.take_length, List.mem_cons, List.not_mem_nil, or_false, forall_eq_or_imp, forall_eq, List.range_succ, List.range_zero, exists_eq_left', Option.some.injEq, h4]
    exact ⟨rfl, false, rfl, fun h => by cases h⟩
  have he0 := he (by simpa using h4)
  by_cases h5 : (c.delays.length : Int) ≤ 20
  case neg =>
    simp only [go_sem, Nat.reduceEqDiff, Nat.reduceLT, ↓reduceIte, Nat.reduceAdd, Nat.reduceSub, Nat.reduceMul, Nat.reduceBEq, Nat.reduceLeDiff, Nat.reduceDvd, reduceCtorEq, Int.reduceToNat, Int.reduceLT, Int.reduceLE, Nat.le_refl, Int.le_refl, false_implies, implies_true, frzSlot, List.take_length, List.mem_cons, List.not_mem_nil, or_false, forall_eq_or_imp, forall_eq, List.range_succ, List.range_zero, exists_eq_left', Option.some.injEq, h4, h5]
    exact ⟨rfl, false, rfl, fun h => by cases h⟩
  by_cases h6 : (c.l.length : Int) ≤ 80
  case neg =>
    simp only [go_sem, Nat.reduceEqDiff, Nat.reduceLT, ↓reduceIte, Nat.reduceAdd, Nat.reduceSub, Nat.reduceMul, Nat.reduceBEq, Nat.reduceLeDiff, Nat.reduceDvd, reduceCtorEq, Int.reduceToNat, Int.reduceLT, Int.reduceLE, Nat.le_refl, Int.le_refl, false_implies, implies_true, frzSlot, List.take_length, List.mem_cons, List.not_mem_nil, or_false, forall_eq_or_imp, forall_eq, List.range_succ, List.range_zero, exists_eq_left', Option.some.injEq, h4, h5, h6]
    exact ⟨rfl, false, rfl, fun h => by cases h⟩
  simp only [go_sem, Nat.reduceEqDiff, Nat.reduceLT, ↓reduceIte, Nat.reduceAdd, Nat.reduceSub, Nat.reduceMul, Nat.reduceBEq, Nat.reduceLeDiff, Nat.reduceDvd, reduceCtorEq, Int.reduceToNat, Int.reduceLT, Int.reduceLE, Nat.le_refl, Int.le_refl, false_implies, implies_true, frzSlot, List.take_length, List.mem_cons, List.not_mem_nil, or_false, forall_eq_or_imp, forall_eq, List.range_succ, List.range_zero, exists_eq_left', Option.some.injEq, h4, h5, h6]
  exact ⟨rfl, true, rfl, fun _ => ⟨by omega, by omega, he0, by omega, by omega⟩⟩
end Go.AI
