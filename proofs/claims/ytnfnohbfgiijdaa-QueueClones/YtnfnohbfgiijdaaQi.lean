/- The queue's Tick. -/
import Derived.Test.YtnfnohbfgiijdaaQh
set_option linter.unusedSimpArgs false
set_option linter.unusedVariables false
namespace Go.AI
open Go.Proofs
set_option maxRecDepth 20000

def lead (t : Int) (due : List Int) : Nat := (due.takeWhile fun d => d == t).length
def Ln.arrive (t : Int) (x : Ln) : Ln := { (x.pass (lead t x.due) 0) with packets := x.packets.drop (lead t x.due), due := x.due.drop (lead t x.due) }
def Ln.room (x : Ln) : Nat := if x.down = true then 0 else min x.capacity.toNat (x.packets.length - x.due.length)
def Ln.fill (t : Int) (j : Nat) (x : Ln) : Ln := { x with due := x.due ++ List.replicate j (IntKind.i64.wrap (t + x.delay)) }
def Ln.tick (t : Int) (x : Ln) : Ln := (x.arrive t).fill t (x.arrive t).room
def pc (k : Nat) (p : Packet) : Passed := ⟨k, p⟩
def Ln.outs (t : Int) (k : Nat) (x : Ln) : List Passed := (x.packets.take (lead t x.due)).map (pc k)

def pnow (q : QS) : Int := IntKind.i64.wrap (q.now + 1)
def ptick (q : QS) : QS × List Passed := (⟨pnow q, q.length, q.lines.map (Ln.tick (pnow q))⟩, (q.lines.mapIdx fun k x => x.outs (pnow q) k).flatten)

def tl (t : Int) (l : List Ln) (k : Nat) : List Ln := (l.map (Ln.tick t)).take k ++ l.drop k
def tu (t : Int) (l : List Ln) (k : Nat) : List Passed := ((l.mapIdx fun k x => x.outs t k).take k).flatten

@[go_sem] theorem pass_packets (x : Ln) (a b : Int) : (x.pass a b).packets = x.packets := rfl
@[go_sem] theorem pass_due (x : Ln) (a b : Int) : (x.pass a b).due = x.due := rfl
@[go_sem] theorem pass_down (x : Ln) (a b : Int) : (x.pass a b).down = x.down := rfl
@[go_sem] theorem pass_capacity (x : Ln) (a b : Int) : (x.pass a b).capacity = x.capacity := rfl
@[go_sem] theorem pass_delay (x : Ln) (a b : Int) : (x.pass a b).delay = x.delay := rfl
@[go_sem] theorem fill_packets (x : Ln) (t : Int) (j : Nat) : (x.fill t j).packets = x.packets := rfl
@[go_sem] theorem fill_down (x : Ln) (t : Int) (j : Nat) : (x.fill t j).down = x.down := rfl
@[go_sem] theorem fill_delay (x : Ln) (t : Int) (j : Nat) : (x.fill t j).delay = x.delay := rfl
@[go_sem] theorem fill_due (x : Ln) (t : Int) (j : Nat) : (x.fill t j).due = x.due ++ List.replicate j (IntKind.i64.wrap (t + x.delay)) := rfl
theorem fill_zero (x : Ln) (t : Int) : x.fill t 0 = x := by simp [Ln.fill]
theorem fill_succ (x : Ln) (t : Int) (j : Nat) : x.due ++ List.replicate j (IntKind.i64.wrap (t + x.delay)) ++ [IntKind.i64.wrap (t + x.delay)] = (x.fill t (j + 1)).due := by
  rw [fill_due, List.replicate_succ', List.append_assoc]
theorem arrive_eq (x : Ln) (t : Int) {i : Nat} (h : lead t x.due = i) : x.arrive t = { (x.pass i 0) with packets := x.packets.drop i, due := x.due.drop i } := by subst h; rfl

section
variable {t : Int} {l : List Ln} {k : Nat} {x : Ln}
theorem tl_len (hk : k ≤ l.length) : (tl t l k).length = l.length := by simp [tl]; omega
theorem tl_at (hx : l[k]? = some x) : (tl t l k)[k]? = some x := by
  have hlt := (List.getElem?_eq_some_iff.1 hx).1
  unfold tl
  rw [List.getElem?_append_right (by simp; omega)]
  simp [Nat.min_eq_left (Nat.le_of_lt hlt), List.getElem?_drop, hx]
theorem tl_succ (hx : l[k]? = some x) : (tl t l k).set k (x.tick t) = tl t l (k + 1) := by
  unfold tl
  rw [mid_set (by simp) hx (by simp [hx])]
theorem tu_succ (hx : l[k]? = some x) : tu t l (k + 1) = tu t l k ++ x.outs t k := by
  unfold tu
  rw [take_snoc (x := x.outs t k) (by simp [hx])]
  simp
theorem outs_len : (x.outs t k).length ≤ x.packets.length := by unfold Ln.outs; simp; exact Nat.min_le_right _ _

theorem tu_len (hl : l.length ≤ 1000) (hq : ∀ x ∈ l, x.packets.length ≤ 1000000) (k : Nat) : (tu t l k).length ≤ 1000000000 := by
  have gen : ∀ (l : List Ln) (f : Nat → Ln → List Passed), (∀ i x, (f i x).length ≤ x.packets.length) → (∀ x ∈ l, x.packets.length ≤ 1000000) → ∀ k, ((l.mapIdx f).take k).flatten.length ≤ l.length * 1000000 := by
    intro l
    induction l with
    | nil => intro f _ _ k; simp
    | cons x xs ih =>
      intro f hf h2 k
      cases k with
      | zero => simp
      | succ k =>
        have h4 := ih (fun i => f (i + 1)) (fun i x => hf (i + 1) x) (fun y hy => h2 y (by simp [hy])) k
        have h5 := hf 0 x
        have h6 := h2 x (by simp)
        simp only [List.mapIdx_cons, List.take_succ_cons, List.flatten_cons, List.length_append, List.length_cons, Nat.add_mul]
        omega
  have := gen l (fun k x => x.outs t k) (fun i x => outs_len) hq k
  unfold tu
  omega

/-- As far as the times are alike. -/
theorem lead_stop {t : Int} {d : List Int} {i : Nat} (ha : ∀ y ∈ d.take i, y = t) (hi : i ≤ d.length) (hs : ∀ y, d[i]? = some y → ¬ y = t) : lead t d = i := by
  induction d generalizing i with
  | nil => simp at hi; subst hi; rfl
  | cons a d ih =>
    cases i with
    | zero =>
      have : ¬ a = t := hs a rfl
      simp [lead, List.takeWhile_cons, this]
    | succ i =>
      have h1 : a = t := ha a (by simp)
      have h2 := ih (i := i) (fun y hy => ha y (by simp [hy])) (by simpa using hi) (fun y hy => hs y (by simpa using hy))
      unfold lead at h2 ⊢
      simp [List.takeWhile_cons, h1, h2]
theorem lead_le (t : Int) (d : List Int) : lead t d ≤ d.length := by unfold lead; exact List.Sublist.length_le (List.takeWhile_sublist _)
end

theorem room_go {y : Ln} {j : Nat} (hc : 0 ≤ y.capacity) : j < y.room ↔ (j : Int) < y.capacity ∧ y.down = false ∧ y.due.length + j < y.packets.length := by
  unfold Ln.room
  cases y.down <;> simp <;> omega
theorem sz3 {a j n : Nat} (h : a + j < n) (hn : n ≤ 1000000) : (a + j + 1) * 8 ≤ 140737488355328 ∧ a + j + 1 ≤ 9223372036854775807 := by omega

set_option maxHeartbeats 1000000 in
theorem f22_a {H0 : Heap} {o o2 : Nat} (B : Base H0 o o2) (q : QS) (hg : q.good) (hn : q.lines.length ≤ 1000) (hc : ∀ x ∈ q.lines, 0 ≤ x.capacity ∧ x.capacity ≤ 1048576) :
    ACall Try.prog 22 [.ptr o 0] (QH H0 o o2 q) fun v H' => v = .sl (some 12) (l57 (ptick q).2) ∧ H' = QH H0 o o2 (ptick q).1 := by
  refine ACall.of h22 rfl mixed h22_d Try.func22 rfl call22 (by simp [Try.f22]) ?_
  simp only [Try.f22, go_sem, Nat.reduceEqDiff, Nat.reduceLT, ↓reduceIte, Nat.reduceAdd, Nat.reduceSub, Nat.reduceMul, Nat.reduceBEq, Nat.reduceLeDiff, Nat.reduceDvd, reduceCtorEq, Int.reduceToNat, Int.reduceLT, Int.reduceLE, Nat.le_refl, Int.le_refl, false_implies, implies_true, frzSlot, List.take_length, List.mem_cons, List.not_mem_nil, or_false, forall_eq_or_imp, forall_eq, List.range_succ, List.range_zero, exists_eq_left', Option.some.injEq, B.now, B.stnow, B.lines]
  refine awp_for q.lines.length (fun k => [(0, .ptr o 0), (3, .sl (some 12) (l57 (tu (pnow q) q.lines k))), (19, .int .i64 (q.lines.length : Int)), (20, .int .i64 (k : Int))]) (fun k => QX H0 o o2 (pnow q) q.length ((tl (pnow q) q.lines k).map ow)) rfl (by simp [tl]; rfl) ?_
  intro k hk
  by_cases hlt : k < q.lines.length
  · obtain ⟨x, hx⟩ : ∃ x, q.lines[k]? = some x := ⟨_, List.getElem?_eq_getElem hlt⟩
    have hxk := tl_at (t := pnow q) hx
    have htl := tl_len (t := pnow q) hk
    have h0 : (0 : Int) ≤ (k : Int) := by omega
    have h1 : (k : Int) < (q.lines.length : Int) := by omega
    obtain ⟨g1, g2⟩ := hg x (List.mem_of_getElem? hx)
    have hol := tu_len (t := pnow q) hn (fun x hx => (hg x hx).2) k
    simp only [go_sem, Nat.reduceEqDiff, Nat.reduceLT, ↓reduceIte, Nat.reduceAdd, Nat.reduceSub, Nat.reduceMul, Nat.reduceBEq, Nat.reduceLeDiff, Nat.reduceDvd, reduceCtorEq, Int.reduceToNat, Int.reduceLT, Int.reduceLE, Nat.le_refl, Int.le_refl, false_implies, implies_true, frzSlot, List.take_length, List.mem_cons, List.not_mem_nil, or_false, forall_eq_or_imp, forall_eq, List.range_succ, List.range_zero, exists_eq_left', Option.some.injEq, h0, h1, htl, B.lines]
    refine awp_wh (σ := Nat) (fun i => [(0, .ptr o 0), (3, .sl (some 12) (l57 (tu (pnow q) q.lines k ++ (x.packets.take i).map (pc k)))), (4, .int .i64 (k : Int)), (5, .ptr o2 (k * 10)), (6, .int .i64 (i : Int)), (19, .int .i64 (q.lines.length : Int)), (20, .int .i64 (k : Int))]) (fun _ => QX H0 o o2 (pnow q) q.length ((tl (pnow q) q.lines k).map ow)) (fun i => i ≤ x.due.length ∧ ∀ y ∈ x.due.take i, y = pnow q) (fun i => x.due.length - i) 0 ⟨Nat.zero_le _, by simp⟩ (by simp) rfl ?_
    intro i ⟨hi, ha⟩
    by_cases hgo : x.due[i]? = some (pnow q)
    · have hil := (List.getElem?_eq_some_iff.1 hgo).1
      obtain ⟨p, hp⟩ : ∃ p, x.packets[i]? = some p := ⟨_, List.getElem?_eq_getElem (by omega)⟩
      have i0 : (0 : Int) ≤ (i : Int) := by omega
      have i1 : (i : Int) < (x.due.length : Int) := by omega
      have i2 : (pnow q == pnow q) = true := beq_self_eq_true _
      obtain ⟨e1, e2⟩ := sz1 (b := (x.packets.take i).length) hol (Nat.le_trans (List.length_take_le' _ _) g2)
      simp only [go_sem, Nat.reduceEqDiff, Nat.reduceLT, ↓reduceIte, Nat.reduceAdd, Nat.reduceSub, Nat.reduceMul, Nat.reduceBEq, Nat.reduceLeDiff, Nat.reduceDvd, reduceCtorEq, Int.reduceToNat, Int.reduceLT, Int.reduceLE, Nat.le_refl, Int.le_refl, false_implies, implies_true, frzSlot, List.take_length, List.mem_cons, List.not_mem_nil, or_false, forall_eq_or_imp, forall_eq, List.range_succ, List.range_zero, exists_eq_left', Option.some.injEq, hxk, B.due, B.now, B.packets, i0, i1, i2, l3_get hgo, l45_get hp, List.length_append, List.length_map, e1, e2, l57_build, w64s (lt63 hil (Nat.le_trans g1 g2))]
      refine ⟨i + 1, ⟨hil, fun y hy => ?_⟩, by omega, ?_, rfl⟩
      · rw [take_snoc hgo] at hy
        rcases List.mem_append.1 hy with h | h
        · exact ha y h
        · exact List.mem_singleton.1 h
      · rw [take_snoc hp, List.map_append]; rfl
    · have hle : lead (pnow q) x.due = i := lead_stop ha hi fun y hy e => hgo (by rw [hy, e])
      have hs : (¬ (i : Int) < (x.due.length : Int)) ∨ ∃ y, x.due[i]? = some y ∧ (i : Int) < (x.due.length : Int) ∧ (y == pnow q) = false := by
        by_cases h : i < x.due.length
        · exact .inr ⟨_, List.getElem?_eq_getElem h, by omega, by
            rw [List.getElem?_eq_getElem h] at hgo
            exact beq_eq_false_iff_ne.2 fun e => hgo (by rw [e])⟩
        · exact .inl (by omega)
      have i0 : (0 : Int) ≤ (i : Int) := by omega
      rcases hs with hA | ⟨y, hy, hA, hne⟩
      case' inl => simp only [go_sem, Nat.reduceEqDiff, Nat.reduceLT, ↓reduceIte, Nat.reduceAdd, Nat.reduceSub, Nat.reduceMul, Nat.reduceBEq, Nat.reduceLeDiff, Nat.reduceDvd, reduceCtorEq, Int.reduceToNat, Int.reduceLT, Int.reduceLE, Nat.le_refl, Int.le_refl, false_implies, implies_true, frzSlot, List.take_length, List.mem_cons, List.not_mem_nil, or_false, forall_eq_or_imp, forall_eq, List.range_succ, List.range_zero, exists_eq_left', Option.some.injEq, hxk, B.due, B.now, B.packets, i0, hA]
      case' inr => simp only [go_sem, Nat.reduceEqDiff, Nat.reduceLT, ↓reduceIte, Nat.reduceAdd, Nat.reduceSub, Nat.reduceMul, Nat.reduceBEq, Nat.reduceLeDiff, Nat.reduceDvd, reduceCtorEq, Int.reduceToNat, Int.reduceLT, Int.reduceLE, Nat.le_refl, Int.le_refl, false_implies, implies_true, frzSlot, List.take_length, List.mem_cons, List.not_mem_nil, or_false, forall_eq_or_imp, forall_eq, List.range_succ, List.range_zero, exists_eq_left', Option.some.injEq, hxk, B.due, B.now, B.packets, i0, hA, hne, l3_get hy]
      all_goals
        refine ACallK.intro (f45_a B ⟨pnow q, q.length, tl (pnow q) q.lines k⟩ (i : Int) 0 hxk) ?_
        rintro _ _ ⟨rfl, rfl⟩
        have i2 : (i : Int) ≤ (x.due.length : Int) := by omega
        have i3 : (i : Int) ≤ (x.packets.length : Int) := by omega
        simp only [go_sem, Nat.reduceEqDiff, Nat.reduceLT, ↓reduceIte, Nat.reduceAdd, Nat.reduceSub, Nat.reduceMul, Nat.reduceBEq, Nat.reduceLeDiff, Nat.reduceDvd, reduceCtorEq, Int.reduceToNat, Int.reduceLT, Int.reduceLE, Nat.le_refl, Int.le_refl, false_implies, implies_true, frzSlot, List.take_length, List.mem_cons, List.not_mem_nil, or_false, forall_eq_or_imp, forall_eq, List.range_succ, List.range_zero, exists_eq_left', Option.some.injEq, hxk, B.tkp, B.tkd, B.sp, B.sd, B.capacity, i0, i2, i3]
        have ea := arrive_eq x (pnow q) hle
        have c1 : (x.arrive (pnow q)).packets.length ≤ 1000000 := by rw [ea]; simp; omega
        have c2 := hc x (List.mem_of_getElem? hx)
        have c3 : (x.arrive (pnow q)).capacity = x.capacity := rfl
        rw [← c3] at c2
        generalize hy : x.arrive (pnow q) = y at *
        refine awp_wh (σ := Nat) (fun j => [(0, .ptr o 0), (3, .sl (some 12) (l57 (tu (pnow q) q.lines k ++ (x.packets.take i).map (pc k)))), (5, .ptr o2 (k * 10)), (7, .int .i64 (y.capacity - (j : Int))), (19, .int .i64 (q.lines.length : Int)), (20, .int .i64 (k : Int))])
          (fun j => QX H0 o o2 (pnow q) q.length (((tl (pnow q) q.lines k).set k (y.fill (pnow q) j)).map ow)) (fun j => j ≤ y.room) (fun j => y.room - j) 0 (Nat.zero_le _) (by rw [← c3]; simp) (by rw [fill_zero, ea]; rfl) ?_
        intro j hj
        have hlk : k < (tl (pnow q) q.lines k).length := by rw [htl]; exact hlt
        have wj : IntKind.i64.wrap (y.capacity - (j : Int) - 1) = y.capacity - ((j + 1 : Nat) : Int) := by
          rw [w64 (by have := c2.1; have hj' := hj; unfold Ln.room at hj'; split at hj' <;> omega) (by omega)]; omega
        by_cases hgo : j < y.room
        · obtain ⟨d1, d2, d3⟩ := (room_go c2.1).1 hgo
          have d4 : (0 : Int) < y.capacity - (j : Int) := by omega
          have d5 : ((y.due.length + j : Nat) : Int) < (y.packets.length : Int) := by omega
          obtain ⟨e1, e2⟩ := sz3 d3 c1
          simp only [go_sem, Nat.reduceEqDiff, Nat.reduceLT, ↓reduceIte, Nat.reduceAdd, Nat.reduceSub, Nat.reduceMul, Nat.reduceBEq, Nat.reduceLeDiff, Nat.reduceDvd, reduceCtorEq, Int.reduceToNat, Int.reduceLT, Int.reduceLE, Nat.le_refl, Int.le_refl, false_implies, implies_true, frzSlot, List.take_length, List.mem_cons, List.not_mem_nil, or_false, forall_eq_or_imp, forall_eq, List.range_succ, List.range_zero, exists_eq_left', Option.some.injEq, hxk, B.tkd, B.due, B.packets, B.down, B.now, B.delay, B.sd, d2, d4, d5, e1, e2, wj, List.length_append, List.length_replicate]
          refine ⟨j + 1, hgo, by omega, rfl, ?_⟩
          have ef : y.fill (pnow q) (j + 1) = ({ (y.fill (pnow q) j) with down := false, due := y.due ++ (List.replicate j (IntKind.i64.wrap (pnow q + y.delay)) ++ [IntKind.i64.wrap (pnow q + y.delay)]) } : Ln) := by
            simp [Ln.fill, List.replicate_succ', d2]
          rw [ef]; rfl
        · have hr : j = y.room := by omega
          have et : (tl (pnow q) q.lines k).set k (y.fill (pnow q) j) = tl (pnow q) q.lines (k + 1) := by
            rw [← tl_succ hx, hr, ← hy]; rfl
          have eo : tu (pnow q) q.lines (k + 1) = tu (pnow q) q.lines k ++ (x.packets.take i).map (pc k) := by
            rw [tu_succ hx, ← hle]; rfl
          have wk := w64s (lt63 hlt (Nat.le_trans hn (by decide)))
          rw [et]
          by_cases d1 : (0 : Int) < y.capacity - (j : Int)
          · have hyk : (tl (pnow q) q.lines (k + 1))[k]? = some (y.fill (pnow q) j) := by
              rw [← et, List.getElem?_set_self hlk]
            cases hd : y.down
            · have d5 : ¬ ((y.due.length + j : Nat) : Int) < (y.packets.length : Int) := fun h => hgo ((room_go c2.1).2 ⟨by omega, hd, by omega⟩)
              simp only [go_sem, Nat.reduceEqDiff, Nat.reduceLT, ↓reduceIte, Nat.reduceAdd, Nat.reduceSub, Nat.reduceMul, Nat.reduceBEq, Nat.reduceLeDiff, Nat.reduceDvd, reduceCtorEq, Int.reduceToNat, Int.reduceLT, Int.reduceLE, Nat.le_refl, Int.le_refl, false_implies, implies_true, frzSlot, List.take_length, List.mem_cons, List.not_mem_nil, or_false, forall_eq_or_imp, forall_eq, List.range_succ, List.range_zero, exists_eq_left', Option.some.injEq, hyk, B.due, B.packets, B.down, hd, d1, d5, wk, List.length_append, List.length_replicate]
              exact ⟨hlt, by rw [eo], rfl⟩
            · simp only [go_sem, Nat.reduceEqDiff, Nat.reduceLT, ↓reduceIte, Nat.reduceAdd, Nat.reduceSub, Nat.reduceMul, Nat.reduceBEq, Nat.reduceLeDiff, Nat.reduceDvd, reduceCtorEq, Int.reduceToNat, Int.reduceLT, Int.reduceLE, Nat.le_refl, Int.le_refl, false_implies, implies_true, frzSlot, List.take_length, List.mem_cons, List.not_mem_nil, or_false, forall_eq_or_imp, forall_eq, List.range_succ, List.range_zero, exists_eq_left', Option.some.injEq, hyk, B.down, hd, d1, wk]
              exact ⟨hlt, by rw [eo], rfl⟩
          · simp only [go_sem, Nat.reduceEqDiff, Nat.reduceLT, ↓reduceIte, Nat.reduceAdd, Nat.reduceSub, Nat.reduceMul, Nat.reduceBEq, Nat.reduceLeDiff, Nat.reduceDvd, reduceCtorEq, Int.reduceToNat, Int.reduceLT, Int.reduceLE, Nat.le_refl, Int.le_refl, false_implies, implies_true, frzSlot, List.take_length, List.mem_cons, List.not_mem_nil, or_false, forall_eq_or_imp, forall_eq, List.range_succ, List.range_zero, exists_eq_left', Option.some.injEq, d1, wk]
            exact ⟨hlt, by rw [eo], rfl⟩
  · have h1 : ¬ (k : Int) < (q.lines.length : Int) := by omega
    have hke : k = q.lines.length := by omega
    have e1 : tl (pnow q) q.lines k = (ptick q).1.lines := by
      unfold tl ptick
      simp [hke, List.take_of_length_le]
    have e2 : tu (pnow q) q.lines k = (ptick q).2 := by
      unfold tu ptick
      simp [hke, List.take_of_length_le]
    simp only [go_sem, Nat.reduceEqDiff, Nat.reduceLT, ↓reduceIte, Nat.reduceAdd, Nat.reduceSub, Nat.reduceMul, Nat.reduceBEq, Nat.reduceLeDiff, Nat.reduceDvd, reduceCtorEq, Int.reduceToNat, Int.reduceLT, Int.reduceLE, Nat.le_refl, Int.le_refl, false_implies, implies_true, frzSlot, List.take_length, List.mem_cons, List.not_mem_nil, or_false, forall_eq_or_imp, forall_eq, List.range_succ, List.range_zero, exists_eq_left', Option.some.injEq, h1, e1, e2]
    rfl
end Go.AI
