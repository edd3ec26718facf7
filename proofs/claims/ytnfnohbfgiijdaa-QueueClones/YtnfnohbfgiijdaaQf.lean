/- The program's queues as an object, and the functions that only look at them. -/
import Derived.Test.YtnfnohbfgiijdaaMb
set_option linter.unusedSimpArgs false
set_option linter.unusedVariables false
namespace Go.AI
open Go.Proofs
set_option maxRecDepth 20000

mutual
theorem AV.bnd_mono {m n : Nat} (h : m ≤ n) : ∀ a : AV, a.bnd m = true → a.bnd n = true
  | .undef, _ => rfl
  | .int _ _, _ => rfl
  | .bool _, _ => rfl
  | .str _, _ => rfl
  | .nilp, _ => rfl
  | .nilf, _ => rfl
  | .ptr o _, k => by simp only [AV.bnd, decide_eq_true_eq] at k ⊢; omega
  | .msl o _ _ _, k => by simp only [AV.bnd, decide_eq_true_eq] at k ⊢; omega
  | .cptr cs _, k => bndL_mono h cs k
  | .sl _ es, k => bndL_mono h es k
  | .agg cs, k => bndL_mono h cs k
  | .tup cs, k => bndL_mono h cs k
  | .fn _ a b, k => by
    simp only [AV.bnd, Bool.and_eq_true] at k ⊢
    exact ⟨bndL_mono h a k.1, bndL_mono h b k.2⟩
theorem bndL_mono {m n : Nat} (h : m ≤ n) : ∀ l : List AV, bndL m l = true → bndL n l = true
  | [], _ => rfl
  | a :: l, k => by
    simp only [bndL, Bool.and_eq_true] at k ⊢
    exact ⟨AV.bnd_mono h a k.1, bndL_mono h l k.2⟩
end

theorem bnd_borrow1 (m : Nat) (a : AV) : (borrow1 a).bnd m = a.bnd m := by cases a <;> rfl
theorem bndL_borrow1 (m : Nat) (cs : List AV) : bndL m (cs.map borrow1) = bndL m cs := by
  induction cs with
  | nil => rfl
  | cons c cs ih => simp [bndL, bnd_borrow1, ih]

theorem closedH.view {H H2 : Heap} (h : closedH H) (e : hview H2 = hview H) : closedH H2 := fun i cs hi => by
  have hl : H2.length = H.length := by have := congrArg List.length e; simpa [hview] using this
  obtain ⟨c2, h1, h2⟩ := hview_get e.symm hi
  rw [hl, ← bndL_borrow1, ← h2, bndL_borrow1]
  exact h i c2 h1

theorem closedH.set {H : Heap} (h : closedH H) (i : Nat) {cs : List AV} (hb : bndL H.length cs = true) : closedH (H.set i (some cs)) := fun j c hj => by
  rw [List.length_set]
  rw [List.getElem?_set] at hj
  split at hj
  · split at hj
    · cases hj; exact hb
    · cases hj
  · exact h j c hj

theorem closedH.app {H : Heap} (h : closedH H) {cs : List AV} (hb : bndL (H.length + 1) cs = true) : closedH (H ++ [some cs]) := fun j c hj => by
  rw [List.length_append]
  by_cases hlt : j < H.length
  · rw [List.getElem?_append_left hlt] at hj
    exact bndL_mono (by simp) _ (h j c hj)
  · rw [List.getElem?_append_right (by omega)] at hj
    have : j - H.length = 0 := by
      have := (List.getElem?_eq_some_iff.1 hj).1
      simp at this; omega
    rw [this] at hj
    cases hj; exact hb

theorem set_end (H : Heap) (x y : Option (List AV)) : (H ++ [x]).set H.length y = H ++ [y] := by simp
attribute [go_sem] set_end List.getElem?_concat_length

structure QS where
  now : Int
  length : Int
  lines : List Ln

def QS.head (q : QS) (o2 : Nat) : List AV := [.int .i64 q.now, .int .i64 q.length, .msl o2 0 q.lines.length 10]

/-- The queues lie at o, their lines at o2. -/
structure QAt (H : Heap) (o o2 : Nat) (q : QS) : Prop where
  hd : H[o]? = some (some (q.head o2))
  ln : H[o2]? = some (some (q.lines.flatMap Ln.co))
  ne : o ≠ o2
  cl : closedH H

/-- The same, but for the right to append. -/
structure QV (H : Heap) (o o2 : Nat) (q : QS) : Prop where
  hd : H[o]? = some (some (q.head o2))
  ln : ∃ cs, H[o2]? = some (some cs) ∧ cs.map borrow1 = q.lines.flatMap Ln.c
  ne : o ≠ o2
  cl : closedH H

theorem co_bor (l : List Ln) : (l.flatMap Ln.co).map borrow1 = l.flatMap Ln.c := by
  rw [List.map_flatMap]; rfl

theorem c_bor (l : List Ln) : (l.flatMap Ln.c).map borrow1 = l.flatMap Ln.c := by
  rw [List.map_flatMap]; rfl

theorem QAt.v {H : Heap} {o o2 : Nat} {q : QS} (h : QAt H o o2 q) : QV H o o2 q := ⟨h.hd, ⟨_, h.ln, co_bor _⟩, h.ne, h.cl⟩

theorem bor_int {a : AV} {k : IntKind} {n : Int} (h : borrow1 a = .int k n) : a = .int k n := by
  cases a <;> first | exact h | cases h
theorem bor_msl {a : AV} {x y z t : Nat} (h : borrow1 a = .msl x y z t) : a = .msl x y z t := by
  cases a <;> first | exact h | cases h

theorem QV.view {H H2 : Heap} {o o2 : Nat} {q : QS} (h : QV H o o2 q) (e : hview H2 = hview H) : QV H2 o o2 q := by
  obtain ⟨cs, h1, h2⟩ := hview_get e h.hd
  obtain ⟨x, hx, hx2⟩ := h.ln
  obtain ⟨y, hy, hy2⟩ := hview_get e hx
  refine ⟨?_, ⟨y, hy, hy2.trans hx2⟩, h.ne, h.cl.view e⟩
  rw [h1]
  simp only [QS.head, List.map_cons, List.map_nil] at h2 ⊢
  rcases cs with _ | ⟨a, _ | ⟨b, _ | ⟨c, _ | ⟨d, cs⟩⟩⟩⟩ <;> simp only [List.map_cons, List.map_nil, List.cons.injEq, and_true, reduceCtorEq, and_false] at h2
  rw [bor_int h2.1, bor_int h2.2.1, bor_msl h2.2.2]

theorem RCall.ofV {f : FuncId} {vs : List AV} {H : Heap} {o o2 : Nat} {q : QS} {v : AV} (hq : QV H o o2 q) (h : ∀ H, QV H o o2 q → ACall Try.prog f vs H fun v' H' => v' = v ∧ H' = H) : RCall Try.prog f vs H v :=
  fun H2 e => h H2 (hq.view e)

section
variable {H : Heap} {o o2 : Nat} {q : QS} {k : Nat} {x : Ln}

theorem QV.load (i t : Nat) {v : AV} (hi : i < 10) (hs : ldk Try.prog t = some none) (h : QV H o o2 q) (hx : q.lines[k]? = some x) (hl : x.c[i]? = some v) (hv : v.borrow = v) : vLoad Try.prog false t (.ptr o2 (k * 10 + i)) H = some (v, H) := by
  obtain ⟨cs, hc, hb⟩ := h.ln
  have h1 : ldv Try.prog t (q.lines.flatMap Ln.c) (k * 10 + i) = some v := by
    rw [ldv_eq, hs, ldx_one, get_flat (n := 10) (fun _ => rfl) hx hi]; exact hl
  obtain ⟨v2, h2, h3⟩ := ldv_view (cs := q.lines.flatMap Ln.c) (cs2 := cs) (by rw [hb, c_bor]) h1
  simp only [vLoad, hc, h2, h3, hv]

theorem QV.down (h : QV H o o2 q) (hx : q.lines[k]? = some x) : vLoad Try.prog false 4 (.ptr o2 (k * 10 + 5)) H = some (.bool x.down, H) := QV.load 5 4 (by decide) (by kernel_rfl) h hx rfl rfl
theorem QV.capacity (h : QV H o o2 q) (hx : q.lines[k]? = some x) : vLoad Try.prog false 3 (.ptr o2 (k * 10 + 6)) H = some (.int .i64 x.capacity, H) := QV.load 6 3 (by decide) (by kernel_rfl) h hx rfl rfl
theorem QV.delay (h : QV H o o2 q) (hx : q.lines[k]? = some x) : vLoad Try.prog false 3 (.ptr o2 (k * 10 + 7)) H = some (.int .i64 x.delay, H) := QV.load 7 3 (by decide) (by kernel_rfl) h hx rfl rfl
theorem QV.packets (h : QV H o o2 q) (hx : q.lines[k]? = some x) : vLoad Try.prog false 62 (.ptr o2 (k * 10 + 8)) H = some (.sl none (l45 x.packets), H) := QV.load 8 62 (by decide) (by kernel_rfl) h hx rfl rfl
theorem QV.due (h : QV H o o2 q) (hx : q.lines[k]? = some x) : vLoad Try.prog false 27 (.ptr o2 (k * 10 + 9)) H = some (.sl none (l3 x.due), H) := QV.load 9 27 (by decide) (by kernel_rfl) h hx rfl rfl
theorem QV.meter (h : QV H o o2 q) (hx : q.lines[k]? = some x) : vLoad Try.prog false 59 (.ptr o2 (k * 10)) H = some (.agg x.counts.meter.c, H) := by
  obtain ⟨cs, hc, hb⟩ := h.ln
  have hlt := (List.getElem?_eq_some_iff.1 hx).1
  have h1 : ldv Try.prog 59 (q.lines.flatMap Ln.c) (k * 10) = some (.agg x.counts.meter.c) := by
    have hr := room_flat (f := Ln.c) (n := 10) (fun _ => rfl) hlt (o := 0) (m := 5) (by decide)
    have hp := part_flat (f := Ln.c) (n := 10) (fun _ => rfl) hx (o := 0) (m := 5) (by decide)
    rw [Nat.add_zero] at hr hp
    simp only [go_sem, hr, hp, List.drop_zero]
    rfl
  obtain ⟨v2, h2, h3⟩ := ldv_view (cs := q.lines.flatMap Ln.c) (cs2 := cs) (by rw [hb, c_bor]) h1
  simp only [vLoad, hc, h2, h3]
  rfl
theorem QV.all (h : QV H o o2 q) (hx : q.lines[k]? = some x) : vLoad Try.prog false 86 (.ptr o2 (k * 10)) H = some (.agg x.c, H) := by
  obtain ⟨cs, hc, hb⟩ := h.ln
  have hlt := (List.getElem?_eq_some_iff.1 hx).1
  have h1 : ldv Try.prog 86 (q.lines.flatMap Ln.c) (k * 10) = some (.agg x.c) := by
    have hr := room_flat (f := Ln.c) (n := 10) (fun _ => rfl) hlt (o := 0) (m := 10) (by decide)
    have hp := part_flat (f := Ln.c) (n := 10) (fun _ => rfl) hx (o := 0) (m := 10) (by decide)
    rw [Nat.add_zero] at hr hp
    simp only [go_sem, hr, hp, List.drop_zero]
  obtain ⟨v2, h2, h3⟩ := ldv_view (cs := q.lines.flatMap Ln.c) (cs2 := cs) (by rw [hb, c_bor]) h1
  simp only [vLoad, hc, h2, h3]
  rfl

theorem QV.now (h : QV H o o2 q) : vLoad Try.prog false 3 (.ptr o 0) H = some (.int .i64 q.now, H) := by
  simp only [vLoad, h.hd]; simp only [go_sem, QS.head]
theorem QV.length (h : QV H o o2 q) : vLoad Try.prog false 3 (.ptr o 1) H = some (.int .i64 q.length, H) := by
  simp only [vLoad, h.hd]; simp only [go_sem, QS.head]
theorem QV.lines (h : QV H o o2 q) : vLoad Try.prog false 80 (.ptr o 2) H = some (.msl o2 0 q.lines.length 10, H) := by
  simp only [vLoad, h.hd]; simp only [go_sem, QS.head]
end

theorem QV.app {H : Heap} {o o2 : Nat} {q : QS} (h : QV H o o2 q) {cs : List AV} (hb : bndL (H.length + 1) cs = true) : QV (H ++ [some cs]) o o2 q := by
  obtain ⟨x, hx, hx2⟩ := h.ln
  exact ⟨getElem?_append_some h.hd, ⟨x, getElem?_append_some hx, hx2⟩, h.ne, h.cl.app hb⟩

theorem RCallK.intro {f : FuncId} {vs : List AV} {d : Option Tmp} {v : AV} {K : Kt} {e : Env} {H : Heap} (hc : RCall Try.prog f vs H v) (hk : K (put d v e) H) : RCallK Try.prog f vs d K e H := ⟨v, hc, hk⟩

/-- A call that leaves objects behind which nothing names. -/
theorem ACall.clean {f : FuncId} {vs : List AV} {H : Heap} {v : AV} (hc : closedH H) (hv : v.bnd H.length = true) (h : ACall Try.prog f vs H fun v' H' => v' = v ∧ ∃ junk, H' = H ++ junk) : ACall Try.prog f vs H fun v' H' => v' = v ∧ H' = H :=
  ACall.gc (by rintro _ _ ⟨_, rfl⟩; exact Nat.le_refl _) (h.mono fun v' H' hq => by
    obtain ⟨rfl, junk, rfl⟩ := hq
    exact ⟨H, junk, rfl, hv, hc, rfl, rfl⟩)

/-- The result may be lent. -/
theorem ACall.lent {f : FuncId} {vs : List AV} {H : Heap} {v : AV} (h : ACall Try.prog f vs H fun v' H' => v'.borrow = v ∧ H' = H) : ACall Try.prog f vs H fun v' H' => v' = v ∧ H' = H :=
  ⟨h.1, fun F G w us hc => Calls.mono (h.2 F G w us hc) fun e w' he => by
    obtain ⟨u, rfl, v, H', G', ⟨rfl, rfl⟩, h2, h3⟩ := he
    exact ⟨u, rfl, v.borrow, _, G', ⟨rfl, rfl⟩, by simpa using h2.lend, h3⟩⟩

theorem f27_r {H : Heap} {o o2 : Nat} {q : QS} (hq : QV H o o2 q) : RCall Try.prog 27 [.ptr o 0] H (.int .i64 q.now) := by
  refine .ofV hq fun H hq => ?_
  refine ACall.of h27 rfl mixed h27_d Try.func27 rfl call27 (by simp [Try.f27]) ?_
  simp only [Try.f27, go_sem, Nat.reduceEqDiff, Nat.reduceLT, ↓reduceIte, Nat.reduceAdd, Nat.reduceSub, Nat.reduceMul, Nat.reduceBEq, Nat.reduceLeDiff, Nat.reduceDvd, reduceCtorEq, Int.reduceToNat, Int.reduceLT, Int.reduceLE, Nat.le_refl, Int.le_refl, false_implies, implies_true, frzSlot, List.take_length, List.mem_cons, List.not_mem_nil, or_false, forall_eq_or_imp, forall_eq, List.range_succ, List.range_zero, exists_eq_left', Option.some.injEq, hq.now]

def phas (q : QS) (k : Int) : Bool := decide (0 ≤ k) && decide (k < q.lines.length)

theorem phas_get {q : QS} {k : Int} (h : phas q k = true) : 0 ≤ k ∧ k < q.lines.length ∧ ∃ x, q.lines[k.toNat]? = some x := by
  simp only [phas, Bool.and_eq_true, decide_eq_true_eq] at h
  exact ⟨h.1, h.2, _, List.getElem?_eq_getElem (by omega)⟩

theorem f42_r {H : Heap} {o o2 : Nat} {q : QS} (k : Int) (hq : QV H o o2 q) : RCall Try.prog 42 [.ptr o 0, .int .i64 k] H (if phas q k = true then .ptr o2 (k.toNat * 10) else .nilp) := by
  refine .ofV hq fun H hq => ?_
  refine ACall.of h42 rfl mixed h42_d Try.func42 rfl call42 (by simp [Try.f42]) ?_
  by_cases h0 : k < 0
  · have hp : phas q k = false := by simp [phas]; omega
    simp only [Try.f42, go_sem, Nat.reduceEqDiff, Nat.reduceLT, ↓reduceIte, Nat.reduceAdd, Nat.reduceSub, Nat.reduceMul, Nat.reduceBEq, Nat.reduceLeDiff, Nat.reduceDvd, reduceCtorEq, Int.reduceToNat, Int.reduceLT, Int.reduceLE, Nat.le_refl, Int.le_refl, false_implies, implies_true, frzSlot, List.take_length, List.mem_cons, List.not_mem_nil, or_false, forall_eq_or_imp, forall_eq, List.range_succ, List.range_zero, exists_eq_left', Option.some.injEq, h0, hp]
  · by_cases h1 : (q.lines.length : Int) ≤ k
    · have hp : phas q k = false := by simp [phas]; omega
      simp only [Try.f42, go_sem, Nat.reduceEqDiff, Nat.reduceLT, ↓reduceIte, Nat.reduceAdd, Nat.reduceSub, Nat.reduceMul, Nat.reduceBEq, Nat.reduceLeDiff, Nat.reduceDvd, reduceCtorEq, Int.reduceToNat, Int.reduceLT, Int.reduceLE, Nat.le_refl, Int.le_refl, false_implies, implies_true, frzSlot, List.take_length, List.mem_cons, List.not_mem_nil, or_false, forall_eq_or_imp, forall_eq, List.range_succ, List.range_zero, exists_eq_left', Option.some.injEq, h0, hp, hq.lines, h1]
    · have hp : phas q k = true := by simp [phas]; omega
      have h2 : 0 ≤ k := by omega
      have h3 : k < q.lines.length := by omega
      simp only [Try.f42, go_sem, Nat.reduceEqDiff, Nat.reduceLT, ↓reduceIte, Nat.reduceAdd, Nat.reduceSub, Nat.reduceMul, Nat.reduceBEq, Nat.reduceLeDiff, Nat.reduceDvd, reduceCtorEq, Int.reduceToNat, Int.reduceLT, Int.reduceLE, Nat.le_refl, Int.le_refl, false_implies, implies_true, frzSlot, List.take_length, List.mem_cons, List.not_mem_nil, or_false, forall_eq_or_imp, forall_eq, List.range_succ, List.range_zero, exists_eq_left', Option.some.injEq, h0, hp, hq.lines, h1, h2, h3]

def pup (q : QS) (k : Int) : Bool := phas q k && (q.lines[k.toNat]?.any fun x => !x.down)

theorem f20_r {H : Heap} {o o2 : Nat} {q : QS} (k : Int) (hq : QV H o o2 q) : RCall Try.prog 20 [.ptr o 0, .int .i64 k] H (.bool (pup q k)) := by
  refine .ofV hq fun H hq => ?_
  refine ACall.of h20 rfl mixed h20_d Try.func20 rfl call20 (by simp [Try.f20]) ?_
  unfold pup
  cases hh : phas q k
  · simp only [Try.f20, go_sem, Nat.reduceEqDiff, Nat.reduceLT, ↓reduceIte, Nat.reduceAdd, Nat.reduceSub, Nat.reduceMul, Nat.reduceBEq, Nat.reduceLeDiff, Nat.reduceDvd, reduceCtorEq, Int.reduceToNat, Int.reduceLT, Int.reduceLE, Nat.le_refl, Int.le_refl, false_implies, implies_true, frzSlot, List.take_length, List.mem_cons, List.not_mem_nil, or_false, forall_eq_or_imp, forall_eq, List.range_succ, List.range_zero, exists_eq_left', Option.some.injEq]
    refine RCallK.intro (f42_r k hq) ?_
    simp only [go_sem, Nat.reduceEqDiff, Nat.reduceLT, ↓reduceIte, Nat.reduceAdd, Nat.reduceSub, Nat.reduceMul, Nat.reduceBEq, Nat.reduceLeDiff, Nat.reduceDvd, reduceCtorEq, Int.reduceToNat, Int.reduceLT, Int.reduceLE, Nat.le_refl, Int.le_refl, false_implies, implies_true, frzSlot, List.take_length, List.mem_cons, List.not_mem_nil, or_false, forall_eq_or_imp, forall_eq, List.range_succ, List.range_zero, exists_eq_left', Option.some.injEq, hh]
  · obtain ⟨h0, h1, x, hx⟩ := phas_get hh
    simp only [Try.f20, go_sem, Nat.reduceEqDiff, Nat.reduceLT, ↓reduceIte, Nat.reduceAdd, Nat.reduceSub, Nat.reduceMul, Nat.reduceBEq, Nat.reduceLeDiff, Nat.reduceDvd, reduceCtorEq, Int.reduceToNat, Int.reduceLT, Int.reduceLE, Nat.le_refl, Int.le_refl, false_implies, implies_true, frzSlot, List.take_length, List.mem_cons, List.not_mem_nil, or_false, forall_eq_or_imp, forall_eq, List.range_succ, List.range_zero, exists_eq_left', Option.some.injEq]
    refine RCallK.intro (f42_r k hq) ?_
    simp only [go_sem, Nat.reduceEqDiff, Nat.reduceLT, ↓reduceIte, Nat.reduceAdd, Nat.reduceSub, Nat.reduceMul, Nat.reduceBEq, Nat.reduceLeDiff, Nat.reduceDvd, reduceCtorEq, Int.reduceToNat, Int.reduceLT, Int.reduceLE, Nat.le_refl, Int.le_refl, false_implies, implies_true, frzSlot, List.take_length, List.mem_cons, List.not_mem_nil, or_false, forall_eq_or_imp, forall_eq, List.range_succ, List.range_zero, exists_eq_left', Option.some.injEq, hh, hx, hq.down hx]

def pmeter (q : QS) (k : Int) : Meter := if phas q k = true then ((q.lines[k.toNat]?).map (·.counts.meter)).getD ⟨0, 0, 0, 0, 0⟩ else ⟨0, 0, 0, 0, 0⟩

theorem f17_r {H : Heap} {o o2 : Nat} {q : QS} (k : Int) (hq : QV H o o2 q) : RCall Try.prog 17 [.ptr o 0, .int .i64 k] H (.tup [.agg (pmeter q k).c, .bool (phas q k)]) := by
  refine .ofV hq fun H hq => ?_
  refine ACall.clean hq.cl (by simp only [go_sem]) ?_
  refine ACall.of h17 rfl mixed h17_d Try.func17 rfl call17 (by simp [Try.f17]) ?_
  unfold pmeter
  have hq' : QV (H ++ [some Meter.z.c]) o o2 q := hq.app (by simp only [go_sem])
  cases hh : phas q k
  · simp only [Try.f17, go_sem, Nat.reduceEqDiff, Nat.reduceLT, ↓reduceIte, Nat.reduceAdd, Nat.reduceSub, Nat.reduceMul, Nat.reduceBEq, Nat.reduceLeDiff, Nat.reduceDvd, reduceCtorEq, Int.reduceToNat, Int.reduceLT, Int.reduceLE, Nat.le_refl, Int.le_refl, false_implies, implies_true, frzSlot, List.take_length, List.mem_cons, List.not_mem_nil, or_false, forall_eq_or_imp, forall_eq, List.range_succ, List.range_zero, exists_eq_left', Option.some.injEq]
    refine RCallK.intro (f42_r k hq') ?_
    simp only [go_sem, Nat.reduceEqDiff, Nat.reduceLT, ↓reduceIte, Nat.reduceAdd, Nat.reduceSub, Nat.reduceMul, Nat.reduceBEq, Nat.reduceLeDiff, Nat.reduceDvd, reduceCtorEq, Int.reduceToNat, Int.reduceLT, Int.reduceLE, Nat.le_refl, Int.le_refl, false_implies, implies_true, frzSlot, List.take_length, List.mem_cons, List.not_mem_nil, or_false, forall_eq_or_imp, forall_eq, List.range_succ, List.range_zero, exists_eq_left', Option.some.injEq, hh]
    exact ⟨rfl, _, rfl⟩
  · obtain ⟨h0, h1, x, hx⟩ := phas_get hh
    simp only [Try.f17, go_sem, Nat.reduceEqDiff, Nat.reduceLT, ↓reduceIte, Nat.reduceAdd, Nat.reduceSub, Nat.reduceMul, Nat.reduceBEq, Nat.reduceLeDiff, Nat.reduceDvd, reduceCtorEq, Int.reduceToNat, Int.reduceLT, Int.reduceLE, Nat.le_refl, Int.le_refl, false_implies, implies_true, frzSlot, List.take_length, List.mem_cons, List.not_mem_nil, or_false, forall_eq_or_imp, forall_eq, List.range_succ, List.range_zero, exists_eq_left', Option.some.injEq]
    refine RCallK.intro (f42_r k hq') ?_
    simp only [go_sem, Nat.reduceEqDiff, Nat.reduceLT, ↓reduceIte, Nat.reduceAdd, Nat.reduceSub, Nat.reduceMul, Nat.reduceBEq, Nat.reduceLeDiff, Nat.reduceDvd, reduceCtorEq, Int.reduceToNat, Int.reduceLT, Int.reduceLE, Nat.le_refl, Int.le_refl, false_implies, implies_true, frzSlot, List.take_length, List.mem_cons, List.not_mem_nil, or_false, forall_eq_or_imp, forall_eq, List.range_succ, List.range_zero, exists_eq_left', Option.some.injEq, hh, hx, hq'.meter hx]
    exact ⟨_, rfl⟩

theorem f43_c (l : List Packet) (hl : l.length ≤ 1000000) : PCall Try.prog 43 [.sl none (l45 l)] (.sl none (l45 l)) := by
  refine PCall.ofB h43 mixed h43_d Try.func43 rfl call43 (by simp [Try.f43]) (by simp [pureL, AV.pure, go_sem]) (by simp [pureL, AV.pure, go_sem]) ?_
  have h1 : (l.length : Nat) * 88 ≤ 140737488355328 := by omega
  have h2 : l.length ≤ 9223372036854775807 := by omega
  simp only [Try.f43, go_sem, Nat.reduceEqDiff, Nat.reduceLT, ↓reduceIte, Nat.reduceAdd, Nat.reduceSub, Nat.reduceMul, Nat.reduceBEq, Nat.reduceLeDiff, Nat.reduceDvd, reduceCtorEq, Int.reduceToNat, Int.reduceLT, Int.reduceLE, Nat.le_refl, Int.le_refl, false_implies, implies_true, frzSlot, List.take_length, List.mem_cons, List.not_mem_nil, or_false, forall_eq_or_imp, forall_eq, List.range_succ, List.range_zero, exists_eq_left', Option.some.injEq]
  refine nilK_eql_any rfl (fun e => ?_) ?_
  · simp only [go_sem, Nat.reduceEqDiff, Nat.reduceLT, ↓reduceIte, Nat.reduceAdd, Nat.reduceSub, Nat.reduceMul, Nat.reduceBEq, Nat.reduceLeDiff, Nat.reduceDvd, reduceCtorEq, Int.reduceToNat, Int.reduceLT, Int.reduceLE, Nat.le_refl, Int.le_refl, false_implies, implies_true, frzSlot, List.take_length, List.mem_cons, List.not_mem_nil, or_false, forall_eq_or_imp, forall_eq, List.range_succ, List.range_zero, exists_eq_left', Option.some.injEq, e]
  · simp only [go_sem, Nat.reduceEqDiff, Nat.reduceLT, ↓reduceIte, Nat.reduceAdd, Nat.reduceSub, Nat.reduceMul, Nat.reduceBEq, Nat.reduceLeDiff, Nat.reduceDvd, reduceCtorEq, Int.reduceToNat, Int.reduceLT, Int.reduceLE, Nat.le_refl, Int.le_refl, false_implies, implies_true, frzSlot, List.take_length, List.mem_cons, List.not_mem_nil, or_false, forall_eq_or_imp, forall_eq, List.range_succ, List.range_zero, exists_eq_left', Option.some.injEq, h1, h2]

def pwaiting (q : QS) (k : Int) : List Packet := if phas q k = true then ((q.lines[k.toNat]?).map fun x => x.packets.drop x.due.length).getD [] else []
def pflying (q : QS) (k : Int) : List Packet := if phas q k = true then ((q.lines[k.toNat]?).map fun x => x.packets.take x.due.length).getD [] else []

/-- The lines are in order: no more times than packets, and not too many. -/
def QS.good (q : QS) : Prop := ∀ x ∈ q.lines, x.due.length ≤ x.packets.length ∧ x.packets.length ≤ 1000000

theorem f18_r {H : Heap} {o o2 : Nat} {q : QS} (k : Int) (hg : q.good) (hq : QV H o o2 q) : RCall Try.prog 18 [.ptr o 0, .int .i64 k] H (.sl none (l45 (pwaiting q k))) := by
  refine .ofV hq fun H hq => .lent ?_
  refine ACall.of h18 rfl mixed h18_d Try.func18 rfl call18 (by simp [Try.f18]) ?_
  unfold pwaiting
  cases hh : phas q k
  · simp only [Try.f18, go_sem, Nat.reduceEqDiff, Nat.reduceLT, ↓reduceIte, Nat.reduceAdd, Nat.reduceSub, Nat.reduceMul, Nat.reduceBEq, Nat.reduceLeDiff, Nat.reduceDvd, reduceCtorEq, Int.reduceToNat, Int.reduceLT, Int.reduceLE, Nat.le_refl, Int.le_refl, false_implies, implies_true, frzSlot, List.take_length, List.mem_cons, List.not_mem_nil, or_false, forall_eq_or_imp, forall_eq, List.range_succ, List.range_zero, exists_eq_left', Option.some.injEq]
    refine RCallK.intro (f42_r k hq) ?_
    simp only [go_sem, Nat.reduceEqDiff, Nat.reduceLT, ↓reduceIte, Nat.reduceAdd, Nat.reduceSub, Nat.reduceMul, Nat.reduceBEq, Nat.reduceLeDiff, Nat.reduceDvd, reduceCtorEq, Int.reduceToNat, Int.reduceLT, Int.reduceLE, Nat.le_refl, Int.le_refl, false_implies, implies_true, frzSlot, List.take_length, List.mem_cons, List.not_mem_nil, or_false, forall_eq_or_imp, forall_eq, List.range_succ, List.range_zero, exists_eq_left', Option.some.injEq, hh]
  · obtain ⟨h0, h1, x, hx⟩ := phas_get hh
    obtain ⟨g1, g2⟩ := hg x (List.mem_of_getElem? hx)
    have g3 : (x.due.length : Int) ≤ (x.packets.length : Int) := by omega
    simp only [Try.f18, go_sem, Nat.reduceEqDiff, Nat.reduceLT, ↓reduceIte, Nat.reduceAdd, Nat.reduceSub, Nat.reduceMul, Nat.reduceBEq, Nat.reduceLeDiff, Nat.reduceDvd, reduceCtorEq, Int.reduceToNat, Int.reduceLT, Int.reduceLE, Nat.le_refl, Int.le_refl, false_implies, implies_true, frzSlot, List.take_length, List.mem_cons, List.not_mem_nil, or_false, forall_eq_or_imp, forall_eq, List.range_succ, List.range_zero, exists_eq_left', Option.some.injEq]
    refine RCallK.intro (f42_r k hq) ?_
    simp only [go_sem, Nat.reduceEqDiff, Nat.reduceLT, ↓reduceIte, Nat.reduceAdd, Nat.reduceSub, Nat.reduceMul, Nat.reduceBEq, Nat.reduceLeDiff, Nat.reduceDvd, reduceCtorEq, Int.reduceToNat, Int.reduceLT, Int.reduceLE, Nat.le_refl, Int.le_refl, false_implies, implies_true, frzSlot, List.take_length, List.mem_cons, List.not_mem_nil, or_false, forall_eq_or_imp, forall_eq, List.range_succ, List.range_zero, exists_eq_left', Option.some.injEq, hh, hx, hq.packets hx, hq.due hx, g3, ite_self]
    refine ⟨Int.natCast_nonneg _, PCallK.intro (f43_c (x.packets.drop x.due.length) (by rw [List.length_drop]; omega)) ?_⟩
    simp only [go_sem, Nat.reduceEqDiff, Nat.reduceLT, ↓reduceIte, Nat.reduceAdd, Nat.reduceSub, Nat.reduceMul, Nat.reduceBEq, Nat.reduceLeDiff, Nat.reduceDvd, reduceCtorEq, Int.reduceToNat, Int.reduceLT, Int.reduceLE, Nat.le_refl, Int.le_refl, false_implies, implies_true, frzSlot, List.take_length, List.mem_cons, List.not_mem_nil, or_false, forall_eq_or_imp, forall_eq, List.range_succ, List.range_zero, exists_eq_left', Option.some.injEq]

theorem f19_r {H : Heap} {o o2 : Nat} {q : QS} (k : Int) (hg : q.good) (hq : QV H o o2 q) : RCall Try.prog 19 [.ptr o 0, .int .i64 k] H (.sl none (l45 (pflying q k))) := by
  refine .ofV hq fun H hq => .lent ?_
  refine ACall.of h19 rfl mixed h19_d Try.func19 rfl call19 (by simp [Try.f19]) ?_
  unfold pflying
  cases hh : phas q k
  · simp only [Try.f19, go_sem, Nat.reduceEqDiff, Nat.reduceLT, ↓reduceIte, Nat.reduceAdd, Nat.reduceSub, Nat.reduceMul, Nat.reduceBEq, Nat.reduceLeDiff, Nat.reduceDvd, reduceCtorEq, Int.reduceToNat, Int.reduceLT, Int.reduceLE, Nat.le_refl, Int.le_refl, false_implies, implies_true, frzSlot, List.take_length, List.mem_cons, List.not_mem_nil, or_false, forall_eq_or_imp, forall_eq, List.range_succ, List.range_zero, exists_eq_left', Option.some.injEq]
    refine RCallK.intro (f42_r k hq) ?_
    simp only [go_sem, Nat.reduceEqDiff, Nat.reduceLT, ↓reduceIte, Nat.reduceAdd, Nat.reduceSub, Nat.reduceMul, Nat.reduceBEq, Nat.reduceLeDiff, Nat.reduceDvd, reduceCtorEq, Int.reduceToNat, Int.reduceLT, Int.reduceLE, Nat.le_refl, Int.le_refl, false_implies, implies_true, frzSlot, List.take_length, List.mem_cons, List.not_mem_nil, or_false, forall_eq_or_imp, forall_eq, List.range_succ, List.range_zero, exists_eq_left', Option.some.injEq, hh]
  · obtain ⟨h0, h1, x, hx⟩ := phas_get hh
    obtain ⟨g1, g2⟩ := hg x (List.mem_of_getElem? hx)
    have g3 : (x.due.length : Int) ≤ (x.packets.length : Int) := by omega
    simp only [Try.f19, go_sem, Nat.reduceEqDiff, Nat.reduceLT, ↓reduceIte, Nat.reduceAdd, Nat.reduceSub, Nat.reduceMul, Nat.reduceBEq, Nat.reduceLeDiff, Nat.reduceDvd, reduceCtorEq, Int.reduceToNat, Int.reduceLT, Int.reduceLE, Nat.le_refl, Int.le_refl, false_implies, implies_true, frzSlot, List.take_length, List.mem_cons, List.not_mem_nil, or_false, forall_eq_or_imp, forall_eq, List.range_succ, List.range_zero, exists_eq_left', Option.some.injEq]
    refine RCallK.intro (f42_r k hq) ?_
    simp only [go_sem, Nat.reduceEqDiff, Nat.reduceLT, ↓reduceIte, Nat.reduceAdd, Nat.reduceSub, Nat.reduceMul, Nat.reduceBEq, Nat.reduceLeDiff, Nat.reduceDvd, reduceCtorEq, Int.reduceToNat, Int.reduceLT, Int.reduceLE, Nat.le_refl, Int.le_refl, false_implies, implies_true, frzSlot, List.take_length, List.mem_cons, List.not_mem_nil, or_false, forall_eq_or_imp, forall_eq, List.range_succ, List.range_zero, exists_eq_left', Option.some.injEq, hh, hx, hq.packets hx, hq.due hx, g3, ite_self]
    refine ⟨Int.natCast_nonneg _, PCallK.intro (f43_c (x.packets.take x.due.length) (by rw [List.length_take]; omega)) ?_⟩
    simp only [go_sem, Nat.reduceEqDiff, Nat.reduceLT, ↓reduceIte, Nat.reduceAdd, Nat.reduceSub, Nat.reduceMul, Nat.reduceBEq, Nat.reduceLeDiff, Nat.reduceDvd, reduceCtorEq, Int.reduceToNat, Int.reduceLT, Int.reduceLE, Nat.le_refl, Int.le_refl, false_implies, implies_true, frzSlot, List.take_length, List.mem_cons, List.not_mem_nil, or_false, forall_eq_or_imp, forall_eq, List.range_succ, List.range_zero, exists_eq_left', Option.some.injEq]

theorem f51_c (x : Ln) : PCall Try.prog 51 [.agg x.c] (.bool (decide (0 < x.packets.length))) := by
  refine PCall.of h51 mixed h51_d Try.func51 rfl call51 (by simp [Try.f51]) (by simp [pureL, AV.pure, go_sem]) rfl ?_
  cases hp : decide ((0 : Int) < x.packets.length)
  · have h1 : ¬ (0 : Int) < x.packets.length := by simpa using hp
    have h2 : decide (0 < x.packets.length) = false := by simp at hp ⊢; omega
    simp only [Try.f51, go_sem, Nat.reduceEqDiff, Nat.reduceLT, ↓reduceIte, Nat.reduceAdd, Nat.reduceSub, Nat.reduceMul, Nat.reduceBEq, Nat.reduceLeDiff, Nat.reduceDvd, reduceCtorEq, Int.reduceToNat, Int.reduceLT, Int.reduceLE, Nat.le_refl, Int.le_refl, false_implies, implies_true, frzSlot, List.take_length, List.mem_cons, List.not_mem_nil, or_false, forall_eq_or_imp, forall_eq, List.range_succ, List.range_zero, exists_eq_left', Option.some.injEq, hp, h1, h2]
  · have h1 : (0 : Int) < x.packets.length := by simpa using hp
    have h2 : decide (0 < x.packets.length) = true := by simp at hp ⊢; omega
    simp only [Try.f51, go_sem, Nat.reduceEqDiff, Nat.reduceLT, ↓reduceIte, Nat.reduceAdd, Nat.reduceSub, Nat.reduceMul, Nat.reduceBEq, Nat.reduceLeDiff, Nat.reduceDvd, reduceCtorEq, Int.reduceToNat, Int.reduceLT, Int.reduceLE, Nat.le_refl, Int.le_refl, false_implies, implies_true, frzSlot, List.take_length, List.mem_cons, List.not_mem_nil, or_false, forall_eq_or_imp, forall_eq, List.range_succ, List.range_zero, exists_eq_left', Option.some.injEq, hp, h1, h2]

def pidx (q : QS) : Int := match q.lines.findIdx? fun x => decide (0 < x.packets.length) with
  | some k => k
  | none => -1

theorem f56_r {H : Heap} {o o2 : Nat} {q : QS} (hn : q.lines.length ≤ 1000000) (hq : QV H o o2 q) : RCall Try.prog 56 [.msl o2 0 q.lines.length 10, .fn (.func 51) [] []] H (.int .i64 (pidx q)) := by
  refine .ofV hq fun H hq => ?_
  refine ACall.of h56 rfl mixed h56_d Try.func56 rfl call56 (by simp [Try.f56]) ?_
  simp only [Try.f56, go_sem, Nat.reduceEqDiff, Nat.reduceLT, ↓reduceIte, Nat.reduceAdd, Nat.reduceSub, Nat.reduceMul, Nat.reduceBEq, Nat.reduceLeDiff, Nat.reduceDvd, reduceCtorEq, Int.reduceToNat, Int.reduceLT, Int.reduceLE, Nat.le_refl, Int.le_refl, false_implies, implies_true, frzSlot, List.take_length, List.mem_cons, List.not_mem_nil, or_false, forall_eq_or_imp, forall_eq, List.range_succ, List.range_zero, exists_eq_left', Option.some.injEq]
  refine awp_wh (σ := Nat) (fun k => [(0, .msl o2 0 q.lines.length 10), (1, .fn (.func 51) [] []), (7, .int .i64 (q.lines.length : Int)), (8, .int .i64 (k : Int))]) (fun _ => H) (fun k => k ≤ q.lines.length ∧ ∀ x ∈ q.lines.take k, ¬ 0 < x.packets.length) (fun k => q.lines.length - k) 0 ⟨Nat.zero_le _, by simp⟩ rfl rfl ?_
  intro k ⟨hk, ht⟩
  by_cases hlt : k < q.lines.length
  · obtain ⟨x, hx⟩ : ∃ x, q.lines[k]? = some x := ⟨_, List.getElem?_eq_getElem hlt⟩
    have h0 : (0 : Int) ≤ (k : Int) := by omega
    have h1 : (k : Int) < (q.lines.length : Int) := by omega
    simp only [go_sem, Nat.reduceEqDiff, Nat.reduceLT, ↓reduceIte, Nat.reduceAdd, Nat.reduceSub, Nat.reduceMul, Nat.reduceBEq, Nat.reduceLeDiff, Nat.reduceDvd, reduceCtorEq, Int.reduceToNat, Int.reduceLT, Int.reduceLE, Nat.le_refl, Int.le_refl, false_implies, implies_true, frzSlot, List.take_length, List.mem_cons, List.not_mem_nil, or_false, forall_eq_or_imp, forall_eq, List.range_succ, List.range_zero, exists_eq_left', Option.some.injEq, h0, h1, hq.all hx]
    refine PCallK.intro (f51_c x) ?_
    cases hp : decide (0 < x.packets.length)
    · simp only [go_sem, Nat.reduceEqDiff, Nat.reduceLT, ↓reduceIte, Nat.reduceAdd, Nat.reduceSub, Nat.reduceMul, Nat.reduceBEq, Nat.reduceLeDiff, Nat.reduceDvd, reduceCtorEq, Int.reduceToNat, Int.reduceLT, Int.reduceLE, Nat.le_refl, Int.le_refl, false_implies, implies_true, frzSlot, List.take_length, List.mem_cons, List.not_mem_nil, or_false, forall_eq_or_imp, forall_eq, List.range_succ, List.range_zero, exists_eq_left', Option.some.injEq, w64s (show k < 9223372036854775807 by omega)]
      refine ⟨k + 1, ⟨by omega, fun y hy => ?_⟩, by omega, rfl, rfl⟩
      rw [take_snoc hx] at hy
      rcases List.mem_append.1 hy with h | h
      · exact ht y h
      · rw [List.mem_singleton.1 h]; simpa using hp
    · have hi : pidx q = k := by
        have : q.lines.findIdx? (fun x => decide (0 < x.packets.length)) = some k := by
          rw [List.findIdx?_eq_some_iff_getElem]
          obtain ⟨h3, h4⟩ := List.getElem?_eq_some_iff.1 hx
          refine ⟨h3, by rw [h4]; exact hp, fun j hj => ?_⟩
          have := ht (q.lines[j]'(by omega)) (List.mem_take_iff_getElem.2 ⟨j, by omega, rfl⟩)
          simpa using this
        unfold pidx; rw [this]
      simp only [go_sem, Nat.reduceEqDiff, Nat.reduceLT, ↓reduceIte, Nat.reduceAdd, Nat.reduceSub, Nat.reduceMul, Nat.reduceBEq, Nat.reduceLeDiff, Nat.reduceDvd, reduceCtorEq, Int.reduceToNat, Int.reduceLT, Int.reduceLE, Nat.le_refl, Int.le_refl, false_implies, implies_true, frzSlot, List.take_length, List.mem_cons, List.not_mem_nil, or_false, forall_eq_or_imp, forall_eq, List.range_succ, List.range_zero, exists_eq_left', Option.some.injEq, hi]
  · have h1 : ¬ (k : Int) < (q.lines.length : Int) := by omega
    have hi : pidx q = -1 := by
      have : q.lines.findIdx? (fun x => decide (0 < x.packets.length)) = none := by
        rw [List.findIdx?_eq_none_iff]
        rw [List.take_of_length_le (by omega)] at ht
        exact fun x hx => by simpa using ht x hx
      unfold pidx; rw [this]
    simp only [go_sem, Nat.reduceEqDiff, Nat.reduceLT, ↓reduceIte, Nat.reduceAdd, Nat.reduceSub, Nat.reduceMul, Nat.reduceBEq, Nat.reduceLeDiff, Nat.reduceDvd, reduceCtorEq, Int.reduceToNat, Int.reduceLT, Int.reduceLE, Nat.le_refl, Int.le_refl, false_implies, implies_true, frzSlot, List.take_length, List.mem_cons, List.not_mem_nil, or_false, forall_eq_or_imp, forall_eq, List.range_succ, List.range_zero, exists_eq_left', Option.some.injEq, h1, hi]

def pidle (q : QS) : Bool := q.lines.all fun x => x.packets.isEmpty

theorem pidx_idle (q : QS) : decide (0 ≤ pidx q) = !pidle q := by
  unfold pidx pidle
  cases h : q.lines.findIdx? fun x => decide (0 < x.packets.length) with
  | none =>
    rw [List.findIdx?_eq_none_iff] at h
    have : (q.lines.all fun x => x.packets.isEmpty) = true := by
      rw [List.all_eq_true]
      intro x hx
      have := h x hx
      cases hp : x.packets with
      | nil => rfl
      | cons a b => rw [hp] at this; simp at this
    rw [this]; rfl
  | some k =>
    rw [List.findIdx?_eq_some_iff_getElem] at h
    obtain ⟨h3, h4, _⟩ := h
    have : (q.lines.all fun x => x.packets.isEmpty) = false := by
      rw [List.all_eq_false]
      refine ⟨_, List.getElem_mem h3, ?_⟩
      cases hp : (q.lines[k]).packets with
      | nil => rw [hp] at h4; simp at h4
      | cons a b => simp
    rw [this]; simp

theorem f50_r {H : Heap} {o o2 : Nat} {q : QS} (hn : q.lines.length ≤ 1000000) (hq : QV H o o2 q) : RCall Try.prog 50 [.msl o2 0 q.lines.length 10, .fn (.func 51) [] []] H (.bool (!pidle q)) := by
  refine .ofV hq fun H hq => ?_
  refine ACall.of h50 rfl mixed h50_d Try.func50 rfl call50 (by simp [Try.f50]) ?_
  simp only [Try.f50, go_sem, Nat.reduceEqDiff, Nat.reduceLT, ↓reduceIte, Nat.reduceAdd, Nat.reduceSub, Nat.reduceMul, Nat.reduceBEq, Nat.reduceLeDiff, Nat.reduceDvd, reduceCtorEq, Int.reduceToNat, Int.reduceLT, Int.reduceLE, Nat.le_refl, Int.le_refl, false_implies, implies_true, frzSlot, List.take_length, List.mem_cons, List.not_mem_nil, or_false, forall_eq_or_imp, forall_eq, List.range_succ, List.range_zero, exists_eq_left', Option.some.injEq]
  refine RCallK.intro (f56_r hn hq) ?_
  simp only [go_sem, Nat.reduceEqDiff, Nat.reduceLT, ↓reduceIte, Nat.reduceAdd, Nat.reduceSub, Nat.reduceMul, Nat.reduceBEq, Nat.reduceLeDiff, Nat.reduceDvd, reduceCtorEq, Int.reduceToNat, Int.reduceLT, Int.reduceLE, Nat.le_refl, Int.le_refl, false_implies, implies_true, frzSlot, List.take_length, List.mem_cons, List.not_mem_nil, or_false, forall_eq_or_imp, forall_eq, List.range_succ, List.range_zero, exists_eq_left', Option.some.injEq, pidx_idle]

theorem f29_r {H : Heap} {o o2 : Nat} {q : QS} (hn : q.lines.length ≤ 1000000) (hq : QV H o o2 q) : RCall Try.prog 29 [.ptr o 0] H (.bool (pidle q)) := by
  refine .ofV hq fun H hq => ?_
  refine ACall.of h29 rfl mixed h29_d Try.func29 rfl call29 (by simp [Try.f29]) ?_
  simp only [Try.f29, go_sem, Nat.reduceEqDiff, Nat.reduceLT, ↓reduceIte, Nat.reduceAdd, Nat.reduceSub, Nat.reduceMul, Nat.reduceBEq, Nat.reduceLeDiff, Nat.reduceDvd, reduceCtorEq, Int.reduceToNat, Int.reduceLT, Int.reduceLE, Nat.le_refl, Int.le_refl, false_implies, implies_true, frzSlot, List.take_length, List.mem_cons, List.not_mem_nil, or_false, forall_eq_or_imp, forall_eq, List.range_succ, List.range_zero, exists_eq_left', Option.some.injEq, hq.lines]
  refine RCallK.intro (f50_r hn hq) ?_
  simp only [go_sem, Nat.reduceEqDiff, Nat.reduceLT, ↓reduceIte, Nat.reduceAdd, Nat.reduceSub, Nat.reduceMul, Nat.reduceBEq, Nat.reduceLeDiff, Nat.reduceDvd, reduceCtorEq, Int.reduceToNat, Int.reduceLT, Int.reduceLE, Nat.le_refl, Int.le_refl, false_implies, implies_true, frzSlot, List.take_length, List.mem_cons, List.not_mem_nil, or_false, forall_eq_or_imp, forall_eq, List.range_succ, List.range_zero, exists_eq_left', Option.some.injEq, Bool.not_not]
end Go.AI
