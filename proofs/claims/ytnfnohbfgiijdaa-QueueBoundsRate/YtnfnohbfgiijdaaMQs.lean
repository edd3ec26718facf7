/- Plain laws of the queues: what leaves a link at a tick, and how much. -/
import Derived.Test.YtnfnohbfgiijdaaMf
import Derived.Test.YtnfnohbfgiijdaaQq
set_option linter.unusedSimpArgs false
set_option linter.unusedVariables false
namespace Go.AI
open Go.Proofs

def ofLink (k : Int) (p : Passed) : Bool := p.link == k

theorem outs_of (t : Int) (k j : Nat) (x : Ln) : (x.outs t k).filter (ofLink j) = if k = j then x.outs t k else [] := by
  unfold Ln.outs
  rw [List.filter_map]
  by_cases h : k = j
  · subst h
    rw [if_pos rfl]
    congr 1
    rw [List.filter_eq_self]
    intro p _
    simp [ofLink, pc]
  · rw [if_neg h]
    have : (x.packets.take (lead t x.due)).filter (ofLink j ∘ pc k) = [] := by
      rw [List.filter_eq_nil_iff]
      intro p _
      simp only [Function.comp, ofLink, pc, beq_iff_eq]
      omega
    rw [this]; rfl

theorem outs_flat (t : Int) (j : Nat) : ∀ (l : List Ln) (s : Nat),
    ((l.mapIdx fun k x => x.outs t (k + s)).flatten).filter (ofLink j) = if s ≤ j then ((l[j - s]?).map (fun x => x.outs t j)).getD [] else [] := by
  intro l
  induction l with
  | nil => intro s; simp
  | cons x l ih =>
    intro s
    rw [List.mapIdx_cons, List.flatten_cons, List.filter_append]
    have e : (l.mapIdx fun k x => x.outs t (k + 1 + s)) = l.mapIdx fun k x => x.outs t (k + (s + 1)) := by
      congr 1; funext k x; rw [Nat.add_right_comm, Nat.add_assoc]
    rw [e, ih (s + 1), Nat.zero_add, outs_of]
    by_cases h : s = j
    · subst h
      rw [if_pos rfl, if_neg (by omega), if_pos (Nat.le_refl _)]
      simp
    · rw [if_neg h]
      by_cases h2 : s ≤ j
      · have h3 : s + 1 ≤ j := by omega
        rw [if_pos h2, if_pos h3]
        obtain ⟨d, rfl⟩ : ∃ d, j = s + 1 + d := ⟨j - (s + 1), by omega⟩
        rw [show s + 1 + d - (s + 1) = d by omega, show s + 1 + d - s = d + 1 by omega]
        rfl
      · rw [if_neg h2, if_neg (by omega)]; rfl

/-- What leaves the link j at a tick. -/
theorem tick_of (q : QS) (j : Nat) : (ptick q).2.filter (ofLink j) = ((q.lines[j]?).map (fun x => x.outs (pnow q) j)).getD [] := by
  have := outs_flat (pnow q) j q.lines 0
  rw [if_pos (Nat.zero_le _)] at this
  exact this

theorem lead_count (t : Int) : ∀ due : List Int, lead t due ≤ due.count t := by
  intro due
  induction due with
  | nil => simp [lead]
  | cons d due ih =>
    rw [lead_cons]
    by_cases h : d = t
    · subst h; simp; exact ih
    · rw [if_neg h]; exact Nat.zero_le _

def LRate (x : Ln) : Prop := ∀ d, x.due.count d ≤ x.capacity.toNat
def Rate (q : QS) : Prop := ∀ x ∈ q.lines, LRate x

section
variable {i : Nat} {n : Network} {ds : List Int} {q : QS}

theorem Rate.setL (h : Rate q) (k : Nat) {x : Ln} (hx : LRate x) : Rate (q.set k x) := fun y hy => by
  rcases List.mem_or_eq_of_mem_set hy with h1 | h1
  · exact h y h1
  · rw [h1]; exact hx

theorem tick_due {x : Ln} {t : Int} (h : LInv i t x) (ht : 0 ≤ t ∧ t ≤ 100000) (hi : i < 3000) : (x.tick (t + 1)).due = x.due.drop (lead (t + 1) x.due) ++ List.replicate (x.arrive (t + 1)).room (t + 1 + x.delay) ∧ (x.arrive (t + 1)).room ≤ x.capacity.toNat := by
  have hw : IntKind.i64.wrap (t + 1 + x.delay) = t + 1 + x.delay := by have := h.del; rw [w64 (by omega) (by omega)]
  constructor
  · show x.due.drop _ ++ List.replicate _ (IntKind.i64.wrap (t + 1 + x.delay)) = _
    rw [hw]
  · unfold Ln.room
    show (if x.down = true then 0 else min x.capacity.toNat _) ≤ _
    split <;> omega

theorem tick_rate {x : Ln} {t : Int} (h : LInv i t x) (ht : 0 ≤ t ∧ t ≤ 100000) (hi : i < 3000) (hr : LRate x) : LRate (x.tick (t + 1)) := fun d => by
  obtain ⟨h1, h2⟩ := tick_due h ht hi
  rw [h1, List.count_append]
  show _ ≤ x.capacity.toNat
  by_cases hd : d = t + 1 + x.delay
  · have h3 : (x.due.drop (lead (t + 1) x.due)).count d = 0 := by
      rw [List.count_eq_zero]
      intro hm
      have := (h.late d (List.mem_of_mem_drop hm)).2
      omega
    rw [h3, hd, List.count_replicate_self]; omega
  · have h3 : (List.replicate (x.arrive (t + 1)).room (t + 1 + x.delay)).count d = 0 := by
      rw [List.count_eq_zero]
      intro hm
      exact hd (List.mem_replicate.1 hm).2
    have h4 : (x.due.drop (lead (t + 1) x.due)).count d ≤ x.due.count d := (List.drop_sublist _ _).count_le d
    have := hr d
    omega

theorem pnow_eq (h : QInv i n ds q) : pnow q = q.now + 1 := by
  have := h.t0; have := h.i80
  unfold pnow; rw [w64 (by omega) (by omega)]

theorem ptick_lines (h : QInv i n ds q) : (ptick q).1.lines = q.lines.map (Ln.tick (q.now + 1)) := by
  unfold ptick; rw [pnow_eq h]

theorem rate_step (h : QInv i n ds q) (hi : i < 3000) (hr : Rate q) (x : Step) : Rate (pdo q x).1 := by
  have ht := h.t0
  have h100 := h.i80
  unfold pdo
  split
  · unfold pput
    split
    · split
      · rename_i y hy
        refine hr.setL _ ?_
        have := hr y (List.mem_of_getElem? hy)
        unfold Ln.put Ln.refuse Ln.add
        split
        · exact this
        · split <;> exact this
      · exact hr
    · exact hr
  · split
    · intro y hy
      rw [ptick_lines h] at hy
      obtain ⟨z, hz, rfl⟩ := List.mem_map.1 hy
      exact tick_rate (h.line z hz) (by omega) hi (hr z hz)
    · split
      · unfold pswitch
        split
        · split
          · rename_i y hy
            refine hr.setL _ ?_
            have := hr y (List.mem_of_getElem? hy)
            unfold Ln.switch
            cases (x.kind == 4)
            · intro d; simp
            · exact this
          · exact hr
        · exact hr
      · exact hr

theorem rate_new {len : Int} : Rate (newq n ds len) := by
  intro x hx
  obtain ⟨k, hk⟩ := List.getElem?_of_mem hx
  have : (List.zipWith pline n.links ds)[k]? = some x := hk
  rw [List.getElem?_zipWith] at this
  cases hl : n.links[k]? with
  | none => rw [hl] at this; cases this
  | some l =>
    cases hd : ds[k]? with
    | none => rw [hl, hd] at this; cases this
    | some d => rw [hl, hd] at this; cases this; intro d; simp [pline, Ln.z]

/-- At a tick at most as many leave a link as it has capacity. -/
theorem rate_out (h : QInv i n ds q) (hr : Rate q) {j : Nat} {l : Link} (hl : n.links[j]? = some l) : (((ptick q).2.filter (ofLink j)).length : Int) ≤ l.capacity := by
  rw [tick_of]
  have hlt := (List.getElem?_eq_some_iff.1 hl).1
  obtain ⟨x, hx⟩ : ∃ x, q.lines[j]? = some x := ⟨_, List.getElem?_eq_getElem (by rw [h.len]; exact hlt)⟩
  obtain ⟨l', h1, h2⟩ := h.cap j x hx
  rw [hl] at h1
  cases h1
  rw [hx]
  have h3 := (h.line x (List.mem_of_getElem? hx)).cap
  have h4 := hr x (List.mem_of_getElem? hx) (pnow q)
  have h5 := lead_count (pnow q) x.due
  simp only [Option.map_some, Option.getD_some, Ln.outs, List.length_map, List.length_take]
  omega
end

theorem outsf_len (t : Int) (M : Nat) : ∀ (l : List Ln) (s : Nat), (∀ x ∈ l, x.packets.length ≤ M) →
    ((l.mapIdx fun k x => x.outs t (k + s)).flatten).length ≤ l.length * M := by
  intro l
  induction l with
  | nil => intro s _; simp
  | cons x l ih =>
    intro s h
    have e : (l.mapIdx fun k x => x.outs t (k + 1 + s)) = l.mapIdx fun k x => x.outs t (k + (s + 1)) := by
      congr 1; funext k x; rw [Nat.add_right_comm, Nat.add_assoc]
    rw [List.mapIdx_cons, List.flatten_cons, List.length_append, e]
    have h1 := ih (s + 1) (fun y hy => h y (by simp [hy]))
    have h2 := h x (by simp)
    have h3 : (x.outs t (0 + s)).length ≤ x.packets.length := by simp [Ln.outs]; omega
    rw [List.length_cons, Nat.add_mul]
    omega

theorem tick_len {i : Nat} {n : Network} {ds : List Int} {q : QS} (h : QInv i n ds q) : (ptick q).2.length ≤ 3000000 := by
  have h1 := outsf_len (pnow q) 3000 q.lines 0 (fun x hx => by have := (h.line x hx).pi; have := h.i80; omega)
  have h2 : q.lines.length ≤ 1000 := by rw [h.len]; exact h.small
  have h3 := Nat.mul_le_mul_right 3000 h2
  exact Nat.le_trans h1 h3

/-- The sum of what lies between two places. -/
def psum (A : List Int) (k i : Nat) : Int := ((A.take i).drop k).sum
theorem psum_same (A : List Int) (k : Nat) : psum A k k = 0 := by
  unfold psum; rw [List.drop_of_length_le (by simp; omega)]; rfl
theorem psum_succ {A : List Int} {k i : Nat} {a : Int} (hk : k ≤ i) (h : A[i]? = some a) : psum A k (i + 1) = psum A k i + a := by
  unfold psum
  have hlt := (List.getElem?_eq_some_iff.1 h).1
  rw [take_snoc h, List.drop_append_of_le_length (by simp; omega), List.sum_append]
  simp
theorem psum_le {A : List Int} {c : Int} (hA : ∀ a ∈ A, 0 ≤ a ∧ a ≤ c) {k : Nat} : ∀ {m : Nat}, k + m ≤ A.length → 0 ≤ psum A k (k + m) ∧ psum A k (k + m) ≤ m * c := by
  intro m
  induction m with
  | zero => intro _; rw [Nat.add_zero, psum_same]; simp
  | succ m ih =>
    intro h
    obtain ⟨a, ha⟩ : ∃ a, A[k + m]? = some a := ⟨_, List.getElem?_eq_getElem (by omega)⟩
    obtain ⟨h1, h2⟩ := ih (by omega)
    have h3 := hA a (List.mem_of_getElem? ha)
    rw [← Nat.add_assoc, psum_succ (by omega) ha]
    refine ⟨by omega, ?_⟩
    have : ((m + 1 : Nat) : Int) * c = m * c + c := by rw [Int.natCast_add, Int.add_mul]; simp
    omega

theorem of_snoc {l : List Passed} {k : Nat} {x : Passed} (j : Int) (h : l[k]? = some x) : ((l.take (k + 1)).filter (ofLink j)).length = ((l.take k).filter (ofLink j)).length + if x.link = j then 1 else 0 := by
  rw [take_snoc h, List.filter_append, List.length_append]
  congr 1
  by_cases hx : x.link = j
  · simp [ofLink, hx]
  · simp [ofLink, hx]
end Go.AI

/- The law QueueBoundsRate answers true. -/
namespace Go.AI
open Go.Proofs
set_option maxRecDepth 20000

theorem f5_c (c : Case) (hn : c.n.small) (lk tk : Int) (htk : 0 ≤ tk ∧ tk ≤ 255) : PCall Try.prog 5 [.agg c.c, .int .i64 lk, .int .u8 tk] (.bool true) := by
  refine PCall.of h5 mixed h5_d Try.func5 rfl call5 (by simp [Try.f5]) (by simp [pureL, AV.pure, go_sem]) rfl ?_
  simp only [Try.f5, go_sem, Nat.reduceEqDiff, Nat.reduceLT, ↓reduceIte, Nat.reduceAdd, Nat.reduceSub, Nat.reduceMul, Nat.reduceBEq, Nat.reduceLeDiff, Nat.reduceDvd, reduceCtorEq, Int.reduceToNat, Int.reduceLT, Int.reduceLE, Nat.le_refl, Int.le_refl, false_implies, implies_true, frzSlot, List.take_length, List.mem_cons, List.not_mem_nil, or_false, forall_eq_or_imp, forall_eq, List.range_succ, List.range_zero, exists_eq_left', Option.some.injEq]
  refine ACallK.prop (f9_c c hn) ?_
  rintro _ ⟨b, rfl, hb⟩
  cases b with
  | false =>
    simp only [go_sem, Nat.reduceEqDiff, Nat.reduceLT, ↓reduceIte, Nat.reduceAdd, Nat.reduceSub, Nat.reduceMul, Nat.reduceBEq, Nat.reduceLeDiff, Nat.reduceDvd, reduceCtorEq, Int.reduceToNat, Int.reduceLT, Int.reduceLE, Nat.le_refl, Int.le_refl, false_implies, implies_true, frzSlot, List.take_length, List.mem_cons, List.not_mem_nil, or_false, forall_eq_or_imp, forall_eq, List.range_succ, List.range_zero, exists_eq_left', Option.some.injEq]
    refine PCallK.intro f10_c ?_
    simp only [go_sem, Nat.reduceEqDiff, Nat.reduceLT, ↓reduceIte, Nat.reduceAdd, Nat.reduceSub, Nat.reduceMul, Nat.reduceBEq, Nat.reduceLeDiff, Nat.reduceDvd, reduceCtorEq, Int.reduceToNat, Int.reduceLT, Int.reduceLE, Nat.le_refl, Int.le_refl, false_implies, implies_true, frzSlot, List.take_length, List.mem_cons, List.not_mem_nil, or_false, forall_eq_or_imp, forall_eq, List.range_succ, List.range_zero, exists_eq_left', Option.some.injEq]
  | true =>
    obtain ⟨g1, g2, g3, g4, g5⟩ := hb rfl
    have hcl : closedH [some c.c] := closedB_spec (by simp only [go_sem])
    by_cases l0 : lk < 0
    · simp only [go_sem, Nat.reduceEqDiff, Nat.reduceLT, ↓reduceIte, Nat.reduceAdd, Nat.reduceSub, Nat.reduceMul, Nat.reduceBEq, Nat.reduceLeDiff, Nat.reduceDvd, reduceCtorEq, Int.reduceToNat, Int.reduceLT, Int.reduceLE, Nat.le_refl, Int.le_refl, false_implies, implies_true, frzSlot, List.take_length, List.mem_cons, List.not_mem_nil, or_false, forall_eq_or_imp, forall_eq, List.range_succ, List.range_zero, exists_eq_left', Option.some.injEq, l0]
      refine PCallK.intro f10_c ?_
      simp only [go_sem, Nat.reduceEqDiff, Nat.reduceLT, ↓reduceIte, Nat.reduceAdd, Nat.reduceSub, Nat.reduceMul, Nat.reduceBEq, Nat.reduceLeDiff, Nat.reduceDvd, reduceCtorEq, Int.reduceToNat, Int.reduceLT, Int.reduceLE, Nat.le_refl, Int.le_refl, false_implies, implies_true, frzSlot, List.take_length, List.mem_cons, List.not_mem_nil, or_false, forall_eq_or_imp, forall_eq, List.range_succ, List.range_zero, exists_eq_left', Option.some.injEq]
    · by_cases l1 : (c.n.links.length : Int) ≤ lk
      · simp only [go_sem, Nat.reduceEqDiff, Nat.reduceLT, ↓reduceIte, Nat.reduceAdd, Nat.reduceSub, Nat.reduceMul, Nat.reduceBEq, Nat.reduceLeDiff, Nat.reduceDvd, reduceCtorEq, Int.reduceToNat, Int.reduceLT, Int.reduceLE, Nat.le_refl, Int.le_refl, false_implies, implies_true, frzSlot, List.take_length, List.mem_cons, List.not_mem_nil, or_false, forall_eq_or_imp, forall_eq, List.range_succ, List.range_zero, exists_eq_left', Option.some.injEq, l0, l1]
        refine PCallK.intro f10_c ?_
        simp only [go_sem, Nat.reduceEqDiff, Nat.reduceLT, ↓reduceIte, Nat.reduceAdd, Nat.reduceSub, Nat.reduceMul, Nat.reduceBEq, Nat.reduceLeDiff, Nat.reduceDvd, reduceCtorEq, Int.reduceToNat, Int.reduceLT, Int.reduceLE, Nat.le_refl, Int.le_refl, false_implies, implies_true, frzSlot, List.take_length, List.mem_cons, List.not_mem_nil, or_false, forall_eq_or_imp, forall_eq, List.range_succ, List.range_zero, exists_eq_left', Option.some.injEq]
      · simp only [go_sem, Nat.reduceEqDiff, Nat.reduceLT, ↓reduceIte, Nat.reduceAdd, Nat.reduceSub, Nat.reduceMul, Nat.reduceBEq, Nat.reduceLeDiff, Nat.reduceDvd, reduceCtorEq, Int.reduceToNat, Int.reduceLT, Int.reduceLE, Nat.le_refl, Int.le_refl, false_implies, implies_true, frzSlot, List.take_length, List.mem_cons, List.not_mem_nil, or_false, forall_eq_or_imp, forall_eq, List.range_succ, List.range_zero, exists_eq_left', Option.some.injEq, l0, l1]
        obtain ⟨j, rfl⟩ : ∃ j : Nat, lk = (j : Int) := ⟨lk.toNat, by omega⟩
        have hj : j < c.n.links.length := by omega
        obtain ⟨ln, hln⟩ : ∃ ln, c.n.links[j]? = some ln := ⟨_, List.getElem?_eq_getElem hj⟩
        have hcap := g3 ln (List.mem_of_getElem? hln)
        unfold capOk at hcap
        cases hf : rfine c.n c.delays c.length with
        | false =>
          refine ACallK.intro (f11_bad hcl c.n c.delays c.length hf) ?_
          rintro _ _ ⟨rfl, rfl⟩
          simp only [go_sem, Nat.reduceEqDiff, Nat.reduceLT, ↓reduceIte, Nat.reduceAdd, Nat.reduceSub, Nat.reduceMul, Nat.reduceBEq, Nat.reduceLeDiff, Nat.reduceDvd, reduceCtorEq, Int.reduceToNat, Int.reduceLT, Int.reduceLE, Nat.le_refl, Int.le_refl, false_implies, implies_true, frzSlot, List.take_length, List.mem_cons, List.not_mem_nil, or_false, forall_eq_or_imp, forall_eq, List.range_succ, List.range_zero, exists_eq_left', Option.some.injEq, Int.reduceBEq, Int.reduceBNe]
          refine PCallK.intro f10_c ?_
          simp only [go_sem, Nat.reduceEqDiff, Nat.reduceLT, ↓reduceIte, Nat.reduceAdd, Nat.reduceSub, Nat.reduceMul, Nat.reduceBEq, Nat.reduceLeDiff, Nat.reduceDvd, reduceCtorEq, Int.reduceToNat, Int.reduceLT, Int.reduceLE, Nat.le_refl, Int.le_refl, false_implies, implies_true, frzSlot, List.take_length, List.mem_cons, List.not_mem_nil, or_false, forall_eq_or_imp, forall_eq, List.range_succ, List.range_zero, exists_eq_left', Option.some.injEq]
        | true =>
          obtain ⟨s1, s2⟩ := new_step hf (by omega) (fun x hx => g3 x hx)
          refine ACallK.intro (f11_good hcl c.n c.delays c.length hf (by omega)) ?_
          rintro _ _ ⟨rfl, rfl⟩
          have B0 : Base (nbase [some c.c] c.n) 3 2 := nbase_ok hcl c.n
          have q0 : ∀ n len L l, (QX (nbase [some c.c] c.n ++ l) 3 2 n len L)[0]? = some (some c.c) := fun n len L l => rfl
          have q00 : ∀ n len L, (QX (nbase [some c.c] c.n) 3 2 n len L)[0]? = some (some c.c) := fun n len L => rfl
          simp only [go_sem, Nat.reduceEqDiff, Nat.reduceLT, ↓reduceIte, Nat.reduceAdd, Nat.reduceSub, Nat.reduceMul, Nat.reduceBEq, Nat.reduceLeDiff, Nat.reduceDvd, reduceCtorEq, Int.reduceToNat, Int.reduceLT, Int.reduceLE, Nat.le_refl, Int.le_refl, false_implies, implies_true, frzSlot, List.take_length, List.mem_cons, List.not_mem_nil, or_false, forall_eq_or_imp, forall_eq, List.range_succ, List.range_zero, exists_eq_left', Option.some.injEq, Nat.reduceAdd, Int.reduceBEq, Int.reduceBNe]
          generalize nbase [some c.c] c.n = H1 at *
          simp only [go_sem, Nat.reduceEqDiff, Nat.reduceLT, ↓reduceIte, Nat.reduceAdd, Nat.reduceSub, Nat.reduceMul, Nat.reduceBEq, Nat.reduceLeDiff, Nat.reduceDvd, reduceCtorEq, Int.reduceToNat, Int.reduceLT, Int.reduceLE, Nat.le_refl, Int.le_refl, false_implies, implies_true, frzSlot, List.take_length, List.mem_cons, List.not_mem_nil, or_false, forall_eq_or_imp, forall_eq, List.range_succ, List.range_zero, exists_eq_left', Option.some.injEq, q0, q00]
          refine awp_wh (σ := Nat × QS × List Int × Heap) (fun s => [(1, .int .i64 (j : Int)), (2, .int .u8 tk), (3, .ptr 0 0), (7, .ptr 3 0), (9, .sl (some 1) (l3 s.2.2.1)), (51, .sl none (l47 c.l)), (52, .int .i64 (c.l.length : Int)), (53, .int .i64 (s.1 : Int))])
            (fun s => QH (H1 ++ s.2.2.2) 3 2 s.2.1)
            (fun s => s.1 ≤ c.l.length ∧ QInv s.1 c.n c.delays s.2.1 ∧ Rate s.2.1 ∧ (∀ a ∈ s.2.2.1, 0 ≤ a ∧ a ≤ ln.capacity) ∧ s.2.2.1.length ≤ s.1 ∧ Base (H1 ++ s.2.2.2) 3 2)
            (fun s => c.l.length - s.1) (0, newq c.n c.delays c.length, [], []) ⟨Nat.zero_le _, s2, rate_new, by simp, Nat.zero_le _, by simpa using B0⟩ rfl (by simp) ?_
          rintro ⟨k, q, A, g⟩ ⟨hk, hI, hR, hA, hAl, B⟩
          dsimp only at hk hI hR hA hAl B ⊢
          by_cases hlt : k < c.l.length
          · obtain ⟨x, hx⟩ : ∃ x, c.l[k]? = some x := ⟨_, List.getElem?_eq_getElem hlt⟩
            have k0 : (0 : Int) ≤ (k : Int) := by omega
            have k1 : (k : Int) < (c.l.length : Int) := by omega
            have hi : k < 3000 := by omega
            have Bx : Base (H1 ++ (g ++ [some x.c])) 3 2 := by
              have := B.app (cs := x.c) (by simp only [go_sem])
              simpa using this
            simp only [go_sem, Nat.reduceEqDiff, Nat.reduceLT, ↓reduceIte, Nat.reduceAdd, Nat.reduceSub, Nat.reduceMul, Nat.reduceBEq, Nat.reduceLeDiff, Nat.reduceDvd, reduceCtorEq, Int.reduceToNat, Int.reduceLT, Int.reduceLE, Nat.le_refl, Int.le_refl, false_implies, implies_true, frzSlot, List.take_length, List.mem_cons, List.not_mem_nil, or_false, forall_eq_or_imp, forall_eq, List.range_succ, List.range_zero, exists_eq_left', Option.some.injEq, k0, k1, l47_get hx, B0.push2, QX_len, B0.sa, B0.ga, B0.g0, B0.s0, app_at0, app_at, app_set0, app_set, List.length_append]
            refine ACallK.intro (f13_a Bx q hI.fine x) ?_
            rintro _ _ ⟨rfl, rfl⟩
            obtain ⟨_, hI'⟩ := do_step hI hi x
            have hR' := rate_step hI hi hR x
            by_cases e2 : x.kind = 2
            · have eb : (x.kind != 2) = false := by simp [e2]
              have ho : (pdo q x).2.1 = (ptick q).2 := by unfold pdo; rw [if_neg (by omega), if_pos e2]
              rw [ho]
              simp only [go_sem, Nat.reduceEqDiff, Nat.reduceLT, ↓reduceIte, Nat.reduceAdd, Nat.reduceSub, Nat.reduceMul, Nat.reduceBEq, Nat.reduceLeDiff, Nat.reduceDvd, reduceCtorEq, Int.reduceToNat, Int.reduceLT, Int.reduceLE, Nat.le_refl, Int.le_refl, false_implies, implies_true, frzSlot, List.take_length, List.mem_cons, List.not_mem_nil, or_false, forall_eq_or_imp, forall_eq, List.range_succ, List.range_zero, exists_eq_left', Option.some.injEq, B0.push2, QX_len, B0.sa, B0.ga, B0.g0, B0.s0, app_at0, app_at, app_set0, app_set, List.length_append, eb]
              have hT := tick_len hI
              have hro := rate_out hI hR hln
              have hpd : (pdo q x).1 = (ptick q).1 := by unfold pdo; rw [if_neg (by omega), if_pos e2]
              rw [hpd] at hI' hR' ⊢
              generalize hTe : (ptick q).2 = T at *
              refine awp_wh (σ := Nat × Heap) (fun s => [(1, .int .i64 (j : Int)), (2, .int .u8 tk), (3, .ptr 0 0), (7, .ptr 3 0), (9, .sl (some 1) (l3 A)), (14, .int .i64 (((T.take s.1).filter (ofLink j)).length : Int)), (51, .sl none (l47 c.l)), (52, .int .i64 (c.l.length : Int)), (53, .int .i64 (k : Int)), (66, .sl none (l57 T)), (67, .int .i64 (T.length : Int)), (68, .int .i64 (s.1 : Int))])
                (fun s => QH (H1 ++ (g ++ some x.c :: s.2)) 3 2 (ptick q).1)
                (fun s => s.1 ≤ T.length ∧ Base (H1 ++ (g ++ some x.c :: s.2)) 3 2)
                (fun s => T.length - s.1) (0, []) ⟨Nat.zero_le _, Bx⟩ rfl rfl ?_
              rintro ⟨m, f⟩ ⟨hm, Bf⟩
              dsimp only at hm Bf ⊢
              by_cases hmt : m < T.length
              · obtain ⟨y, hy⟩ : ∃ y, T[m]? = some y := ⟨_, List.getElem?_eq_getElem hmt⟩
                have m0 : (0 : Int) ≤ (m : Int) := by omega
                have m1 : (m : Int) < (T.length : Int) := by omega
                have Bn : Base (H1 ++ (g ++ some x.c :: (f ++ [some y.c]))) 3 2 := by
                  have := Bf.app (cs := y.c) (by simp only [go_sem])
                  simpa using this
                have hsn := of_snoc (j : Int) hy
                have hfl : ((T.take m).filter (ofLink j)).length ≤ 3000000 := Nat.le_trans (List.length_filter_le _ _) (by rw [List.length_take]; omega)
                by_cases hyl : y.link = (j : Int)
                · have hyb : (y.link == (j : Int)) = true := by simp [hyl]
                  rw [if_pos hyl] at hsn
                  simp only [go_sem, Nat.reduceEqDiff, Nat.reduceLT, ↓reduceIte, Nat.reduceAdd, Nat.reduceSub, Nat.reduceMul, Nat.reduceBEq, Nat.reduceLeDiff, Nat.reduceDvd, reduceCtorEq, Int.reduceToNat, Int.reduceLT, Int.reduceLE, Nat.le_refl, Int.le_refl, false_implies, implies_true, frzSlot, List.take_length, List.mem_cons, List.not_mem_nil, or_false, forall_eq_or_imp, forall_eq, List.range_succ, List.range_zero, exists_eq_left', Option.some.injEq, m0, m1, l57_get hy, B0.push2, QX_len, B0.sa, B0.ga, B0.g0, B0.s0, app_at0, app_at, app_set0, app_set, List.length_append, hyb, w64s (show m < 9223372036854775807 by omega), w64s (show ((T.take m).filter (ofLink j)).length < 9223372036854775807 by omega)]
                  exact ⟨(m + 1, f ++ [some y.c]), ⟨hmt, Bn⟩, by dsimp only; omega, by rw [hsn], by simp⟩
                · have hyb : (y.link == (j : Int)) = false := by simp [hyl]
                  rw [if_neg hyl] at hsn
                  simp only [go_sem, Nat.reduceEqDiff, Nat.reduceLT, ↓reduceIte, Nat.reduceAdd, Nat.reduceSub, Nat.reduceMul, Nat.reduceBEq, Nat.reduceLeDiff, Nat.reduceDvd, reduceCtorEq, Int.reduceToNat, Int.reduceLT, Int.reduceLE, Nat.le_refl, Int.le_refl, false_implies, implies_true, frzSlot, List.take_length, List.mem_cons, List.not_mem_nil, or_false, forall_eq_or_imp, forall_eq, List.range_succ, List.range_zero, exists_eq_left', Option.some.injEq, m0, m1, l57_get hy, B0.push2, QX_len, B0.sa, B0.ga, B0.g0, B0.s0, app_at0, app_at, app_set0, app_set, List.length_append, hyb, w64s (show m < 9223372036854775807 by omega)]
                  exact ⟨(m + 1, f ++ [some y.c]), ⟨hmt, Bn⟩, by dsimp only; omega, by rw [hsn]; rfl, by simp⟩
              · have m1 : ¬ (m : Int) < (T.length : Int) := by omega
                have hme : m = T.length := by omega
                subst hme
                have a1 : (A.length + 1) * 8 ≤ 140737488355328 := by omega
                have a2 : A.length + 1 ≤ 9223372036854775807 := by omega
                simp only [go_sem, Nat.reduceEqDiff, Nat.reduceLT, ↓reduceIte, Nat.reduceAdd, Nat.reduceSub, Nat.reduceMul, Nat.reduceBEq, Nat.reduceLeDiff, Nat.reduceDvd, reduceCtorEq, Int.reduceToNat, Int.reduceLT, Int.reduceLE, Nat.le_refl, Int.le_refl, false_implies, implies_true, frzSlot, List.take_length, List.mem_cons, List.not_mem_nil, or_false, forall_eq_or_imp, forall_eq, List.range_succ, List.range_zero, exists_eq_left', Option.some.injEq, m1, w64s (show k < 9223372036854775807 by omega), a1, a2]
                refine ⟨(k + 1, (ptick q).1, A ++ [((T.filter (ofLink j)).length : Int)], g ++ some x.c :: f), ⟨hlt, hI', hR', ?_, by simp [hAl], Bf⟩, by dsimp only; omega, by simp [l3], rfl⟩
                intro a ha
                rcases List.mem_append.1 ha with h1 | h1
                · exact hA a h1
                · rw [List.mem_singleton.1 h1]; omega
            · have eb : (x.kind != 2) = true := by simp [e2]
              simp only [go_sem, Nat.reduceEqDiff, Nat.reduceLT, ↓reduceIte, Nat.reduceAdd, Nat.reduceSub, Nat.reduceMul, Nat.reduceBEq, Nat.reduceLeDiff, Nat.reduceDvd, reduceCtorEq, Int.reduceToNat, Int.reduceLT, Int.reduceLE, Nat.le_refl, Int.le_refl, false_implies, implies_true, frzSlot, List.take_length, List.mem_cons, List.not_mem_nil, or_false, forall_eq_or_imp, forall_eq, List.range_succ, List.range_zero, exists_eq_left', Option.some.injEq, B0.push2, QX_len, B0.sa, B0.ga, B0.g0, B0.s0, app_at0, app_at, app_set0, app_set, List.length_append, eb, w64s (show k < 9223372036854775807 by omega)]
              exact ⟨(k + 1, (pdo q x).1, A, g ++ [some x.c]), ⟨hlt, hI', hR', hA, by dsimp only; omega, Bx⟩, by dsimp only; omega, rfl, rfl⟩
          · have k1 : ¬ (k : Int) < (c.l.length : Int) := by omega
            have hw : ∃ w : Nat, IntKind.i64.wrap ((IntKind.i64.wrap tk).tmod 10 + 1) = (w : Int) ∧ w ≤ 10 := by
              have h1 : IntKind.i64.wrap tk = tk := w64 (by omega) (by omega)
              have h2 : tk.tmod 10 = tk % 10 := Int.tmod_eq_emod_of_nonneg htk.1
              rw [h1, h2, w64 (by omega) (by omega)]
              exact ⟨(tk % 10 + 1).toNat, by omega, by omega⟩
            obtain ⟨w, hw, hw10⟩ := hw
            simp only [go_sem, Nat.reduceEqDiff, Nat.reduceLT, ↓reduceIte, Nat.reduceAdd, Nat.reduceSub, Nat.reduceMul, Nat.reduceBEq, Nat.reduceLeDiff, Nat.reduceDvd, reduceCtorEq, Int.reduceToNat, Int.reduceLT, Int.reduceLE, Nat.le_refl, Int.le_refl, false_implies, implies_true, frzSlot, List.take_length, List.mem_cons, List.not_mem_nil, or_false, forall_eq_or_imp, forall_eq, List.range_succ, List.range_zero, exists_eq_left', Option.some.injEq, k1, hw]
            refine ⟨by decide, ?_⟩
            refine awp_wh (σ := Nat) (fun s => [(1, .int .i64 (j : Int)), (3, .ptr 0 0), (9, .sl (some 1) (l3 A)), (17, .int .i64 (w : Int)), (89, .int .i64 (A.length : Int)), (90, .int .i64 (s : Int))])
              (fun _ => QH (H1 ++ g) 3 2 q) (fun s => s ≤ A.length) (fun s => A.length - s) 0 (Nat.zero_le _) rfl rfl ?_
            intro a ha
            by_cases hal : a < A.length
            · have a1 : (a : Int) < (A.length : Int) := by omega
              simp only [go_sem, Nat.reduceEqDiff, Nat.reduceLT, ↓reduceIte, Nat.reduceAdd, Nat.reduceSub, Nat.reduceMul, Nat.reduceBEq, Nat.reduceLeDiff, Nat.reduceDvd, reduceCtorEq, Int.reduceToNat, Int.reduceLT, Int.reduceLE, Nat.le_refl, Int.le_refl, false_implies, implies_true, frzSlot, List.take_length, List.mem_cons, List.not_mem_nil, or_false, forall_eq_or_imp, forall_eq, List.range_succ, List.range_zero, exists_eq_left', Option.some.injEq, a1]
              refine awp_wh (σ := Nat) (fun s => [(1, .int .i64 (j : Int)), (3, .ptr 0 0), (9, .sl (some 1) (l3 A)), (17, .int .i64 (w : Int)), (18, .int .i64 (a : Int)), (19, .int .i64 (psum A a (a + s))), (20, .int .i64 ((a + s : Nat) : Int)), (89, .int .i64 (A.length : Int)), (90, .int .i64 (a : Int))])
                (fun _ => QH (H1 ++ g) 3 2 q) (fun s => a + s ≤ A.length ∧ s ≤ w) (fun s => A.length - s) 0 ⟨by omega, Nat.zero_le _⟩ (by rw [Nat.add_zero, psum_same]) rfl ?_
              rintro s ⟨hs1, hs2⟩
              have wa : IntKind.i64.wrap ((a : Int) + (w : Int)) = (a : Int) + (w : Int) := w64 (by omega) (by omega)
              have hps := psum_le hA (k := a) (m := s) hs1
              have hmul : (s : Int) * ln.capacity ≤ 10 * 1048576 := by
                have h1 : (s : Int) * ln.capacity ≤ 10 * ln.capacity := Int.mul_le_mul_of_nonneg_right (by omega) hcap.1
                omega
              by_cases hc : ((a + s : Nat) : Int) < if (a : Int) + (w : Int) < (A.length : Int) then (a : Int) + (w : Int) else (A.length : Int)
              · have hlt2 : a + s < A.length := by split at hc <;> omega
                have hsw : s < w := by split at hc <;> omega
                obtain ⟨v, hv⟩ : ∃ v, A[a + s]? = some v := ⟨_, List.getElem?_eq_getElem hlt2⟩
                have hvc := hA v (List.mem_of_getElem? hv)
                have p0 : (0 : Int) ≤ ((a + s : Nat) : Int) := by omega
                have ws : IntKind.i64.wrap (psum A a (a + s) + v) = psum A a (a + s) + v := w64 (by omega) (by omega)
                simp only [go_sem, Nat.reduceEqDiff, Nat.reduceLT, ↓reduceIte, Nat.reduceAdd, Nat.reduceSub, Nat.reduceMul, Nat.reduceBEq, Nat.reduceLeDiff, Nat.reduceDvd, reduceCtorEq, Int.reduceToNat, Int.reduceLT, Int.reduceLE, Nat.le_refl, Int.le_refl, false_implies, implies_true, frzSlot, List.take_length, List.mem_cons, List.not_mem_nil, or_false, forall_eq_or_imp, forall_eq, List.range_succ, List.range_zero, exists_eq_left', Option.some.injEq, wa, hc, p0, l3_get hv, ws, w64s (show a + s < 9223372036854775807 by omega)]
                refine ⟨s + 1, ⟨by omega, hsw⟩, by omega, ?_, rfl⟩
                rw [← Nat.add_assoc, psum_succ (by omega) hv]
              · have p0 : (0 : Int) ≤ (j : Int) := by omega
                have hm2 : (w : Int) * ln.capacity ≤ 10 * 1048576 := by
                  have h1 : (w : Int) * ln.capacity ≤ 10 * ln.capacity := Int.mul_le_mul_of_nonneg_right (by omega) hcap.1
                  omega
                have hm0 : 0 ≤ (w : Int) * ln.capacity := Int.mul_nonneg (by omega) hcap.1
                have wm : IntKind.i64.wrap ((w : Int) * ln.capacity) = (w : Int) * ln.capacity := w64 (by omega) (by omega)
                have hle : ¬ (w : Int) * ln.capacity < psum A a (a + s) := by
                  have h1 : (s : Int) * ln.capacity ≤ (w : Int) * ln.capacity := Int.mul_le_mul_of_nonneg_right (by omega) hcap.1
                  omega
                simp only [go_sem, Nat.reduceEqDiff, Nat.reduceLT, ↓reduceIte, Nat.reduceAdd, Nat.reduceSub, Nat.reduceMul, Nat.reduceBEq, Nat.reduceLeDiff, Nat.reduceDvd, reduceCtorEq, Int.reduceToNat, Int.reduceLT, Int.reduceLE, Nat.le_refl, Int.le_refl, false_implies, implies_true, frzSlot, List.take_length, List.mem_cons, List.not_mem_nil, or_false, forall_eq_or_imp, forall_eq, List.range_succ, List.range_zero, exists_eq_left', Option.some.injEq, wa, hc, q0, p0, l65_get hln, wm, hle, w64s (show a < 9223372036854775807 by omega)]
                exact ⟨a + 1, hal, by omega, rfl, rfl⟩
            · have a1 : ¬ (a : Int) < (A.length : Int) := by omega
              simp only [go_sem, Nat.reduceEqDiff, Nat.reduceLT, ↓reduceIte, Nat.reduceAdd, Nat.reduceSub, Nat.reduceMul, Nat.reduceBEq, Nat.reduceLeDiff, Nat.reduceDvd, reduceCtorEq, Int.reduceToNat, Int.reduceLT, Int.reduceLE, Nat.le_refl, Int.le_refl, false_implies, implies_true, frzSlot, List.take_length, List.mem_cons, List.not_mem_nil, or_false, forall_eq_or_imp, forall_eq, List.range_succ, List.range_zero, exists_eq_left', Option.some.injEq, a1]
              refine PCallK.intro f10_c ?_
              simp only [go_sem, Nat.reduceEqDiff, Nat.reduceLT, ↓reduceIte, Nat.reduceAdd, Nat.reduceSub, Nat.reduceMul, Nat.reduceBEq, Nat.reduceLeDiff, Nat.reduceDvd, reduceCtorEq, Int.reduceToNat, Int.reduceLT, Int.reduceLE, Nat.le_refl, Int.le_refl, false_implies, implies_true, frzSlot, List.take_length, List.mem_cons, List.not_mem_nil, or_false, forall_eq_or_imp, forall_eq, List.range_succ, List.range_zero, exists_eq_left', Option.some.injEq]
end Go.AI
