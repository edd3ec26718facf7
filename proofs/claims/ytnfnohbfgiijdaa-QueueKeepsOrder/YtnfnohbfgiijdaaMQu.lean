/- Plain laws of the queues: what leaves a link at a tick, and how much. -/
import Derived.Test.YtnfnohbfgiijdaaMf
import Derived.Test.YtnfnohbfgiijdaaQq
set_option linter.unusedSimpArgs false
set_option linter.unusedVariables false
namespace Go.AI
open Go.Proofs

def ofLink (k : Int) (p : Passed) : Bool := p.link == k

theorem outs_of (t : Int) (k j : Nat) (x : Ln) : (x.outs t k).filter (ofLink j) = if k = j then x.outs t k else [] := by
  unfold Ln.outs
  rw [List.filter_map]
  by_cases h : k = j
  · subst h
    rw [if_pos rfl]
    congr 1
    rw [List.filter_eq_self]
    intro p _
    simp [ofLink, pc]
  · rw [if_neg h]
    have : (x.packets.take (lead t x.due)).filter (ofLink j ∘ pc k) = [] := by
      rw [List.filter_eq_nil_iff]
      intro p _
      simp only [Function.comp, ofLink, pc, beq_iff_eq]
      omega
    rw [this]; rfl

theorem outs_flat (t : Int) (j : Nat) : ∀ (l : List Ln) (s : Nat),
    ((l.mapIdx fun k x => x.outs t (k + s)).flatten).filter (ofLink j) = if s ≤ j then ((l[j - s]?).map (fun x => x.outs t j)).getD [] else [] := by
  intro l
  induction l with
  | nil => intro s; simp
  | cons x l ih =>
    intro s
    rw [List.mapIdx_cons, List.flatten_cons, List.filter_append]
    have e : (l.mapIdx fun k x => x.outs t (k + 1 + s)) = l.mapIdx fun k x => x.outs t (k + (s + 1)) := by
      congr 1; funext k x; rw [Nat.add_right_comm, Nat.add_assoc]
    rw [e, ih (s + 1), Nat.zero_add, outs_of]
    by_cases h : s = j
    · subst h
      rw [if_pos rfl, if_neg (by omega), if_pos (Nat.le_refl _)]
      simp
    · rw [if_neg h]
      by_cases h2 : s ≤ j
      · have h3 : s + 1 ≤ j := by omega
        rw [if_pos h2, if_pos h3]
        obtain ⟨d, rfl⟩ : ∃ d, j = s + 1 + d := ⟨j - (s + 1), by omega⟩
        rw [show s + 1 + d - (s + 1) = d by omega, show s + 1 + d - s = d + 1 by omega]
        rfl
      · rw [if_neg h2, if_neg (by omega)]; rfl

/-- What leaves the link j at a tick. -/
theorem tick_of (q : QS) (j : Nat) : (ptick q).2.filter (ofLink j) = ((q.lines[j]?).map (fun x => x.outs (pnow q) j)).getD [] := by
  have := outs_flat (pnow q) j q.lines 0
  rw [if_pos (Nat.zero_le _)] at this
  exact this

theorem lead_count (t : Int) : ∀ due : List Int, lead t due ≤ due.count t := by
  intro due
  induction due with
  | nil => simp [lead]
  | cons d due ih =>
    rw [lead_cons]
    by_cases h : d = t
    · subst h; simp; exact ih
    · rw [if_neg h]; exact Nat.zero_le _

def LRate (x : Ln) : Prop := ∀ d, x.due.count d ≤ x.capacity.toNat
def Rate (q : QS) : Prop := ∀ x ∈ q.lines, LRate x

section
variable {i : Nat} {n : Network} {ds : List Int} {q : QS}

theorem Rate.setL (h : Rate q) (k : Nat) {x : Ln} (hx : LRate x) : Rate (q.set k x) := fun y hy => by
  rcases List.mem_or_eq_of_mem_set hy with h1 | h1
  · exact h y h1
  · rw [h1]; exact hx

theorem tick_due {x : Ln} {t : Int} (h : LInv i t x) (ht : 0 ≤ t ∧ t ≤ 100000) (hi : i < 3000) : (x.tick (t + 1)).due = x.due.drop (lead (t + 1) x.due) ++ List.replicate (x.arrive (t + 1)).room (t + 1 + x.delay) ∧ (x.arrive (t + 1)).room ≤ x.capacity.toNat := by
  have hw : IntKind.i64.wrap (t + 1 + x.delay) = t + 1 + x.delay := by have := h.del; rw [w64 (by omega) (by omega)]
  constructor
  · show x.due.drop _ ++ List.replicate _ (IntKind.i64.wrap (t + 1 + x.delay)) = _
    rw [hw]
  · unfold Ln.room
    show (if x.down = true then 0 else min x.capacity.toNat _) ≤ _
    split <;> omega

theorem tick_rate {x : Ln} {t : Int} (h : LInv i t x) (ht : 0 ≤ t ∧ t ≤ 100000) (hi : i < 3000) (hr : LRate x) : LRate (x.tick (t + 1)) := fun d => by
  obtain ⟨h1, h2⟩ := tick_due h ht hi
  rw [h1, List.count_append]
  show _ ≤ x.capacity.toNat
  by_cases hd : d = t + 1 + x.delay
  · have h3 : (x.due.drop (lead (t + 1) x.due)).count d = 0 := by
      rw [List.count_eq_zero]
      intro hm
      have := (h.late d (List.mem_of_mem_drop hm)).2
      omega
    rw [h3, hd, List.count_replicate_self]; omega
  · have h3 : (List.replicate (x.arrive (t + 1)).room (t + 1 + x.delay)).count d = 0 := by
      rw [List.count_eq_zero]
      intro hm
      exact hd (List.mem_replicate.1 hm).2
    have h4 : (x.due.drop (lead (t + 1) x.due)).count d ≤ x.due.count d := (List.drop_sublist _ _).count_le d
    have := hr d
    omega

theorem pnow_eq (h : QInv i n ds q) : pnow q = q.now + 1 := by
  have := h.t0; have := h.i80
  unfold pnow; rw [w64 (by omega) (by omega)]

theorem ptick_lines (h : QInv i n ds q) : (ptick q).1.lines = q.lines.map (Ln.tick (q.now + 1)) := by
  unfold ptick; rw [pnow_eq h]

theorem rate_step (h : QInv i n ds q) (hi : i < 3000) (hr : Rate q) (x : Step) : Rate (pdo q x).1 := by
  have ht := h.t0
  have h100 := h.i80
  unfold pdo
  split
  · unfold pput
    split
    · split
      · rename_i y hy
        refine hr.setL _ ?_
        have := hr y (List.mem_of_getElem? hy)
        unfold Ln.put Ln.refuse Ln.add
        split
        · exact this
        · split <;> exact this
      · exact hr
    · exact hr
  · split
    · intro y hy
      rw [ptick_lines h] at hy
      obtain ⟨z, hz, rfl⟩ := List.mem_map.1 hy
      exact tick_rate (h.line z hz) (by omega) hi (hr z hz)
    · split
      · unfold pswitch
        split
        · split
          · rename_i y hy
            refine hr.setL _ ?_
            have := hr y (List.mem_of_getElem? hy)
            unfold Ln.switch
            cases (x.kind == 4)
            · intro d; simp
            · exact this
          · exact hr
        · exact hr
      · exact hr

theorem rate_new {len : Int} : Rate (newq n ds len) := by
  intro x hx
  obtain ⟨k, hk⟩ := List.getElem?_of_mem hx
  have : (List.zipWith pline n.links ds)[k]? = some x := hk
  rw [List.getElem?_zipWith] at this
  cases hl : n.links[k]? with
  | none => rw [hl] at this; cases this
  | some l =>
    cases hd : ds[k]? with
    | none => rw [hl, hd] at this; cases this
    | some d => rw [hl, hd] at this; cases this; intro d; simp [pline, Ln.z]

/-- At a tick at most as many leave a link as it has capacity. -/
theorem rate_out (h : QInv i n ds q) (hr : Rate q) {j : Nat} {l : Link} (hl : n.links[j]? = some l) : (((ptick q).2.filter (ofLink j)).length : Int) ≤ l.capacity := by
  rw [tick_of]
  have hlt := (List.getElem?_eq_some_iff.1 hl).1
  obtain ⟨x, hx⟩ : ∃ x, q.lines[j]? = some x := ⟨_, List.getElem?_eq_getElem (by rw [h.len]; exact hlt)⟩
  obtain ⟨l', h1, h2⟩ := h.cap j x hx
  rw [hl] at h1
  cases h1
  rw [hx]
  have h3 := (h.line x (List.mem_of_getElem? hx)).cap
  have h4 := hr x (List.mem_of_getElem? hx) (pnow q)
  have h5 := lead_count (pnow q) x.due
  simp only [Option.map_some, Option.getD_some, Ln.outs, List.length_map, List.length_take]
  omega
end

theorem outsf_len (t : Int) (M : Nat) : ∀ (l : List Ln) (s : Nat), (∀ x ∈ l, x.packets.length ≤ M) →
    ((l.mapIdx fun k x => x.outs t (k + s)).flatten).length ≤ l.length * M := by
  intro l
  induction l with
  | nil => intro s _; simp
  | cons x l ih =>
    intro s h
    have e : (l.mapIdx fun k x => x.outs t (k + 1 + s)) = l.mapIdx fun k x => x.outs t (k + (s + 1)) := by
      congr 1; funext k x; rw [Nat.add_right_comm, Nat.add_assoc]
    rw [List.mapIdx_cons, List.flatten_cons, List.length_append, e]
    have h1 := ih (s + 1) (fun y hy => h y (by simp [hy]))
    have h2 := h x (by simp)
    have h3 : (x.outs t (0 + s)).length ≤ x.packets.length := by simp [Ln.outs]; omega
    rw [List.length_cons, Nat.add_mul]
    omega

theorem tick_len {i : Nat} {n : Network} {ds : List Int} {q : QS} (h : QInv i n ds q) : (ptick q).2.length ≤ 3000000 := by
  have h1 := outsf_len (pnow q) 3000 q.lines 0 (fun x hx => by have := (h.line x hx).pi; have := h.i80; omega)
  have h2 : q.lines.length ≤ 1000 := by rw [h.len]; exact h.small
  have h3 := Nat.mul_le_mul_right 3000 h2
  exact Nat.le_trans h1 h3

/-- The sum of what lies between two places. -/
def psum (A : List Int) (k i : Nat) : Int := ((A.take i).drop k).sum
theorem psum_same (A : List Int) (k : Nat) : psum A k k = 0 := by
  unfold psum; rw [List.drop_of_length_le (by simp; omega)]; rfl
theorem psum_succ {A : List Int} {k i : Nat} {a : Int} (hk : k ≤ i) (h : A[i]? = some a) : psum A k (i + 1) = psum A k i + a := by
  unfold psum
  have hlt := (List.getElem?_eq_some_iff.1 h).1
  rw [take_snoc h, List.drop_append_of_le_length (by simp; omega), List.sum_append]
  simp
theorem psum_le {A : List Int} {c : Int} (hA : ∀ a ∈ A, 0 ≤ a ∧ a ≤ c) {k : Nat} : ∀ {m : Nat}, k + m ≤ A.length → 0 ≤ psum A k (k + m) ∧ psum A k (k + m) ≤ m * c := by
  intro m
  induction m with
  | zero => intro _; rw [Nat.add_zero, psum_same]; simp
  | succ m ih =>
    intro h
    obtain ⟨a, ha⟩ : ∃ a, A[k + m]? = some a := ⟨_, List.getElem?_eq_getElem (by omega)⟩
    obtain ⟨h1, h2⟩ := ih (by omega)
    have h3 := hA a (List.mem_of_getElem? ha)
    rw [← Nat.add_assoc, psum_succ (by omega) ha]
    refine ⟨by omega, ?_⟩
    have : ((m + 1 : Nat) : Int) * c = m * c + c := by rw [Int.natCast_add, Int.add_mul]; simp
    omega

theorem of_snoc {l : List Passed} {k : Nat} {x : Passed} (j : Int) (h : l[k]? = some x) : ((l.take (k + 1)).filter (ofLink j)).length = ((l.take k).filter (ofLink j)).length + if x.link = j then 1 else 0 := by
  rw [take_snoc h, List.filter_append, List.length_append]
  congr 1
  by_cases hx : x.link = j
  · simp [ofLink, hx]
  · simp [ofLink, hx]
end Go.AI

/- Plain laws of the queues: the packets keep their order, and none is lost uncounted. -/
namespace Go.AI
open Go.Proofs

def HeadOk (L : List Step) (p : Packet) : Prop := ∃ s, L[p.id.toNat]? = some s ∧ p.head = s.packet.head

/-- A line, the numbers put on it, what has just left it, and how many are over. -/
structure OInv (L : List Step) (k : Nat) (x : Ln) (P : List Int) (F : List Passed) (a : Int) : Prop where
  split : ∃ old : List Int, P = old ++ (F.map (·.packet.id) ++ x.packets.map (·.id)) ∧ 0 ≤ a ∧ a ≤ old.length
  inc : P.Pairwise (· < ·)
  rng : ∀ v ∈ P, 0 ≤ v ∧ v < k
  hp : ∀ p ∈ x.packets, HeadOk L p
  hf : ∀ p ∈ F, HeadOk L p.packet
  in_ : x.counts.meter.in_ = P.length
  sum : (P.length : Int) = x.counts.meter.out + x.counts.meter.lost + x.packets.length

structure OAll (L : List Step) (k : Nat) (q : QS) (PUT : List (List Int)) (T : List Passed) (LAST : List Int) : Prop where
  l1 : PUT.length = q.lines.length
  l2 : LAST.length = q.lines.length
  line : ∀ (j : Nat) (x : Ln) (P : List Int) (a : Int), q.lines[j]? = some x → PUT[j]? = some P → LAST[j]? = some a → OInv L k x P (T.filter (ofLink j)) a

section
variable {L : List Step} {k : Nat} {x x' : Ln} {P : List Int} {F : List Passed} {a : Int} {q : QS} {PUT : List (List Int)} {LAST : List Int} {T : List Passed} {j : Nat}

theorem OInv.mono (h : OInv L k x P F a) : OInv L (k + 1) x P F a :=
  ⟨h.split, h.inc, fun v hv => by have := h.rng v hv; omega, h.hp, h.hf, h.in_, h.sum⟩

theorem OAll.mono (h : OAll L k q PUT T LAST) : OAll L (k + 1) q PUT T LAST := ⟨h.l1, h.l2, fun j x P a h1 h2 h3 => (h.line j x P a h1 h2 h3).mono⟩

theorem OAll.set1 (h : OAll L k q PUT [] LAST) (hx : q.lines[j]? = some x) (hn : ∀ P a, OInv L k x P [] a → OInv L (k + 1) x' P [] a) : OAll L (k + 1) (q.set j x') PUT [] LAST := by
  refine ⟨by simp [QS.set, h.l1], by simp [QS.set, h.l2], fun i y P a h1 h2 h3 => ?_⟩
  simp only [QS.set, List.getElem?_set] at h1
  split at h1
  · rename_i e; subst e
    split at h1
    · cases h1
      exact hn P a (h.line _ x P a hx h2 h3)
    · cases h1
  · exact (h.line i y P a h1 h2 h3).mono

theorem OAll.set2 (h : OAll L k q PUT [] LAST) (hx : q.lines[j]? = some x) {P P' : List Int} (hP : PUT[j]? = some P) (hn : ∀ a, OInv L k x P [] a → OInv L (k + 1) x' P' [] a) : OAll L (k + 1) (q.set j x') (PUT.set j P') [] LAST := by
  refine ⟨by simp [QS.set, h.l1], by simp [QS.set, h.l2], fun i y R a h1 h2 h3 => ?_⟩
  simp only [QS.set, List.getElem?_set] at h1 h2
  split at h1
  · rename_i e; subst e
    rw [if_pos rfl] at h2
    split at h1
    · cases h1
      split at h2
      · cases h2
        exact hn a (h.line _ x P a hx hP h3)
      · cases h2
    · cases h1
  · rename_i e
    rw [if_neg e] at h2
    exact (h.line i y R a h1 h2 h3).mono

theorem OInv.add {p : Packet} (h : OInv L k x P [] a) (hk : k < 3000) (hid : p.id = (k : Int)) (hs : HeadOk L p) (hl : P.length ≤ k) : OInv L (k + 1) (x.add p) (P ++ [(k : Int)]) [] a where
  split := by
    obtain ⟨old, h1, h2, h3⟩ := h.split
    refine ⟨old, ?_, h2, h3⟩
    show P ++ [(k : Int)] = old ++ ([] ++ (x.packets ++ [p]).map (·.id))
    rw [h1]; simp [hid]
  inc := by
    rw [List.pairwise_append]
    refine ⟨h.inc, by simp, fun v hv w hw => ?_⟩
    rw [List.mem_singleton.1 hw]
    exact (h.rng v hv).2
  rng := fun v hv => by
    rcases List.mem_append.1 hv with h1 | h1
    · have := h.rng v h1; omega
    · rw [List.mem_singleton.1 h1]; omega
  hp := fun r hr => by
    rcases List.mem_append.1 (show r ∈ x.packets ++ [p] from hr) with h1 | h1
    · exact h.hp r h1
    · rw [List.mem_singleton.1 h1]; exact hs
  hf := fun r hr => by cases hr
  in_ := by
    show IntKind.i64.wrap (x.counts.meter.in_ + 1) = _
    rw [h.in_, w64 (by omega) (by omega)]; simp
  sum := by
    show ((P ++ [(k : Int)]).length : Int) = x.counts.meter.out + x.counts.meter.lost + ((x.packets ++ [p]).length : Int)
    have := h.sum
    simp only [List.length_append, List.length_singleton]
    omega

theorem OInv.refuse (h : OInv L k x P [] a) (e : Int) : OInv L (k + 1) (x.refuse e) P [] a := by
  have h' := h.mono
  unfold Ln.refuse
  split <;> exact ⟨h'.split, h'.inc, h'.rng, h'.hp, h'.hf, h'.in_, h'.sum⟩

theorem OInv.switch {i : Nat} {t : Int} (h : OInv L k x P [] a) (hl : LInv i t x) (hi : i ≤ 3000) (up : Bool) : OInv L (k + 1) (x.switch up) P [] a := by
  have h' := h.mono
  unfold Ln.switch
  cases up with
  | true => exact ⟨h'.split, h'.inc, h'.rng, h'.hp, h'.hf, h'.in_, h'.sum⟩
  | false =>
    have hdp := hl.dp
    have hpi := hl.pi
    have e1 : IntKind.i64.wrap (x.counts.meter.out + 0) = x.counts.meter.out := by have := hl.out; rw [w64 (by omega) (by omega)]; omega
    have e2 : IntKind.i64.wrap (x.counts.meter.lost + x.due.length) = x.counts.meter.lost + x.due.length := by have := hl.lost; rw [w64 (by omega) (by omega)]
    refine ⟨?_, h'.inc, h'.rng, fun p hp => h'.hp p (List.mem_of_mem_drop hp), h'.hf, h'.in_, ?_⟩
    · obtain ⟨old, h1, h2, h3⟩ := h.split
      refine ⟨old ++ (x.packets.take x.due.length).map (·.id), ?_, h2, by rw [List.length_append]; omega⟩
      show P = _ ++ ([] ++ (x.packets.drop x.due.length).map (·.id))
      rw [List.nil_append, List.append_assoc, ← List.map_append, List.take_append_drop]
      exact h1
    · show (P.length : Int) = IntKind.i64.wrap (x.counts.meter.out + 0) + IntKind.i64.wrap (x.counts.meter.lost + x.due.length) + ((x.packets.drop x.due.length).length : Int)
      have := h.sum
      rw [e1, e2, List.length_drop]; omega

theorem OInv.tick {i : Nat} {t : Int} (h : OInv L k x P [] a) (hl : LInv i t x) (hi : i ≤ 3000) (j : Nat) : OInv L (k + 1) (x.tick (t + 1)) P (x.outs (t + 1) j) a := by
  have h' := h.mono
  have hle := lead_le (t + 1) x.due
  have hdp := hl.dp
  have hpi := hl.pi
  have ho : IntKind.i64.wrap (x.counts.meter.out + lead (t + 1) x.due) = x.counts.meter.out + lead (t + 1) x.due := by have := hl.out; rw [w64 (by omega) (by omega)]
  have hlo : IntKind.i64.wrap (x.counts.meter.lost + 0) = x.counts.meter.lost := by have := hl.lost; rw [w64 (by omega) (by omega)]; omega
  refine ⟨?_, h'.inc, h'.rng, fun p hp => h'.hp p (List.mem_of_mem_drop hp), ?_, h'.in_, ?_⟩
  · obtain ⟨old, h1, h2, h3⟩ := h.split
    refine ⟨old, ?_, h2, h3⟩
    show P = old ++ (((x.packets.take (lead (t + 1) x.due)).map (pc j)).map (·.packet.id) ++ (x.packets.drop (lead (t + 1) x.due)).map (·.id))
    rw [List.map_map]
    have e : (fun p : Passed => p.packet.id) ∘ pc j = fun p => p.id := rfl
    rw [e, ← List.map_append, List.take_append_drop]
    exact h1
  · intro p hp
    obtain ⟨r, hr, rfl⟩ := List.mem_map.1 hp
    exact h.hp r (List.mem_of_mem_take hr)
  · show (P.length : Int) = IntKind.i64.wrap (x.counts.meter.out + lead (t + 1) x.due) + IntKind.i64.wrap (x.counts.meter.lost + 0) + ((x.packets.drop (lead (t + 1) x.due)).length : Int)
    have := h.sum
    rw [ho, hlo, List.length_drop]; omega
end

section
variable {L : List Step} {k : Nat} {n : Network} {ds : List Int} {q : QS} {PUT : List (List Int)} {LAST : List Int}

def numbered (k : Nat) (x : Step) : Step := { x with packet := { x.packet with id := (k : Int) } }

theorem inc_len : ∀ (P : List Int) (a b : Nat), P.Pairwise (· < ·) → (∀ v ∈ P, (a : Int) ≤ v ∧ v < b) → a ≤ b → P.length ≤ b - a := by
  intro P
  induction P with
  | nil => intro a b _ _ _; simp
  | cons v P ih =>
    intro a b h1 h2 hab
    rw [List.pairwise_cons] at h1
    have h3 := h2 v (by simp)
    have h4 := ih (v.toNat + 1) b h1.2 (fun w hw => by have := h1.1 w hw; have := h2 w (by simp [hw]); omega) (by omega)
    rw [List.length_cons]; omega

theorem OInv.short {x : Ln} {P : List Int} {F : List Passed} {a : Int} (h : OInv L k x P F a) : P.length ≤ k := by
  have := inc_len P 0 k h.inc (fun v hv => by have := h.rng v hv; omega) (Nat.zero_le _)
  omega

/-- A numbered step: an accepted packet's number is noted. -/
theorem order_put (h : OAll L k q PUT [] LAST) (hk : k < 3000) {s : Step} (hs : L[k]? = some s) (hkind : s.kind = 1) (he : (pdo q (numbered k s)).2.2 = 0) :
    ∃ (j : Nat) (P : List Int), s.link = (j : Int) ∧ PUT[j]? = some P ∧ (pdo q (numbered k s)).2.1 = [] ∧ OAll L (k + 1) (pdo q (numbered k s)).1 (PUT.set j (P ++ [(k : Int)])) [] LAST := by
  have hkind' : (numbered k s).kind = 1 := hkind
  unfold pdo at he ⊢
  rw [if_pos hkind'] at he ⊢
  unfold pput at he ⊢
  cases hh : phas q (numbered k s).link with
  | false => rw [hh] at he; simp at he
  | true =>
    obtain ⟨h0, h1, x, hx⟩ := phas_get hh
    simp only [hh, if_true, hx] at he ⊢
    obtain ⟨P, hP⟩ : ∃ P, PUT[(numbered k s).link.toNat]? = some P := ⟨_, List.getElem?_eq_getElem (by rw [h.l1]; omega)⟩
    refine ⟨(numbered k s).link.toNat, P, by show s.link = _; have : (numbered k s).link = s.link := rfl; omega, hP, ?_⟩
    unfold Ln.put at he ⊢
    by_cases hd : x.down = true
    · rw [if_pos hd] at he; simp at he
    · rw [if_neg hd] at he ⊢
      by_cases hf : q.length ≤ (x.packets.length : Int) - x.due.length
      · rw [if_pos hf] at he; simp at he
      · rw [if_neg hf]
        refine ⟨trivial, h.set2 hx hP fun a ho => ho.add hk rfl ⟨s, ?_, rfl⟩ ho.short⟩
        show L[((k : Nat) : Int).toNat]? = some s
        rw [Int.toNat_natCast]; exact hs

theorem order_step {i : Nat} (h : OAll L k q PUT [] LAST) (hI : QInv i n ds q) (s : Step) (hno : ¬ (s.kind = 1 ∧ (pdo q s).2.2 = 0)) :
    OAll L (k + 1) (pdo q s).1 PUT (pdo q s).2.1 LAST := by
  have h100 := hI.i80
  by_cases h1 : s.kind = 1
  · unfold pdo at hno ⊢
    rw [if_pos h1] at hno ⊢
    unfold pput at hno ⊢
    cases hh : phas q s.link with
    | false => simpa using h.mono
    | true =>
      obtain ⟨h0, h2, x, hx⟩ := phas_get hh
      simp only [hh, if_true, hx] at hno ⊢
      unfold Ln.put at hno ⊢
      by_cases hd : x.down = true
      · rw [if_pos hd]
        exact h.set1 hx fun P a ho => ho.refuse 13
      · rw [if_neg hd] at hno ⊢
        by_cases hf : q.length ≤ (x.packets.length : Int) - x.due.length
        · rw [if_pos hf]
          exact h.set1 hx fun P a ho => ho.refuse 12
        · rw [if_neg hf] at hno
          exact absurd ⟨h1, rfl⟩ hno
  · unfold pdo
    rw [if_neg h1]
    by_cases h2 : s.kind = 2
    · rw [if_pos h2]
      have hll := ptick_lines hI
      refine ⟨by rw [hll, List.length_map, h.l1], by rw [hll, List.length_map, h.l2], fun j y P a g1 g2 g3 => ?_⟩
      rw [hll, List.getElem?_map, Option.map_eq_some_iff] at g1
      obtain ⟨x, hx, rfl⟩ := g1
      have ht := tick_of q j
      rw [hx, pnow_eq hI] at ht
      show OInv L (k + 1) _ P ((ptick q).2.filter (ofLink j)) a
      rw [ht]
      exact (h.line j x P a hx g2 g3).tick (hI.line x (List.mem_of_getElem? hx)) h100 j
    · rw [if_neg h2]
      by_cases h3 : s.kind = 3 ∨ s.kind = 4
      · rw [if_pos h3]
        unfold pswitch
        cases hh : phas q s.link with
        | false => simpa using h.mono
        | true =>
          obtain ⟨h0, h2, x, hx⟩ := phas_get hh
          simp only [if_true, hx]
          exact h.set1 hx fun P a ho => ho.switch (hI.line x (List.mem_of_getElem? hx)) h100 _
      · rw [if_neg h3]
        exact h.mono

theorem order_new {len : Int} : OAll L 0 (newq n ds len) (List.replicate (newq n ds len).lines.length []) [] (List.replicate (newq n ds len).lines.length 0) := by
  refine ⟨by simp, by simp, fun j x P a h1 h2 h3 => ?_⟩
  rw [List.getElem?_replicate] at h2 h3
  split at h2
  · rename_i hlt
    rw [if_pos hlt] at h3
    cases h2; cases h3
    have : (List.zipWith pline n.links ds)[j]? = some x := h1
    rw [List.getElem?_zipWith] at this
    cases hl : n.links[j]? with
    | none => rw [hl] at this; cases this
    | some l =>
      cases hd : ds[j]? with
      | none => rw [hl, hd] at this; cases this
      | some d =>
        rw [hl, hd] at this; cases this
        exact ⟨⟨[], by simp [pline, Ln.z], Int.le_refl _, Int.le_refl _⟩, by simp, by simp, by simp [pline, Ln.z], by simp, by simp [pline, Ln.z, Meter.z], by simp [pline, Ln.z, Meter.z]⟩
  · cases h2

/-- Every packet that leaves has left a link that there is. -/
theorem tick_link (q : QS) : ∀ y ∈ (ptick q).2, ∃ j : Nat, y.link = (j : Int) ∧ j < q.lines.length := by
  intro y hy
  obtain ⟨l, hl, hyl⟩ := List.mem_flatten.1 hy
  obtain ⟨j, hj⟩ := List.getElem?_of_mem hl
  rw [List.getElem?_mapIdx, Option.map_eq_some_iff] at hj
  obtain ⟨x, hx, rfl⟩ := hj
  obtain ⟨p, _, rfl⟩ := List.mem_map.1 hyl
  exact ⟨j, rfl, (List.getElem?_eq_some_iff.1 hx).1⟩

theorem pdo_link (q : QS) (s : Step) : ∀ y ∈ (pdo q s).2.1, ∃ j : Nat, y.link = (j : Int) ∧ j < q.lines.length := by
  intro y hy
  unfold pdo at hy
  split at hy
  · cases hy
  · split at hy
    · exact tick_link q y hy
    · split at hy <;> cases hy

theorem pdo_len {i : Nat} (hI : QInv i n ds q) (s : Step) : (pdo q s).2.1.length ≤ 3000000 := by
  unfold pdo
  split
  · simp
  · split
    · exact tick_len hI
    · split <;> simp

/-- One of the packets that have left is looked at: where its number stands. -/
theorem OAll.next {T : List Passed} {m : Nat} {y : Passed} {j : Nat} (h : OAll L k q PUT (T.drop m) LAST) (hy : T[m]? = some y) (hj : y.link = (j : Int)) (hjl : j < q.lines.length) :
    ∃ (P : List Int) (a : Int) (i : Nat), PUT[j]? = some P ∧ LAST[j]? = some a ∧ 0 ≤ a ∧ a ≤ i ∧ P[i]? = some y.packet.id ∧ P.length ≤ k ∧
      (∀ (i' : Nat) v, P[i']? = some v → v = y.packet.id → i' = i) ∧ HeadOk L y.packet ∧ 0 ≤ y.packet.id ∧ OAll L k q PUT (T.drop (m + 1)) (LAST.set j ((i : Int) + 1)) := by
  obtain ⟨x, hx⟩ : ∃ x, q.lines[j]? = some x := ⟨_, List.getElem?_eq_getElem hjl⟩
  obtain ⟨P, hP⟩ : ∃ P, PUT[j]? = some P := ⟨_, List.getElem?_eq_getElem (by rw [h.l1]; omega)⟩
  obtain ⟨a, ha⟩ : ∃ a, LAST[j]? = some a := ⟨_, List.getElem?_eq_getElem (by rw [h.l2]; omega)⟩
  have hd : T.drop m = y :: T.drop (m + 1) := drop_at hy
  have ho := h.line j x P a hx hP ha
  rw [hd, List.filter_cons, if_pos (by simp [ofLink, hj])] at ho
  obtain ⟨old, h1, h2, h3⟩ := ho.split
  have hPi : P[old.length]? = some y.packet.id := by rw [h1, List.getElem?_append_right (Nat.le_refl _)]; simp
  refine ⟨P, a, old.length, hP, ha, h2, h3, hPi, ho.short, ?_, ho.hf y (by simp), (ho.rng _ (List.mem_of_getElem? hPi)).1, by rw [h.l1], by rw [List.length_set, h.l2], ?_⟩
  · intro i' v hv e
    subst e
    have hinc := List.pairwise_iff_getElem.1 ho.inc
    obtain ⟨b1, b2⟩ := List.getElem?_eq_some_iff.1 hPi
    obtain ⟨c1, c2⟩ := List.getElem?_eq_some_iff.1 hv
    by_cases e1 : i' < old.length
    · have := hinc i' old.length c1 b1 e1
      omega
    · by_cases e2 : old.length < i'
      · have := hinc old.length i' b1 c1 e2
        omega
      · omega
  · intro j' x' P' a' g1 g2 g3
    rw [List.getElem?_set] at g3
    split at g3
    · rename_i e; subst e
      split at g3
      · cases g3
        rw [hx] at g1; cases g1
        rw [hP] at g2; cases g2
        refine ⟨⟨old ++ [y.packet.id], ?_, by omega, by simp⟩, ho.inc, ho.rng, ho.hp, fun p hp => ho.hf p (by simp [hp]), ho.in_, ho.sum⟩
        rw [h1]; simp
      · cases g3
    · rename_i e
      have := h.line j' x' P' a' g1 g2 g3
      rw [hd, List.filter_cons, if_neg (by simp [ofLink, hj]; omega)] at this
      exact this

/-- The meter of a line adds up. -/
theorem OAll.meter {i : Nat} (h : OAll L k q PUT [] LAST) (hI : QInv i n ds q) {j : Nat} (hj : j < q.lines.length) :
    ∃ P, PUT[j]? = some P ∧ phas q (j : Int) = true ∧ P.length ≤ k ∧ (pmeter q (j : Int)).in_ = P.length ∧
      (P.length : Int) = (pmeter q (j : Int)).out + (pmeter q (j : Int)).lost + (pwaiting q (j : Int)).length + (pflying q (j : Int)).length ∧
      0 ≤ (pmeter q (j : Int)).out ∧ 0 ≤ (pmeter q (j : Int)).lost := by
  obtain ⟨x, hx⟩ : ∃ x, q.lines[j]? = some x := ⟨_, List.getElem?_eq_getElem hj⟩
  obtain ⟨P, hP⟩ : ∃ P, PUT[j]? = some P := ⟨_, List.getElem?_eq_getElem (by rw [h.l1]; omega)⟩
  obtain ⟨a, ha⟩ : ∃ a, LAST[j]? = some a := ⟨_, List.getElem?_eq_getElem (by rw [h.l2]; omega)⟩
  have hh : phas q (j : Int) = true := by simp [phas]; omega
  have ho := h.line j x P a hx hP ha
  have hl := hI.line x (List.mem_of_getElem? hx)
  have h1 := hl.dp
  have h2 := ho.sum
  unfold pmeter pwaiting pflying
  rw [hh, Int.toNat_natCast, hx]
  simp only [if_true, Option.map_some, Option.getD_some, List.length_drop, List.length_take]
  exact ⟨P, hP, trivial, ho.short, ho.in_, by omega, hl.out.1, hl.lost.1⟩
end
end Go.AI

/- The law QueueKeepsOrder answers true. -/
namespace Go.AI
open Go.Proofs
set_option maxRecDepth 20000

def putC (P : List (List Int)) : List AV := P.map fun p => .sl (some 1) (l3 p)
def lastC (A : List Int) : List AV := A.map (.int .i64)

theorem putC_bnd (m : Nat) (P : List (List Int)) : bndL m (putC P) = true := by
  induction P with
  | nil => rfl
  | cons p P ih => simp only [putC, List.map_cons, bndL] at ih ⊢; rw [ih]; simp only [go_sem]
theorem lastC_bnd (m : Nat) (P : List Int) : bndL m (lastC P) = true := by
  induction P with
  | nil => rfl
  | cons p P ih => simp only [lastC, List.map_cons, bndL] at ih ⊢; rw [ih]; rfl

theorem putC_len (P : List (List Int)) : (putC P).length = P.length := List.length_map ..
theorem lastC_len (P : List Int) : (lastC P).length = P.length := List.length_map ..
theorem putC_get {PUT : List (List Int)} {j : Nat} {P : List Int} (h : PUT[j]? = some P) : (putC PUT)[j]? = some (.sl (some 1) (l3 P)) := by simp [putC, h]
theorem lastC_get {A : List Int} {j : Nat} {a : Int} (h : A[j]? = some a) : (lastC A)[j]? = some (.int .i64 a) := by simp [lastC, h]
theorem splice_at {cs : List AV} {j : Nat} (h : j < cs.length) (v : AV) : splice cs j [v] = cs.set j v := by
  unfold splice
  rw [List.set_eq_take_append_cons_drop, if_pos h]; simp
theorem putC_sp {PUT : List (List Int)} {j : Nat} (h : j < PUT.length) (v : AV) : splice (putC PUT) j [v] = (putC PUT).set j v := splice_at (by rw [putC_len]; exact h) v
theorem putC_sp2 {PUT : List (List Int)} {j : Nat} (h : j < PUT.length) (v : AV) (P : List Int) : splice ((putC PUT).set j v) j [.sl (some 1) (l3 P)] = putC (PUT.set j P) := by
  rw [splice_at (by rw [List.length_set, putC_len]; exact h), List.set_set]
  simp [putC, List.map_set]

theorem Base.swap {H0 : Heap} {o o2 j : Nat} {cs : List AV} (B : Base H0 o o2) (h : bndL H0.length cs = true) : Base (H0.set j (some cs)) o o2 :=
  ⟨by rw [List.length_set]; exact B.h1, by rw [List.length_set]; exact B.h2, B.ne, B.cl.set j h⟩

theorem f4_c (c : Case) (hn : c.n.small) : PCall Try.prog 4 [.agg c.c] (.bool true) := by
  refine PCall.of h4 mixed h4_d Try.func4 rfl call4 (by simp [Try.f4]) (by simp [pureL, AV.pure, go_sem]) rfl ?_
  simp only [Try.f4, go_sem, Nat.reduceEqDiff, Nat.reduceLT, ↓reduceIte, Nat.reduceAdd, Nat.reduceSub, Nat.reduceMul, Nat.reduceBEq, Nat.reduceLeDiff, Nat.reduceDvd, reduceCtorEq, Int.reduceToNat, Int.reduceLT, Int.reduceLE, Nat.le_refl, Int.le_refl, false_implies, implies_true, frzSlot, List.take_length, List.mem_cons, List.not_mem_nil, or_false, forall_eq_or_imp, forall_eq, List.range_succ, List.range_zero, exists_eq_left', Option.some.injEq]
  refine ACallK.prop (f9_c c hn) ?_
  rintro _ ⟨b, rfl, hb⟩
  cases b with
  | false =>
    simp only [go_sem, Nat.reduceEqDiff, Nat.reduceLT, ↓reduceIte, Nat.reduceAdd, Nat.reduceSub, Nat.reduceMul, Nat.reduceBEq, Nat.reduceLeDiff, Nat.reduceDvd, reduceCtorEq, Int.reduceToNat, Int.reduceLT, Int.reduceLE, Nat.le_refl, Int.le_refl, false_implies, implies_true, frzSlot, List.take_length, List.mem_cons, List.not_mem_nil, or_false, forall_eq_or_imp, forall_eq, List.range_succ, List.range_zero, exists_eq_left', Option.some.injEq]
    refine PCallK.intro f10_c ?_
    simp only [go_sem, Nat.reduceEqDiff, Nat.reduceLT, ↓reduceIte, Nat.reduceAdd, Nat.reduceSub, Nat.reduceMul, Nat.reduceBEq, Nat.reduceLeDiff, Nat.reduceDvd, reduceCtorEq, Int.reduceToNat, Int.reduceLT, Int.reduceLE, Nat.le_refl, Int.le_refl, false_implies, implies_true, frzSlot, List.take_length, List.mem_cons, List.not_mem_nil, or_false, forall_eq_or_imp, forall_eq, List.range_succ, List.range_zero, exists_eq_left', Option.some.injEq]
  | true =>
    obtain ⟨g1, g2, g3, g4, g5⟩ := hb rfl
    have hcl : closedH [some c.c] := closedB_spec (by simp only [go_sem])
    simp only [go_sem, Nat.reduceEqDiff, Nat.reduceLT, ↓reduceIte, Nat.reduceAdd, Nat.reduceSub, Nat.reduceMul, Nat.reduceBEq, Nat.reduceLeDiff, Nat.reduceDvd, reduceCtorEq, Int.reduceToNat, Int.reduceLT, Int.reduceLE, Nat.le_refl, Int.le_refl, false_implies, implies_true, frzSlot, List.take_length, List.mem_cons, List.not_mem_nil, or_false, forall_eq_or_imp, forall_eq, List.range_succ, List.range_zero, exists_eq_left', Option.some.injEq]
    cases hf : rfine c.n c.delays c.length with
    | false =>
      refine ACallK.intro (f11_bad hcl c.n c.delays c.length hf) ?_
      rintro _ _ ⟨rfl, rfl⟩
      simp only [go_sem, Nat.reduceEqDiff, Nat.reduceLT, ↓reduceIte, Nat.reduceAdd, Nat.reduceSub, Nat.reduceMul, Nat.reduceBEq, Nat.reduceLeDiff, Nat.reduceDvd, reduceCtorEq, Int.reduceToNat, Int.reduceLT, Int.reduceLE, Nat.le_refl, Int.le_refl, false_implies, implies_true, frzSlot, List.take_length, List.mem_cons, List.not_mem_nil, or_false, forall_eq_or_imp, forall_eq, List.range_succ, List.range_zero, exists_eq_left', Option.some.injEq, Int.reduceBEq, Int.reduceBNe]
      refine PCallK.intro f10_c ?_
      simp only [go_sem, Nat.reduceEqDiff, Nat.reduceLT, ↓reduceIte, Nat.reduceAdd, Nat.reduceSub, Nat.reduceMul, Nat.reduceBEq, Nat.reduceLeDiff, Nat.reduceDvd, reduceCtorEq, Int.reduceToNat, Int.reduceLT, Int.reduceLE, Nat.le_refl, Int.le_refl, false_implies, implies_true, frzSlot, List.take_length, List.mem_cons, List.not_mem_nil, or_false, forall_eq_or_imp, forall_eq, List.range_succ, List.range_zero, exists_eq_left', Option.some.injEq]
    | true =>
      obtain ⟨s1, s2⟩ := new_step hf (by omega) (fun x hx => g3 x hx)
      refine ACallK.intro (f11_good hcl c.n c.delays c.length hf (by omega)) ?_
      rintro _ _ ⟨rfl, rfl⟩
      have B0 : Base (nbase [some c.c] c.n) 3 2 := nbase_ok hcl c.n
      have q0 : ∀ n len L l, (QX (nbase [some c.c] c.n ++ l) 3 2 n len L)[0]? = some (some c.c) := fun n len L l => rfl
      have q00 : ∀ n len L, (QX (nbase [some c.c] c.n) 3 2 n len L)[0]? = some (some c.c) := fun n len L => rfl
      simp only [go_sem, Nat.reduceEqDiff, Nat.reduceLT, ↓reduceIte, Nat.reduceAdd, Nat.reduceSub, Nat.reduceMul, Nat.reduceBEq, Nat.reduceLeDiff, Nat.reduceDvd, reduceCtorEq, Int.reduceToNat, Int.reduceLT, Int.reduceLE, Nat.le_refl, Int.le_refl, false_implies, implies_true, frzSlot, List.take_length, List.mem_cons, List.not_mem_nil, or_false, forall_eq_or_imp, forall_eq, List.range_succ, List.range_zero, exists_eq_left', Option.some.injEq, Nat.reduceAdd, Int.reduceBEq, Int.reduceBNe]
      generalize nbase [some c.c] c.n = H1 at *
      have m1 : c.n.links.length * 24 ≤ 140737488355328 := by omega
      have m2 : c.n.links.length * 8 ≤ 140737488355328 := by omega
      have m3 : c.n.links.length ≤ 9223372036854775807 := by omega
      simp only [go_sem, Nat.reduceEqDiff, Nat.reduceLT, ↓reduceIte, Nat.reduceAdd, Nat.reduceSub, Nat.reduceMul, Nat.reduceBEq, Nat.reduceLeDiff, Nat.reduceDvd, reduceCtorEq, Int.reduceToNat, Int.reduceLT, Int.reduceLE, Nat.le_refl, Int.le_refl, false_implies, implies_true, frzSlot, List.take_length, List.mem_cons, List.not_mem_nil, or_false, forall_eq_or_imp, forall_eq, List.range_succ, List.range_zero, exists_eq_left', Option.some.injEq, q0, q00, m1, m2, m3, B0.push, B0.push2, QX_len, app_at0, app_at, app_set0, app_set, List.length_append]
      refine ⟨by omega, by omega, by omega, by omega, by omega, by omega, ?_⟩
      have hll : (newq c.n c.delays c.length).lines.length = c.n.links.length := s2.len
      have hC : Base (H1 ++ some (putC (List.replicate c.n.links.length [])) :: some (lastC (List.replicate c.n.links.length 0)) :: []) 3 2 := by
        have := (B0.app (cs := putC (List.replicate c.n.links.length [])) (putC_bnd _ _)).app (cs := lastC (List.replicate c.n.links.length 0)) (lastC_bnd _ _)
        simpa using this
      have hO := order_new (L := c.l) (n := c.n) (ds := c.delays) (len := c.length)
      rw [hll] at hO
      refine awp_wh (σ := Nat × QS × List (List Int) × List Int × Heap) (fun s => [(1, .ptr 0 0), (3, .ptr 3 0), (5, .msl H1.length 0 c.n.links.length 1), (6, .msl (H1.length + 1) 0 c.n.links.length 1), (45, .sl none (l47 c.l)), (46, .int .i64 (c.l.length : Int)), (47, .int .i64 (s.1 : Int))])
        (fun s => QH (H1 ++ some (putC s.2.2.1) :: some (lastC s.2.2.2.1) :: s.2.2.2.2) 3 2 s.2.1)
        (fun s => s.1 ≤ c.l.length ∧ QInv s.1 c.n c.delays s.2.1 ∧ OAll c.l s.1 s.2.1 s.2.2.1 [] s.2.2.2.1 ∧ Base (H1 ++ some (putC s.2.2.1) :: some (lastC s.2.2.2.1) :: s.2.2.2.2) 3 2)
        (fun s => c.l.length - s.1) (0, newq c.n c.delays c.length, List.replicate c.n.links.length [], List.replicate c.n.links.length 0, []) ⟨Nat.zero_le _, s2, hO, hC⟩ rfl (by simp [putC, lastC, l3]) ?_
      rintro ⟨k, q, PUT, LAST, g⟩ ⟨hk, hI, hO, B⟩
      dsimp only at hk hI hO B ⊢
      have hlp : PUT.length = c.n.links.length := by rw [hO.l1, hI.len]
      have hla : LAST.length = c.n.links.length := by rw [hO.l2, hI.len]
      by_cases hlt : k < c.l.length
      · obtain ⟨x, hx⟩ : ∃ x, c.l[k]? = some x := ⟨_, List.getElem?_eq_getElem hlt⟩
        have k0 : (0 : Int) ≤ (k : Int) := by omega
        have k1 : (k : Int) < (c.l.length : Int) := by omega
        have hi : k < 3000 := by omega
        have Bx : Base (H1 ++ some (putC PUT) :: some (lastC LAST) :: (g ++ [some (numbered k x).c])) 3 2 := by
          have := B.app (cs := (numbered k x).c) (by simp only [go_sem])
          simpa using this
        simp only [go_sem, Nat.reduceEqDiff, Nat.reduceLT, ↓reduceIte, Nat.reduceAdd, Nat.reduceSub, Nat.reduceMul, Nat.reduceBEq, Nat.reduceLeDiff, Nat.reduceDvd, reduceCtorEq, Int.reduceToNat, Int.reduceLT, Int.reduceLE, Nat.le_refl, Int.le_refl, false_implies, implies_true, frzSlot, List.take_length, List.mem_cons, List.not_mem_nil, or_false, forall_eq_or_imp, forall_eq, List.range_succ, List.range_zero, exists_eq_left', Option.some.injEq, k0, k1, l47_get hx, B0.push2, QX_len, B0.sa, B0.ga, B0.g0, B0.s0, app_at0, app_at, app_set0, app_set, List.length_append]
        refine ACallK.intro (f13_a Bx q hI.fine (numbered k x)) ?_
        rintro _ _ ⟨rfl, rfl⟩
        obtain ⟨_, hI'⟩ := do_step hI hi (numbered k x)
        have nkind : (numbered k x).kind = x.kind := rfl
        have nlink : (numbered k x).link = x.link := rfl
        by_cases hno : x.kind = 1 ∧ (pdo q (numbered k x)).2.2 = 0
        · have e1 : (x.kind == 1) = true := by simp [hno.1]
          have e2 : ((pdo q (numbered k x)).2.2 == 0) = true := by simp [hno.2]
          obtain ⟨j, P, hj, hP, hT, hO'⟩ := order_put hO hi hx hno.1 hno.2
          have hPl : P.length ≤ 3000 := by
            obtain ⟨x0, hx0⟩ : ∃ x0, q.lines[j]? = some x0 := ⟨_, List.getElem?_eq_getElem (by rw [← hO.l1]; exact (List.getElem?_eq_some_iff.1 hP).1)⟩
            obtain ⟨a0, ha0⟩ : ∃ a0, LAST[j]? = some a0 := ⟨_, List.getElem?_eq_getElem (by rw [hO.l2]; exact (List.getElem?_eq_some_iff.1 hx0).1)⟩
            have := (hO.line j x0 P a0 hx0 hP ha0).short
            omega
          have a1 : (P.length + 1) * 8 ≤ 140737488355328 := by omega
          have a2 : P.length ≤ 9223372036854775806 := by omega
          have hjp' : j + 1 ≤ PUT.length := (List.getElem?_eq_some_iff.1 hP).1
          have hjp : j < PUT.length := (List.getElem?_eq_some_iff.1 hP).1
          have j0 : (0 : Int) ≤ (j : Int) := by omega
          have j1 : (j : Int) < (c.n.links.length : Int) := by omega
          simp only [go_sem, Nat.reduceEqDiff, Nat.reduceLT, ↓reduceIte, Nat.reduceAdd, Nat.reduceSub, Nat.reduceMul, Nat.reduceBEq, Nat.reduceLeDiff, Nat.reduceDvd, reduceCtorEq, Int.reduceToNat, Int.reduceLT, Int.reduceLE, Nat.le_refl, Int.le_refl, false_implies, implies_true, frzSlot, List.take_length, List.mem_cons, List.not_mem_nil, or_false, forall_eq_or_imp, forall_eq, List.range_succ, List.range_zero, exists_eq_left', Option.some.injEq, B0.push2, QX_len, B0.sa, B0.ga, B0.g0, B0.s0, app_at0, app_at, app_set0, app_set, List.length_append, nkind, nlink, e1, e2, hj, j0, j1, putC_get hP, putC_sp hjp, putC_sp2 hjp, hjp, putC_len, List.length_set, a1, a2, hjp']
          rw [← hT] at hO'
          have Bp : Base (H1 ++ some (putC (PUT.set j (P ++ [(k : Int)]))) :: some (lastC LAST) :: (g ++ [some (numbered k x).c])) 3 2 := by
            have := Bx.swap (j := H1.length) (cs := putC (PUT.set j (P ++ [(k : Int)]))) (putC_bnd _ _)
            simpa using this
          generalize PUT.set j (P ++ [(k : Int)]) = PUT' at *
          have hlinks := pdo_link q (numbered k x)
          have hTl := pdo_len hI (numbered k x)
          have hlq : q.lines.length = c.n.links.length := hI.len
          have hlq' : (pdo q (numbered k x)).1.lines.length = c.n.links.length := hI'.len
          have hlp' : PUT'.length = c.n.links.length := by rw [hO'.l1, hlq']
          have hfine := hI'.fine
          generalize hTe : (pdo q (numbered k x)).2.1 = T at *
          generalize (pdo q (numbered k x)).1 = q' at *
          refine awp_wh (σ := Nat × List Int × Heap) (fun s => [(1, .ptr 0 0), (3, .ptr 3 0), (5, .msl H1.length 0 c.n.links.length 1), (6, .msl (H1.length + 1) 0 c.n.links.length 1), (45, .sl none (l47 c.l)), (46, .int .i64 (c.l.length : Int)), (47, .int .i64 (k : Int)), (80, .sl none (l57 T)), (81, .int .i64 (T.length : Int)), (82, .int .i64 (s.1 : Int))])
            (fun s => QH (H1 ++ some (putC PUT') :: some (lastC s.2.1) :: (g ++ some (numbered k x).c :: s.2.2)) 3 2 q')
            (fun s => s.1 ≤ T.length ∧ OAll c.l (k + 1) q' PUT' (T.drop s.1) s.2.1 ∧ Base (H1 ++ some (putC PUT') :: some (lastC s.2.1) :: (g ++ some (numbered k x).c :: s.2.2)) 3 2)
            (fun s => T.length - s.1) (0, LAST, []) ⟨Nat.zero_le _, hO', Bp⟩ rfl rfl ?_
          rintro ⟨m, LA, f⟩ ⟨hm, hOm, Bf⟩
          dsimp only at hm hOm Bf ⊢
          by_cases hmt : m < T.length
          · obtain ⟨y, hy⟩ : ∃ y, T[m]? = some y := ⟨_, List.getElem?_eq_getElem hmt⟩
            obtain ⟨j, hyj, hjl⟩ := hlinks y (List.mem_of_getElem? hy)
            obtain ⟨P, a, i, hP, ha, a0, ai, hPi, hPl, huniq, hhead, hid, hnext⟩ := hOm.next hy hyj (by omega)
            obtain ⟨a, rfl⟩ : ∃ a' : Nat, a = (a' : Int) := ⟨a.toNat, by omega⟩
            have ai : a ≤ i := by omega
            have hiP : i < P.length := (List.getElem?_eq_some_iff.1 hPi).1
            have m0 : (0 : Int) ≤ (m : Int) := by omega
            have m1 : (m : Int) < (T.length : Int) := by omega
            have j0 : (0 : Int) ≤ (j : Int) := by omega
            have j1 : (j : Int) < (c.n.links.length : Int) := by omega
            have hLl : j < LA.length := (List.getElem?_eq_some_iff.1 ha).1
            have hLl' : j + 1 ≤ LA.length := hLl
            simp only [go_sem, Nat.reduceEqDiff, Nat.reduceLT, ↓reduceIte, Nat.reduceAdd, Nat.reduceSub, Nat.reduceMul, Nat.reduceBEq, Nat.reduceLeDiff, Nat.reduceDvd, reduceCtorEq, Int.reduceToNat, Int.reduceLT, Int.reduceLE, Nat.le_refl, Int.le_refl, false_implies, implies_true, frzSlot, List.take_length, List.mem_cons, List.not_mem_nil, or_false, forall_eq_or_imp, forall_eq, List.range_succ, List.range_zero, exists_eq_left', Option.some.injEq, m0, m1, l57_get hy, B0.push2, QX_len, B0.sa, B0.ga, B0.g0, B0.s0, app_at0, app_at, app_set0, app_set, List.length_append, hyj, j0, j1, lastC_get ha]
            have Bn : Base (H1 ++ some (putC PUT') :: some (lastC LA) :: (g ++ some (numbered k x).c :: (f ++ [some y.c]))) 3 2 := by
              have := Bf.app (cs := y.c) (by simp only [go_sem])
              simpa using this
            obtain ⟨s0, hs0, hs0h⟩ := hhead
            have hidl : y.packet.id.toNat < c.l.length := (List.getElem?_eq_some_iff.1 hs0).1
            have hid2 : y.packet.id < (c.l.length : Int) := by omega
            refine awp_wh (σ := Nat) (fun s => [(1, .ptr 0 0), (3, .ptr 3 0), (5, .msl H1.length 0 c.n.links.length 1), (6, .msl (H1.length + 1) 0 c.n.links.length 1), (12, .ptr (H1.length + (g.length + (f.length + 1) + 1 + 1)) 0), (13, .int .i64 (s : Int)), (45, .sl none (l47 c.l)), (46, .int .i64 (c.l.length : Int)), (47, .int .i64 (k : Int)), (80, .sl none (l57 T)), (81, .int .i64 (T.length : Int)), (82, .int .i64 (m : Int))])
              (fun _ => QH (H1 ++ some (putC PUT') :: some (lastC LA) :: (g ++ some (numbered k x).c :: (f ++ [some y.c]))) 3 2 q')
              (fun s => a ≤ s ∧ s ≤ i) (fun s => i - s) a ⟨Nat.le_refl _, ai⟩ rfl rfl ?_
            rintro s ⟨hs1, hs2⟩
            obtain ⟨v, hv⟩ : ∃ v, P[s]? = some v := ⟨_, List.getElem?_eq_getElem (by omega)⟩
            have p0 : (0 : Int) ≤ (s : Int) := by omega
            have p1 : (s : Int) < (P.length : Int) := by omega
            by_cases hsi : s = i
            · subst hsi
              rw [hPi] at hv
              cases hv
              have v1 : (y.packet.id != y.packet.id) = false := by simp
              have v2 : ((s : Int) == (P.length : Int)) = false := by simp; omega
              have v3 : decide (y.packet.head = s0.packet.head) = true := by simp [hs0h]
              simp only [go_sem, Nat.reduceEqDiff, Nat.reduceLT, ↓reduceIte, Nat.reduceAdd, Nat.reduceSub, Nat.reduceMul, Nat.reduceBEq, Nat.reduceLeDiff, Nat.reduceDvd, reduceCtorEq, Int.reduceToNat, Int.reduceLT, Int.reduceLE, Nat.le_refl, Int.le_refl, false_implies, implies_true, frzSlot, List.take_length, List.mem_cons, List.not_mem_nil, or_false, forall_eq_or_imp, forall_eq, List.range_succ, List.range_zero, exists_eq_left', Option.some.injEq, B0.push2, QX_len, B0.sa, B0.ga, B0.g0, B0.s0, app_at0, app_at, app_set0, app_set, List.length_append, q0, hyj, j0, j1, putC_get hP, p0, p1, l3_get hPi, v1, v2, hid, hid2, l47_get hs0, v3, lastC_len, hLl', splice_at (show j < (lastC LA).length by rw [lastC_len]; exact hLl), w64s (show s < 9223372036854775807 by omega), w64s (show m < 9223372036854775807 by omega)]
              have e9 : (lastC LA).set j (.int .i64 ((s + 1 : Nat) : Int)) = lastC (LA.set j ((s : Int) + 1)) := by simp [lastC, List.map_set]
              rw [e9]
              have Be : Base (H1 ++ some (putC PUT') :: some (lastC (LA.set j ((s : Int) + 1))) :: (g ++ some (numbered k x).c :: (f ++ [some y.c]))) 3 2 := by
                have := Bn.swap (j := H1.length + 1) (cs := lastC (LA.set j ((s : Int) + 1))) (lastC_bnd _ _)
                simpa [app_set] using this
              exact ⟨(m + 1, LA.set j ((s : Int) + 1), f ++ [some y.c]), ⟨hmt, hnext, Be⟩, by dsimp only; omega, rfl, rfl⟩
            · have v1 : (v != y.packet.id) = true := by
                simp only [bne_iff_ne, ne_eq]
                exact fun e => hsi (huniq s v hv e)
              simp only [go_sem, Nat.reduceEqDiff, Nat.reduceLT, ↓reduceIte, Nat.reduceAdd, Nat.reduceSub, Nat.reduceMul, Nat.reduceBEq, Nat.reduceLeDiff, Nat.reduceDvd, reduceCtorEq, Int.reduceToNat, Int.reduceLT, Int.reduceLE, Nat.le_refl, Int.le_refl, false_implies, implies_true, frzSlot, List.take_length, List.mem_cons, List.not_mem_nil, or_false, forall_eq_or_imp, forall_eq, List.range_succ, List.range_zero, exists_eq_left', Option.some.injEq, B0.push2, QX_len, B0.sa, B0.ga, B0.g0, B0.s0, app_at0, app_at, app_set0, app_set, List.length_append, q0, hyj, j0, j1, putC_get hP, p0, p1, l3_get hv, v1, w64s (show s < 9223372036854775807 by omega)]
              exact ⟨s + 1, ⟨by omega, by omega⟩, by omega, rfl, rfl⟩
          · have m1 : ¬ (m : Int) < (T.length : Int) := by omega
            have hme : m = T.length := by omega
            subst hme
            rw [List.drop_length] at hOm
            simp only [go_sem, Nat.reduceEqDiff, Nat.reduceLT, ↓reduceIte, Nat.reduceAdd, Nat.reduceSub, Nat.reduceMul, Nat.reduceBEq, Nat.reduceLeDiff, Nat.reduceDvd, reduceCtorEq, Int.reduceToNat, Int.reduceLT, Int.reduceLE, Nat.le_refl, Int.le_refl, false_implies, implies_true, frzSlot, List.take_length, List.mem_cons, List.not_mem_nil, or_false, forall_eq_or_imp, forall_eq, List.range_succ, List.range_zero, exists_eq_left', Option.some.injEq, m1, B0.ga, q0, app_at0, app_at, app_set0, app_set, List.length_append]
            refine awp_wh (σ := Nat × Heap) (fun s => [(1, .ptr 0 0), (3, .ptr 3 0), (5, .msl H1.length 0 c.n.links.length 1), (6, .msl (H1.length + 1) 0 c.n.links.length 1), (45, .sl none (l47 c.l)), (46, .int .i64 (c.l.length : Int)), (47, .int .i64 (k : Int)), (148, .int .i64 (c.n.links.length : Int)), (149, .int .i64 (s.1 : Int))])
              (fun s => QH (H1 ++ some (putC PUT') :: some (lastC LA) :: s.2) 3 2 q')
              (fun s => s.1 ≤ c.n.links.length ∧ Base (H1 ++ some (putC PUT') :: some (lastC LA) :: s.2) 3 2)
              (fun s => c.n.links.length - s.1) (0, g ++ some (numbered k x).c :: f) ⟨Nat.zero_le _, Bf⟩ rfl rfl ?_
            rintro ⟨j, u⟩ ⟨hj9, Bu⟩
            dsimp only at hj9 Bu ⊢
            by_cases hjl : j < c.n.links.length
            · obtain ⟨P, hP, hph, hPl, hin, hsum, ho0, hlo0⟩ := hOm.meter hI' (show j < q'.lines.length by omega)
              have j0 : (0 : Int) ≤ (j : Int) := by omega
              have j1 : (j : Int) < (c.n.links.length : Int) := by omega
              have Bm : Base (H1 ++ some (putC PUT') :: some (lastC LA) :: (u ++ [some (pmeter q' (j : Int)).c])) 3 2 := by
                have := Bu.app (cs := (pmeter q' (j : Int)).c) (by simp only [go_sem])
                simpa using this
              simp only [go_sem, Nat.reduceEqDiff, Nat.reduceLT, ↓reduceIte, Nat.reduceAdd, Nat.reduceSub, Nat.reduceMul, Nat.reduceBEq, Nat.reduceLeDiff, Nat.reduceDvd, reduceCtorEq, Int.reduceToNat, Int.reduceLT, Int.reduceLE, Nat.le_refl, Int.le_refl, false_implies, implies_true, frzSlot, List.take_length, List.mem_cons, List.not_mem_nil, or_false, forall_eq_or_imp, forall_eq, List.range_succ, List.range_zero, exists_eq_left', Option.some.injEq, j1]
              refine RCallK.intro (f17_r (j : Int) (Bu.v q')) ?_
              have w1 : ((pmeter q' (j : Int)).in_ != (P.length : Int)) = false := by simp [hin]
              have w2 : IntKind.i64.wrap ((pmeter q' (j : Int)).out + (pmeter q' (j : Int)).lost) = (pmeter q' (j : Int)).out + (pmeter q' (j : Int)).lost := w64 (by omega) (by omega)
              have w3 : IntKind.i64.wrap ((pmeter q' (j : Int)).out + (pmeter q' (j : Int)).lost + (pwaiting q' (j : Int)).length) = (pmeter q' (j : Int)).out + (pmeter q' (j : Int)).lost + (pwaiting q' (j : Int)).length := w64 (by omega) (by omega)
              have w4 : IntKind.i64.wrap ((pmeter q' (j : Int)).out + (pmeter q' (j : Int)).lost + (pwaiting q' (j : Int)).length + (pflying q' (j : Int)).length) = (pmeter q' (j : Int)).in_ := by rw [w64 (by omega) (by omega)]; omega
              have w5 : ((pmeter q' (j : Int)).in_ != (pmeter q' (j : Int)).in_) = false := by simp
              simp only [go_sem, Nat.reduceEqDiff, Nat.reduceLT, ↓reduceIte, Nat.reduceAdd, Nat.reduceSub, Nat.reduceMul, Nat.reduceBEq, Nat.reduceLeDiff, Nat.reduceDvd, reduceCtorEq, Int.reduceToNat, Int.reduceLT, Int.reduceLE, Nat.le_refl, Int.le_refl, false_implies, implies_true, frzSlot, List.take_length, List.mem_cons, List.not_mem_nil, or_false, forall_eq_or_imp, forall_eq, List.range_succ, List.range_zero, exists_eq_left', Option.some.injEq, B0.push2, QX_len, B0.sa, B0.ga, B0.g0, B0.s0, app_at0, app_at, app_set0, app_set, List.length_append, j0, j1, putC_get hP, w1, w2]
              refine RCallK.intro (f18_r (j : Int) hfine.1 (Bm.v q')) ?_
              simp only [go_sem, Nat.reduceEqDiff, Nat.reduceLT, ↓reduceIte, Nat.reduceAdd, Nat.reduceSub, Nat.reduceMul, Nat.reduceBEq, Nat.reduceLeDiff, Nat.reduceDvd, reduceCtorEq, Int.reduceToNat, Int.reduceLT, Int.reduceLE, Nat.le_refl, Int.le_refl, false_implies, implies_true, frzSlot, List.take_length, List.mem_cons, List.not_mem_nil, or_false, forall_eq_or_imp, forall_eq, List.range_succ, List.range_zero, exists_eq_left', Option.some.injEq, B0.push2, QX_len, B0.sa, B0.ga, B0.g0, B0.s0, app_at0, app_at, app_set0, app_set, List.length_append, w2, w3]
              refine RCallK.intro (f19_r (j : Int) hfine.1 (Bm.v q')) ?_
              simp only [go_sem, Nat.reduceEqDiff, Nat.reduceLT, ↓reduceIte, Nat.reduceAdd, Nat.reduceSub, Nat.reduceMul, Nat.reduceBEq, Nat.reduceLeDiff, Nat.reduceDvd, reduceCtorEq, Int.reduceToNat, Int.reduceLT, Int.reduceLE, Nat.le_refl, Int.le_refl, false_implies, implies_true, frzSlot, List.take_length, List.mem_cons, List.not_mem_nil, or_false, forall_eq_or_imp, forall_eq, List.range_succ, List.range_zero, exists_eq_left', Option.some.injEq, B0.push2, QX_len, B0.sa, B0.ga, B0.g0, B0.s0, app_at0, app_at, app_set0, app_set, List.length_append, w2, w3, w4, w5, w64s (show j < 9223372036854775807 by omega)]
              exact ⟨(j + 1, u ++ [some (pmeter q' (j : Int)).c]), ⟨hjl, Bm⟩, by dsimp only; omega, rfl, rfl⟩
            · have j1 : ¬ (j : Int) < (c.n.links.length : Int) := by omega
              simp only [go_sem, Nat.reduceEqDiff, Nat.reduceLT, ↓reduceIte, Nat.reduceAdd, Nat.reduceSub, Nat.reduceMul, Nat.reduceBEq, Nat.reduceLeDiff, Nat.reduceDvd, reduceCtorEq, Int.reduceToNat, Int.reduceLT, Int.reduceLE, Nat.le_refl, Int.le_refl, false_implies, implies_true, frzSlot, List.take_length, List.mem_cons, List.not_mem_nil, or_false, forall_eq_or_imp, forall_eq, List.range_succ, List.range_zero, exists_eq_left', Option.some.injEq, j1, w64s (show k < 9223372036854775807 by omega)]
              exact ⟨(k + 1, q', PUT', LA, u), ⟨hlt, hI', hOm, Bu⟩, by dsimp only; omega, rfl, rfl⟩
        · have hO' := order_step hO hI (numbered k x) (fun hc => hno ⟨hc.1, hc.2⟩)
          have Bp := Bx
          generalize hPP : PUT = PUT' at *
          by_cases hk1 : x.kind = 1
          · have e1 : (x.kind == 1) = true := by simp [hk1]
            have e2 : ((pdo q (numbered k x)).2.2 == 0) = false := by simpa using fun h => hno ⟨hk1, h⟩
            simp only [go_sem, Nat.reduceEqDiff, Nat.reduceLT, ↓reduceIte, Nat.reduceAdd, Nat.reduceSub, Nat.reduceMul, Nat.reduceBEq, Nat.reduceLeDiff, Nat.reduceDvd, reduceCtorEq, Int.reduceToNat, Int.reduceLT, Int.reduceLE, Nat.le_refl, Int.le_refl, false_implies, implies_true, frzSlot, List.take_length, List.mem_cons, List.not_mem_nil, or_false, forall_eq_or_imp, forall_eq, List.range_succ, List.range_zero, exists_eq_left', Option.some.injEq, B0.push2, QX_len, B0.sa, B0.ga, B0.g0, B0.s0, app_at0, app_at, app_set0, app_set, List.length_append, nkind, nlink, e1, e2]
            have hlinks := pdo_link q (numbered k x)
            have hTl := pdo_len hI (numbered k x)
            have hlq : q.lines.length = c.n.links.length := hI.len
            have hlq' : (pdo q (numbered k x)).1.lines.length = c.n.links.length := hI'.len
            have hlp' : PUT'.length = c.n.links.length := by rw [hO'.l1, hlq']
            have hfine := hI'.fine
            generalize hTe : (pdo q (numbered k x)).2.1 = T at *
            generalize (pdo q (numbered k x)).1 = q' at *
            refine awp_wh (σ := Nat × List Int × Heap) (fun s => [(1, .ptr 0 0), (3, .ptr 3 0), (5, .msl H1.length 0 c.n.links.length 1), (6, .msl (H1.length + 1) 0 c.n.links.length 1), (45, .sl none (l47 c.l)), (46, .int .i64 (c.l.length : Int)), (47, .int .i64 (k : Int)), (80, .sl none (l57 T)), (81, .int .i64 (T.length : Int)), (82, .int .i64 (s.1 : Int))])
              (fun s => QH (H1 ++ some (putC PUT') :: some (lastC s.2.1) :: (g ++ some (numbered k x).c :: s.2.2)) 3 2 q')
              (fun s => s.1 ≤ T.length ∧ OAll c.l (k + 1) q' PUT' (T.drop s.1) s.2.1 ∧ Base (H1 ++ some (putC PUT') :: some (lastC s.2.1) :: (g ++ some (numbered k x).c :: s.2.2)) 3 2)
              (fun s => T.length - s.1) (0, LAST, []) ⟨Nat.zero_le _, hO', Bp⟩ rfl rfl ?_
            rintro ⟨m, LA, f⟩ ⟨hm, hOm, Bf⟩
            dsimp only at hm hOm Bf ⊢
            by_cases hmt : m < T.length
            · obtain ⟨y, hy⟩ : ∃ y, T[m]? = some y := ⟨_, List.getElem?_eq_getElem hmt⟩
              obtain ⟨j, hyj, hjl⟩ := hlinks y (List.mem_of_getElem? hy)
              obtain ⟨P, a, i, hP, ha, a0, ai, hPi, hPl, huniq, hhead, hid, hnext⟩ := hOm.next hy hyj (by omega)
              obtain ⟨a, rfl⟩ : ∃ a' : Nat, a = (a' : Int) := ⟨a.toNat, by omega⟩
              have ai : a ≤ i := by omega
              have hiP : i < P.length := (List.getElem?_eq_some_iff.1 hPi).1
              have m0 : (0 : Int) ≤ (m : Int) := by omega
              have m1 : (m : Int) < (T.length : Int) := by omega
              have j0 : (0 : Int) ≤ (j : Int) := by omega
              have j1 : (j : Int) < (c.n.links.length : Int) := by omega
              have hLl : j < LA.length := (List.getElem?_eq_some_iff.1 ha).1
              have hLl' : j + 1 ≤ LA.length := hLl
              simp only [go_sem, Nat.reduceEqDiff, Nat.reduceLT, ↓reduceIte, Nat.reduceAdd, Nat.reduceSub, Nat.reduceMul, Nat.reduceBEq, Nat.reduceLeDiff, Nat.reduceDvd, reduceCtorEq, Int.reduceToNat, Int.reduceLT, Int.reduceLE, Nat.le_refl, Int.le_refl, false_implies, implies_true, frzSlot, List.take_length, List.mem_cons, List.not_mem_nil, or_false, forall_eq_or_imp, forall_eq, List.range_succ, List.range_zero, exists_eq_left', Option.some.injEq, m0, m1, l57_get hy, B0.push2, QX_len, B0.sa, B0.ga, B0.g0, B0.s0, app_at0, app_at, app_set0, app_set, List.length_append, hyj, j0, j1, lastC_get ha]
              have Bn : Base (H1 ++ some (putC PUT') :: some (lastC LA) :: (g ++ some (numbered k x).c :: (f ++ [some y.c]))) 3 2 := by
                have := Bf.app (cs := y.c) (by simp only [go_sem])
                simpa using this
              obtain ⟨s0, hs0, hs0h⟩ := hhead
              have hidl : y.packet.id.toNat < c.l.length := (List.getElem?_eq_some_iff.1 hs0).1
              have hid2 : y.packet.id < (c.l.length : Int) := by omega
              refine awp_wh (σ := Nat) (fun s => [(1, .ptr 0 0), (3, .ptr 3 0), (5, .msl H1.length 0 c.n.links.length 1), (6, .msl (H1.length + 1) 0 c.n.links.length 1), (12, .ptr (H1.length + (g.length + (f.length + 1) + 1 + 1)) 0), (13, .int .i64 (s : Int)), (45, .sl none (l47 c.l)), (46, .int .i64 (c.l.length : Int)), (47, .int .i64 (k : Int)), (80, .sl none (l57 T)), (81, .int .i64 (T.length : Int)), (82, .int .i64 (m : Int))])
                (fun _ => QH (H1 ++ some (putC PUT') :: some (lastC LA) :: (g ++ some (numbered k x).c :: (f ++ [some y.c]))) 3 2 q')
                (fun s => a ≤ s ∧ s ≤ i) (fun s => i - s) a ⟨Nat.le_refl _, ai⟩ rfl rfl ?_
              rintro s ⟨hs1, hs2⟩
              obtain ⟨v, hv⟩ : ∃ v, P[s]? = some v := ⟨_, List.getElem?_eq_getElem (by omega)⟩
              have p0 : (0 : Int) ≤ (s : Int) := by omega
              have p1 : (s : Int) < (P.length : Int) := by omega
              by_cases hsi : s = i
              · subst hsi
                rw [hPi] at hv
                cases hv
                have v1 : (y.packet.id != y.packet.id) = false := by simp
                have v2 : ((s : Int) == (P.length : Int)) = false := by simp; omega
                have v3 : decide (y.packet.head = s0.packet.head) = true := by simp [hs0h]
                simp only [go_sem, Nat.reduceEqDiff, Nat.reduceLT, ↓reduceIte, Nat.reduceAdd, Nat.reduceSub, Nat.reduceMul, Nat.reduceBEq, Nat.reduceLeDiff, Nat.reduceDvd, reduceCtorEq, Int.reduceToNat, Int.reduceLT, Int.reduceLE, Nat.le_refl, Int.le_refl, false_implies, implies_true, frzSlot, List.take_length, List.mem_cons, List.not_mem_nil, or_false, forall_eq_or_imp, forall_eq, List.range_succ, List.range_zero, exists_eq_left', Option.some.injEq, B0.push2, QX_len, B0.sa, B0.ga, B0.g0, B0.s0, app_at0, app_at, app_set0, app_set, List.length_append, q0, hyj, j0, j1, putC_get hP, p0, p1, l3_get hPi, v1, v2, hid, hid2, l47_get hs0, v3, lastC_len, hLl', splice_at (show j < (lastC LA).length by rw [lastC_len]; exact hLl), w64s (show s < 9223372036854775807 by omega), w64s (show m < 9223372036854775807 by omega)]
                have e9 : (lastC LA).set j (.int .i64 ((s + 1 : Nat) : Int)) = lastC (LA.set j ((s : Int) + 1)) := by simp [lastC, List.map_set]
                rw [e9]
                have Be : Base (H1 ++ some (putC PUT') :: some (lastC (LA.set j ((s : Int) + 1))) :: (g ++ some (numbered k x).c :: (f ++ [some y.c]))) 3 2 := by
                  have := Bn.swap (j := H1.length + 1) (cs := lastC (LA.set j ((s : Int) + 1))) (lastC_bnd _ _)
                  simpa [app_set] using this
                exact ⟨(m + 1, LA.set j ((s : Int) + 1), f ++ [some y.c]), ⟨hmt, hnext, Be⟩, by dsimp only; omega, rfl, rfl⟩
              · have v1 : (v != y.packet.id) = true := by
                  simp only [bne_iff_ne, ne_eq]
                  exact fun e => hsi (huniq s v hv e)
                simp only [go_sem, Nat.reduceEqDiff, Nat.reduceLT, ↓reduceIte, Nat.reduceAdd, Nat.reduceSub, Nat.reduceMul, Nat.reduceBEq, Nat.reduceLeDiff, Nat.reduceDvd, reduceCtorEq, Int.reduceToNat, Int.reduceLT, Int.reduceLE, Nat.le_refl, Int.le_refl, false_implies, implies_true, frzSlot, List.take_length, List.mem_cons, List.not_mem_nil, or_false, forall_eq_or_imp, forall_eq, List.range_succ, List.range_zero, exists_eq_left', Option.some.injEq, B0.push2, QX_len, B0.sa, B0.ga, B0.g0, B0.s0, app_at0, app_at, app_set0, app_set, List.length_append, q0, hyj, j0, j1, putC_get hP, p0, p1, l3_get hv, v1, w64s (show s < 9223372036854775807 by omega)]
                exact ⟨s + 1, ⟨by omega, by omega⟩, by omega, rfl, rfl⟩
            · have m1 : ¬ (m : Int) < (T.length : Int) := by omega
              have hme : m = T.length := by omega
              subst hme
              rw [List.drop_length] at hOm
              simp only [go_sem, Nat.reduceEqDiff, Nat.reduceLT, ↓reduceIte, Nat.reduceAdd, Nat.reduceSub, Nat.reduceMul, Nat.reduceBEq, Nat.reduceLeDiff, Nat.reduceDvd, reduceCtorEq, Int.reduceToNat, Int.reduceLT, Int.reduceLE, Nat.le_refl, Int.le_refl, false_implies, implies_true, frzSlot, List.take_length, List.mem_cons, List.not_mem_nil, or_false, forall_eq_or_imp, forall_eq, List.range_succ, List.range_zero, exists_eq_left', Option.some.injEq, m1, B0.ga, q0, app_at0, app_at, app_set0, app_set, List.length_append]
              refine awp_wh (σ := Nat × Heap) (fun s => [(1, .ptr 0 0), (3, .ptr 3 0), (5, .msl H1.length 0 c.n.links.length 1), (6, .msl (H1.length + 1) 0 c.n.links.length 1), (45, .sl none (l47 c.l)), (46, .int .i64 (c.l.length : Int)), (47, .int .i64 (k : Int)), (148, .int .i64 (c.n.links.length : Int)), (149, .int .i64 (s.1 : Int))])
                (fun s => QH (H1 ++ some (putC PUT') :: some (lastC LA) :: s.2) 3 2 q')
                (fun s => s.1 ≤ c.n.links.length ∧ Base (H1 ++ some (putC PUT') :: some (lastC LA) :: s.2) 3 2)
                (fun s => c.n.links.length - s.1) (0, g ++ some (numbered k x).c :: f) ⟨Nat.zero_le _, Bf⟩ rfl rfl ?_
              rintro ⟨j, u⟩ ⟨hj9, Bu⟩
              dsimp only at hj9 Bu ⊢
              by_cases hjl : j < c.n.links.length
              · obtain ⟨P, hP, hph, hPl, hin, hsum, ho0, hlo0⟩ := hOm.meter hI' (show j < q'.lines.length by omega)
                have j0 : (0 : Int) ≤ (j : Int) := by omega
                have j1 : (j : Int) < (c.n.links.length : Int) := by omega
                have Bm : Base (H1 ++ some (putC PUT') :: some (lastC LA) :: (u ++ [some (pmeter q' (j : Int)).c])) 3 2 := by
                  have := Bu.app (cs := (pmeter q' (j : Int)).c) (by simp only [go_sem])
                  simpa using this
                simp only [go_sem, Nat.reduceEqDiff, Nat.reduceLT, ↓reduceIte, Nat.reduceAdd, Nat.reduceSub, Nat.reduceMul, Nat.reduceBEq, Nat.reduceLeDiff, Nat.reduceDvd, reduceCtorEq, Int.reduceToNat, Int.reduceLT, Int.reduceLE, Nat.le_refl, Int.le_refl, false_implies, implies_true, frzSlot, List.take_length, List.mem_cons, List.not_mem_nil, or_false, forall_eq_or_imp, forall_eq, List.range_succ, List.range_zero, exists_eq_left', Option.some.injEq, j1]
                refine RCallK.intro (f17_r (j : Int) (Bu.v q')) ?_
                have w1 : ((pmeter q' (j : Int)).in_ != (P.length : Int)) = false := by simp [hin]
                have w2 : IntKind.i64.wrap ((pmeter q' (j : Int)).out + (pmeter q' (j : Int)).lost) = (pmeter q' (j : Int)).out + (pmeter q' (j : Int)).lost := w64 (by omega) (by omega)
                have w3 : IntKind.i64.wrap ((pmeter q' (j : Int)).out + (pmeter q' (j : Int)).lost + (pwaiting q' (j : Int)).length) = (pmeter q' (j : Int)).out + (pmeter q' (j : Int)).lost + (pwaiting q' (j : Int)).length := w64 (by omega) (by omega)
                have w4 : IntKind.i64.wrap ((pmeter q' (j : Int)).out + (pmeter q' (j : Int)).lost + (pwaiting q' (j : Int)).length + (pflying q' (j : Int)).length) = (pmeter q' (j : Int)).in_ := by rw [w64 (by omega) (by omega)]; omega
                have w5 : ((pmeter q' (j : Int)).in_ != (pmeter q' (j : Int)).in_) = false := by simp
                simp only [go_sem, Nat.reduceEqDiff, Nat.reduceLT, ↓reduceIte, Nat.reduceAdd, Nat.reduceSub, Nat.reduceMul, Nat.reduceBEq, Nat.reduceLeDiff, Nat.reduceDvd, reduceCtorEq, Int.reduceToNat, Int.reduceLT, Int.reduceLE, Nat.le_refl, Int.le_refl, false_implies, implies_true, frzSlot, List.take_length, List.mem_cons, List.not_mem_nil, or_false, forall_eq_or_imp, forall_eq, List.range_succ, List.range_zero, exists_eq_left', Option.some.injEq, B0.push2, QX_len, B0.sa, B0.ga, B0.g0, B0.s0, app_at0, app_at, app_set0, app_set, List.length_append, j0, j1, putC_get hP, w1, w2]
                refine RCallK.intro (f18_r (j : Int) hfine.1 (Bm.v q')) ?_
                simp only [go_sem, Nat.reduceEqDiff, Nat.reduceLT, ↓reduceIte, Nat.reduceAdd, Nat.reduceSub, Nat.reduceMul, Nat.reduceBEq, Nat.reduceLeDiff, Nat.reduceDvd, reduceCtorEq, Int.reduceToNat, Int.reduceLT, Int.reduceLE, Nat.le_refl, Int.le_refl, false_implies, implies_true, frzSlot, List.take_length, List.mem_cons, List.not_mem_nil, or_false, forall_eq_or_imp, forall_eq, List.range_succ, List.range_zero, exists_eq_left', Option.some.injEq, B0.push2, QX_len, B0.sa, B0.ga, B0.g0, B0.s0, app_at0, app_at, app_set0, app_set, List.length_append, w2, w3]
                refine RCallK.intro (f19_r (j : Int) hfine.1 (Bm.v q')) ?_
                simp only [go_sem, Nat.reduceEqDiff, Nat.reduceLT, ↓reduceIte, Nat.reduceAdd, Nat.reduceSub, Nat.reduceMul, Nat.reduceBEq, Nat.reduceLeDiff, Nat.reduceDvd, reduceCtorEq, Int.reduceToNat, Int.reduceLT, Int.reduceLE, Nat.le_refl, Int.le_refl, false_implies, implies_true, frzSlot, List.take_length, List.mem_cons, List.not_mem_nil, or_false, forall_eq_or_imp, forall_eq, List.range_succ, List.range_zero, exists_eq_left', Option.some.injEq, B0.push2, QX_len, B0.sa, B0.ga, B0.g0, B0.s0, app_at0, app_at, app_set0, app_set, List.length_append, w2, w3, w4, w5, w64s (show j < 9223372036854775807 by omega)]
                exact ⟨(j + 1, u ++ [some (pmeter q' (j : Int)).c]), ⟨hjl, Bm⟩, by dsimp only; omega, rfl, rfl⟩
              · have j1 : ¬ (j : Int) < (c.n.links.length : Int) := by omega
                simp only [go_sem, Nat.reduceEqDiff, Nat.reduceLT, ↓reduceIte, Nat.reduceAdd, Nat.reduceSub, Nat.reduceMul, Nat.reduceBEq, Nat.reduceLeDiff, Nat.reduceDvd, reduceCtorEq, Int.reduceToNat, Int.reduceLT, Int.reduceLE, Nat.le_refl, Int.le_refl, false_implies, implies_true, frzSlot, List.take_length, List.mem_cons, List.not_mem_nil, or_false, forall_eq_or_imp, forall_eq, List.range_succ, List.range_zero, exists_eq_left', Option.some.injEq, j1, w64s (show k < 9223372036854775807 by omega)]
                exact ⟨(k + 1, q', PUT', LA, u), ⟨hlt, hI', hOm, Bu⟩, by dsimp only; omega, rfl, rfl⟩
          · have e1 : (x.kind == 1) = false := by simp [hk1]
            simp only [go_sem, Nat.reduceEqDiff, Nat.reduceLT, ↓reduceIte, Nat.reduceAdd, Nat.reduceSub, Nat.reduceMul, Nat.reduceBEq, Nat.reduceLeDiff, Nat.reduceDvd, reduceCtorEq, Int.reduceToNat, Int.reduceLT, Int.reduceLE, Nat.le_refl, Int.le_refl, false_implies, implies_true, frzSlot, List.take_length, List.mem_cons, List.not_mem_nil, or_false, forall_eq_or_imp, forall_eq, List.range_succ, List.range_zero, exists_eq_left', Option.some.injEq, B0.push2, QX_len, B0.sa, B0.ga, B0.g0, B0.s0, app_at0, app_at, app_set0, app_set, List.length_append, nkind, nlink, e1]
            have hlinks := pdo_link q (numbered k x)
            have hTl := pdo_len hI (numbered k x)
            have hlq : q.lines.length = c.n.links.length := hI.len
            have hlq' : (pdo q (numbered k x)).1.lines.length = c.n.links.length := hI'.len
            have hlp' : PUT'.length = c.n.links.length := by rw [hO'.l1, hlq']
            have hfine := hI'.fine
            generalize hTe : (pdo q (numbered k x)).2.1 = T at *
            generalize (pdo q (numbered k x)).1 = q' at *
            refine awp_wh (σ := Nat × List Int × Heap) (fun s => [(1, .ptr 0 0), (3, .ptr 3 0), (5, .msl H1.length 0 c.n.links.length 1), (6, .msl (H1.length + 1) 0 c.n.links.length 1), (45, .sl none (l47 c.l)), (46, .int .i64 (c.l.length : Int)), (47, .int .i64 (k : Int)), (80, .sl none (l57 T)), (81, .int .i64 (T.length : Int)), (82, .int .i64 (s.1 : Int))])
              (fun s => QH (H1 ++ some (putC PUT') :: some (lastC s.2.1) :: (g ++ some (numbered k x).c :: s.2.2)) 3 2 q')
              (fun s => s.1 ≤ T.length ∧ OAll c.l (k + 1) q' PUT' (T.drop s.1) s.2.1 ∧ Base (H1 ++ some (putC PUT') :: some (lastC s.2.1) :: (g ++ some (numbered k x).c :: s.2.2)) 3 2)
              (fun s => T.length - s.1) (0, LAST, []) ⟨Nat.zero_le _, hO', Bp⟩ rfl rfl ?_
            rintro ⟨m, LA, f⟩ ⟨hm, hOm, Bf⟩
            dsimp only at hm hOm Bf ⊢
            by_cases hmt : m < T.length
            · obtain ⟨y, hy⟩ : ∃ y, T[m]? = some y := ⟨_, List.getElem?_eq_getElem hmt⟩
              obtain ⟨j, hyj, hjl⟩ := hlinks y (List.mem_of_getElem? hy)
              obtain ⟨P, a, i, hP, ha, a0, ai, hPi, hPl, huniq, hhead, hid, hnext⟩ := hOm.next hy hyj (by omega)
              obtain ⟨a, rfl⟩ : ∃ a' : Nat, a = (a' : Int) := ⟨a.toNat, by omega⟩
              have ai : a ≤ i := by omega
              have hiP : i < P.length := (List.getElem?_eq_some_iff.1 hPi).1
              have m0 : (0 : Int) ≤ (m : Int) := by omega
              have m1 : (m : Int) < (T.length : Int) := by omega
              have j0 : (0 : Int) ≤ (j : Int) := by omega
              have j1 : (j : Int) < (c.n.links.length : Int) := by omega
              have hLl : j < LA.length := (List.getElem?_eq_some_iff.1 ha).1
              have hLl' : j + 1 ≤ LA.length := hLl
              simp only [go_sem, Nat.reduceEqDiff, Nat.reduceLT, ↓reduceIte, Nat.reduceAdd, Nat.reduceSub, Nat.reduceMul, Nat.reduceBEq, Nat.reduceLeDiff, Nat.reduceDvd, reduceCtorEq, Int.reduceToNat, Int.reduceLT, Int.reduceLE, Nat.le_refl, Int.le_refl, false_implies, implies_true, frzSlot, List.take_length, List.mem_cons, List.not_mem_nil, or_false, forall_eq_or_imp, forall_eq, List.range_succ, List.range_zero, exists_eq_left', Option.some.injEq, m0, m1, l57_get hy, B0.push2, QX_len, B0.sa, B0.ga, B0.g0, B0.s0, app_at0, app_at, app_set0, app_set, List.length_append, hyj, j0, j1, lastC_get ha]
              have Bn : Base (H1 ++ some (putC PUT') :: some (lastC LA) :: (g ++ some (numbered k x).c :: (f ++ [some y.c]))) 3 2 := by
                have := Bf.app (cs := y.c) (by simp only [go_sem])
                simpa using this
              obtain ⟨s0, hs0, hs0h⟩ := hhead
              have hidl : y.packet.id.toNat < c.l.length := (List.getElem?_eq_some_iff.1 hs0).1
              have hid2 : y.packet.id < (c.l.length : Int) := by omega
              refine awp_wh (σ := Nat) (fun s => [(1, .ptr 0 0), (3, .ptr 3 0), (5, .msl H1.length 0 c.n.links.length 1), (6, .msl (H1.length + 1) 0 c.n.links.length 1), (12, .ptr (H1.length + (g.length + (f.length + 1) + 1 + 1)) 0), (13, .int .i64 (s : Int)), (45, .sl none (l47 c.l)), (46, .int .i64 (c.l.length : Int)), (47, .int .i64 (k : Int)), (80, .sl none (l57 T)), (81, .int .i64 (T.length : Int)), (82, .int .i64 (m : Int))])
                (fun _ => QH (H1 ++ some (putC PUT') :: some (lastC LA) :: (g ++ some (numbered k x).c :: (f ++ [some y.c]))) 3 2 q')
                (fun s => a ≤ s ∧ s ≤ i) (fun s => i - s) a ⟨Nat.le_refl _, ai⟩ rfl rfl ?_
              rintro s ⟨hs1, hs2⟩
              obtain ⟨v, hv⟩ : ∃ v, P[s]? = some v := ⟨_, List.getElem?_eq_getElem (by omega)⟩
              have p0 : (0 : Int) ≤ (s : Int) := by omega
              have p1 : (s : Int) < (P.length : Int) := by omega
              by_cases hsi : s = i
              · subst hsi
                rw [hPi] at hv
                cases hv
                have v1 : (y.packet.id != y.packet.id) = false := by simp
                have v2 : ((s : Int) == (P.length : Int)) = false := by simp; omega
                have v3 : decide (y.packet.head = s0.packet.head) = true := by simp [hs0h]
                simp only [go_sem, Nat.reduceEqDiff, Nat.reduceLT, ↓reduceIte, Nat.reduceAdd, Nat.reduceSub, Nat.reduceMul, Nat.reduceBEq, Nat.reduceLeDiff, Nat.reduceDvd, reduceCtorEq, Int.reduceToNat, Int.reduceLT, Int.reduceLE, Nat.le_refl, Int.le_refl, false_implies, implies_true, frzSlot, List.take_length, List.mem_cons, List.not_mem_nil, or_false, forall_eq_or_imp, forall_eq, List.range_succ, List.range_zero, exists_eq_left', Option.some.injEq, B0.push2, QX_len, B0.sa, B0.ga, B0.g0, B0.s0, app_at0, app_at, app_set0, app_set, List.length_append, q0, hyj, j0, j1, putC_get hP, p0, p1, l3_get hPi, v1, v2, hid, hid2, l47_get hs0, v3, lastC_len, hLl', splice_at (show j < (lastC LA).length by rw [lastC_len]; exact hLl), w64s (show s < 9223372036854775807 by omega), w64s (show m < 9223372036854775807 by omega)]
                have e9 : (lastC LA).set j (.int .i64 ((s + 1 : Nat) : Int)) = lastC (LA.set j ((s : Int) + 1)) := by simp [lastC, List.map_set]
                rw [e9]
                have Be : Base (H1 ++ some (putC PUT') :: some (lastC (LA.set j ((s : Int) + 1))) :: (g ++ some (numbered k x).c :: (f ++ [some y.c]))) 3 2 := by
                  have := Bn.swap (j := H1.length + 1) (cs := lastC (LA.set j ((s : Int) + 1))) (lastC_bnd _ _)
                  simpa [app_set] using this
                exact ⟨(m + 1, LA.set j ((s : Int) + 1), f ++ [some y.c]), ⟨hmt, hnext, Be⟩, by dsimp only; omega, rfl, rfl⟩
              · have v1 : (v != y.packet.id) = true := by
                  simp only [bne_iff_ne, ne_eq]
                  exact fun e => hsi (huniq s v hv e)
                simp only [go_sem, Nat.reduceEqDiff, Nat.reduceLT, ↓reduceIte, Nat.reduceAdd, Nat.reduceSub, Nat.reduceMul, Nat.reduceBEq, Nat.reduceLeDiff, Nat.reduceDvd, reduceCtorEq, Int.reduceToNat, Int.reduceLT, Int.reduceLE, Nat.le_refl, Int.le_refl, false_implies, implies_true, frzSlot, List.take_length, List.mem_cons, List.not_mem_nil, or_false, forall_eq_or_imp, forall_eq, List.range_succ, List.range_zero, exists_eq_left', Option.some.injEq, B0.push2, QX_len, B0.sa, B0.ga, B0.g0, B0.s0, app_at0, app_at, app_set0, app_set, List.length_append, q0, hyj, j0, j1, putC_get hP, p0, p1, l3_get hv, v1, w64s (show s < 9223372036854775807 by omega)]
                exact ⟨s + 1, ⟨by omega, by omega⟩, by omega, rfl, rfl⟩
            · have m1 : ¬ (m : Int) < (T.length : Int) := by omega
              have hme : m = T.length := by omega
              subst hme
              rw [List.drop_length] at hOm
              simp only [go_sem, Nat.reduceEqDiff, Nat.reduceLT, ↓reduceIte, Nat.reduceAdd, Nat.reduceSub, Nat.reduceMul, Nat.reduceBEq, Nat.reduceLeDiff, Nat.reduceDvd, reduceCtorEq, Int.reduceToNat, Int.reduceLT, Int.reduceLE, Nat.le_refl, Int.le_refl, false_implies, implies_true, frzSlot, List.take_length, List.mem_cons, List.not_mem_nil, or_false, forall_eq_or_imp, forall_eq, List.range_succ, List.range_zero, exists_eq_left', Option.some.injEq, m1, B0.ga, q0, app_at0, app_at, app_set0, app_set, List.length_append]
              refine awp_wh (σ := Nat × Heap) (fun s => [(1, .ptr 0 0), (3, .ptr 3 0), (5, .msl H1.length 0 c.n.links.length 1), (6, .msl (H1.length + 1) 0 c.n.links.length 1), (45, .sl none (l47 c.l)), (46, .int .i64 (c.l.length : Int)), (47, .int .i64 (k : Int)), (148, .int .i64 (c.n.links.length : Int)), (149, .int .i64 (s.1 : Int))])
                (fun s => QH (H1 ++ some (putC PUT') :: some (lastC LA) :: s.2) 3 2 q')
                (fun s => s.1 ≤ c.n.links.length ∧ Base (H1 ++ some (putC PUT') :: some (lastC LA) :: s.2) 3 2)
                (fun s => c.n.links.length - s.1) (0, g ++ some (numbered k x).c :: f) ⟨Nat.zero_le _, Bf⟩ rfl rfl ?_
              rintro ⟨j, u⟩ ⟨hj9, Bu⟩
              dsimp only at hj9 Bu ⊢
              by_cases hjl : j < c.n.links.length
              · obtain ⟨P, hP, hph, hPl, hin, hsum, ho0, hlo0⟩ := hOm.meter hI' (show j < q'.lines.length by omega)
                have j0 : (0 : Int) ≤ (j : Int) := by omega
                have j1 : (j : Int) < (c.n.links.length : Int) := by omega
                have Bm : Base (H1 ++ some (putC PUT') :: some (lastC LA) :: (u ++ [some (pmeter q' (j : Int)).c])) 3 2 := by
                  have := Bu.app (cs := (pmeter q' (j : Int)).c) (by simp only [go_sem])
                  simpa using this
                simp only [go_sem, Nat.reduceEqDiff, Nat.reduceLT, ↓reduceIte, Nat.reduceAdd, Nat.reduceSub, Nat.reduceMul, Nat.reduceBEq, Nat.reduceLeDiff, Nat.reduceDvd, reduceCtorEq, Int.reduceToNat, Int.reduceLT, Int.reduceLE, Nat.le_refl, Int.le_refl, false_implies, implies_true, frzSlot, List.take_length, List.mem_cons, List.not_mem_nil, or_false, forall_eq_or_imp, forall_eq, List.range_succ, List.range_zero, exists_eq_left', Option.some.injEq, j1]
                refine RCallK.intro (f17_r (j : Int) (Bu.v q')) ?_
                have w1 : ((pmeter q' (j : Int)).in_ != (P.length : Int)) = false := by simp [hin]
                have w2 : IntKind.i64.wrap ((pmeter q' (j : Int)).out + (pmeter q' (j : Int)).lost) = (pmeter q' (j : Int)).out + (pmeter q' (j : Int)).lost := w64 (by omega) (by omega)
                have w3 : IntKind.i64.wrap ((pmeter q' (j : Int)).out + (pmeter q' (j : Int)).lost + (pwaiting q' (j : Int)).length) = (pmeter q' (j : Int)).out + (pmeter q' (j : Int)).lost + (pwaiting q' (j : Int)).length := w64 (by omega) (by omega)
                have w4 : IntKind.i64.wrap ((pmeter q' (j : Int)).out + (pmeter q' (j : Int)).lost + (pwaiting q' (j : Int)).length + (pflying q' (j : Int)).length) = (pmeter q' (j : Int)).in_ := by rw [w64 (by omega) (by omega)]; omega
                have w5 : ((pmeter q' (j : Int)).in_ != (pmeter q' (j : Int)).in_) = false := by simp
                simp only [go_sem, Nat.reduceEqDiff, Nat.reduceLT, ↓reduceIte, Nat.reduceAdd, Nat.reduceSub, Nat.reduceMul, Nat.reduceBEq, Nat.reduceLeDiff, Nat.reduceDvd, reduceCtorEq, Int.reduceToNat, Int.reduceLT, Int.reduceLE, Nat.le_refl, Int.le_refl, false_implies, implies_true, frzSlot, List.take_length, List.mem_cons, List.not_mem_nil, or_false, forall_eq_or_imp, forall_eq, List.range_succ, List.range_zero, exists_eq_left', Option.some.injEq, B0.push2, QX_len, B0.sa, B0.ga, B0.g0, B0.s0, app_at0, app_at, app_set0, app_set, List.length_append, j0, j1, putC_get hP, w1, w2]
                refine RCallK.intro (f18_r (j : Int) hfine.1 (Bm.v q')) ?_
                simp only [go_sem, Nat.reduceEqDiff, Nat.reduceLT, ↓reduceIte, Nat.reduceAdd, Nat.reduceSub, Nat.reduceMul, Nat.reduceBEq, Nat.reduceLeDiff, Nat.reduceDvd, reduceCtorEq, Int.reduceToNat, Int.reduceLT, Int.reduceLE, Nat.le_refl, Int.le_refl, false_implies, implies_true, frzSlot, List.take_length, List.mem_cons, List.not_mem_nil, or_false, forall_eq_or_imp, forall_eq, List.range_succ, List.range_zero, exists_eq_left', Option.some.injEq, B0.push2, QX_len, B0.sa, B0.ga, B0.g0, B0.s0, app_at0, app_at, app_set0, app_set, List.length_append, w2, w3]
                refine RCallK.intro (f19_r (j : Int) hfine.1 (Bm.v q')) ?_
                simp only [go_sem, Nat.reduceEqDiff, Nat.reduceLT, ↓reduceIte, Nat.reduceAdd, Nat.reduceSub, Nat.reduceMul, Nat.reduceBEq, Nat.reduceLeDiff, Nat.reduceDvd, reduceCtorEq, Int.reduceToNat, Int.reduceLT, Int.reduceLE, Nat.le_refl, Int.le_refl, false_implies, implies_true, frzSlot, List.take_length, List.mem_cons, List.not_mem_nil, or_false, forall_eq_or_imp, forall_eq, List.range_succ, List.range_zero, exists_eq_left', Option.some.injEq, B0.push2, QX_len, B0.sa, B0.ga, B0.g0, B0.s0, app_at0, app_at, app_set0, app_set, List.length_append, w2, w3, w4, w5, w64s (show j < 9223372036854775807 by omega)]
                exact ⟨(j + 1, u ++ [some (pmeter q' (j : Int)).c]), ⟨hjl, Bm⟩, by dsimp only; omega, rfl, rfl⟩
              · have j1 : ¬ (j : Int) < (c.n.links.length : Int) := by omega
                simp only [go_sem, Nat.reduceEqDiff, Nat.reduceLT, ↓reduceIte, Nat.reduceAdd, Nat.reduceSub, Nat.reduceMul, Nat.reduceBEq, Nat.reduceLeDiff, Nat.reduceDvd, reduceCtorEq, Int.reduceToNat, Int.reduceLT, Int.reduceLE, Nat.le_refl, Int.le_refl, false_implies, implies_true, frzSlot, List.take_length, List.mem_cons, List.not_mem_nil, or_false, forall_eq_or_imp, forall_eq, List.range_succ, List.range_zero, exists_eq_left', Option.some.injEq, j1, w64s (show k < 9223372036854775807 by omega)]
                exact ⟨(k + 1, q', PUT', LA, u), ⟨hlt, hI', hOm, Bu⟩, by dsimp only; omega, rfl, rfl⟩
      · have k1 : ¬ (k : Int) < (c.l.length : Int) := by omega
        simp only [go_sem, Nat.reduceEqDiff, Nat.reduceLT, ↓reduceIte, Nat.reduceAdd, Nat.reduceSub, Nat.reduceMul, Nat.reduceBEq, Nat.reduceLeDiff, Nat.reduceDvd, reduceCtorEq, Int.reduceToNat, Int.reduceLT, Int.reduceLE, Nat.le_refl, Int.le_refl, false_implies, implies_true, frzSlot, List.take_length, List.mem_cons, List.not_mem_nil, or_false, forall_eq_or_imp, forall_eq, List.range_succ, List.range_zero, exists_eq_left', Option.some.injEq, k1]
        refine PCallK.intro f10_c ?_
        simp only [go_sem, Nat.reduceEqDiff, Nat.reduceLT, ↓reduceIte, Nat.reduceAdd, Nat.reduceSub, Nat.reduceMul, Nat.reduceBEq, Nat.reduceLeDiff, Nat.reduceDvd, reduceCtorEq, Int.reduceToNat, Int.reduceLT, Int.reduceLE, Nat.le_refl, Int.le_refl, false_implies, implies_true, frzSlot, List.take_length, List.mem_cons, List.not_mem_nil, or_false, forall_eq_or_imp, forall_eq, List.range_succ, List.range_zero, exists_eq_left', Option.some.injEq]
end Go.AI
