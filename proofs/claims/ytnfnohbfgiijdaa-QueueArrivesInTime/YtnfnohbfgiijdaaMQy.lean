/- Plain laws of the queues: what leaves a link at a tick, and how much. -/
import Derived.Test.YtnfnohbfgiijdaaMf
import Derived.Test.YtnfnohbfgiijdaaQq
set_option linter.unusedSimpArgs false
set_option linter.unusedVariables false
namespace Go.AI
open Go.Proofs

def ofLink (k : Int) (p : Passed) : Bool := p.link == k

theorem outs_of (t : Int) (k j : Nat) (x : Ln) : (x.outs t k).filter (ofLink j) = if k = j then x.outs t k else [] := by
  unfold Ln.outs
  rw [List.filter_map]
  by_cases h : k = j
  · subst h
    rw [if_pos rfl]
    congr 1
    rw [List.filter_eq_self]
    intro p _
    simp [ofLink, pc]
  · rw [if_neg h]
    have : (x.packets.take (lead t x.due)).filter (ofLink j ∘ pc k) = [] := by
      rw [List.filter_eq_nil_iff]
      intro p _
      simp only [Function.comp, ofLink, pc, beq_iff_eq]
      omega
    rw [this]; rfl

theorem outs_flat (t : Int) (j : Nat) : ∀ (l : List Ln) (s : Nat),
    ((l.mapIdx fun k x => x.outs t (k + s)).flatten).filter (ofLink j) = if s ≤ j then ((l[j - s]?).map (fun x => x.outs t j)).getD [] else [] := by
  intro l
  induction l with
  | nil => intro s; simp
  | cons x l ih =>
    intro s
    rw [List.mapIdx_cons, List.flatten_cons, List.filter_append]
    have e : (l.mapIdx fun k x => x.outs t (k + 1 + s)) = l.mapIdx fun k x => x.outs t (k + (s + 1)) := by
      congr 1; funext k x; rw [Nat.add_right_comm, Nat.add_assoc]
    rw [e, ih (s + 1), Nat.zero_add, outs_of]
    by_cases h : s = j
    · subst h
      rw [if_pos rfl, if_neg (by omega), if_pos (Nat.le_refl _)]
      simp
    · rw [if_neg h]
      by_cases h2 : s ≤ j
      · have h3 : s + 1 ≤ j := by omega
        rw [if_pos h2, if_pos h3]
        obtain ⟨d, rfl⟩ : ∃ d, j = s + 1 + d := ⟨j - (s + 1), by omega⟩
        rw [show s + 1 + d - (s + 1) = d by omega, show s + 1 + d - s = d + 1 by omega]
        rfl
      · rw [if_neg h2, if_neg (by omega)]; rfl

/-- What leaves the link j at a tick. -/
theorem tick_of (q : QS) (j : Nat) : (ptick q).2.filter (ofLink j) = ((q.lines[j]?).map (fun x => x.outs (pnow q) j)).getD [] := by
  have := outs_flat (pnow q) j q.lines 0
  rw [if_pos (Nat.zero_le _)] at this
  exact this

theorem lead_count (t : Int) : ∀ due : List Int, lead t due ≤ due.count t := by
  intro due
  induction due with
  | nil => simp [lead]
  | cons d due ih =>
    rw [lead_cons]
    by_cases h : d = t
    · subst h; simp; exact ih
    · rw [if_neg h]; exact Nat.zero_le _

def LRate (x : Ln) : Prop := ∀ d, x.due.count d ≤ x.capacity.toNat
def Rate (q : QS) : Prop := ∀ x ∈ q.lines, LRate x

section
variable {i : Nat} {n : Network} {ds : List Int} {q : QS}

theorem Rate.setL (h : Rate q) (k : Nat) {x : Ln} (hx : LRate x) : Rate (q.set k x) := fun y hy => by
  rcases List.mem_or_eq_of_mem_set hy with h1 | h1
  · exact h y h1
  · rw [h1]; exact hx

theorem tick_due {x : Ln} {t : Int} (h : LInv i t x) (ht : 0 ≤ t ∧ t ≤ 100000) (hi : i < 3000) : (x.tick (t + 1)).due = x.due.drop (lead (t + 1) x.due) ++ List.replicate (x.arrive (t + 1)).room (t + 1 + x.delay) ∧ (x.arrive (t + 1)).room ≤ x.capacity.toNat := by
  have hw : IntKind.i64.wrap (t + 1 + x.delay) = t + 1 + x.delay := by have := h.del; rw [w64 (by omega) (by omega)]
  constructor
  · show x.due.drop _ ++ List.replicate _ (IntKind.i64.wrap (t + 1 + x.delay)) = _
    rw [hw]
  · unfold Ln.room
    show (if x.down = true then 0 else min x.capacity.toNat _) ≤ _
    split <;> omega

theorem tick_rate {x : Ln} {t : Int} (h : LInv i t x) (ht : 0 ≤ t ∧ t ≤ 100000) (hi : i < 3000) (hr : LRate x) : LRate (x.tick (t + 1)) := fun d => by
  obtain ⟨h1, h2⟩ := tick_due h ht hi
  rw [h1, List.count_append]
  show _ ≤ x.capacity.toNat
  by_cases hd : d = t + 1 + x.delay
  · have h3 : (x.due.drop (lead (t + 1) x.due)).count d = 0 := by
      rw [List.count_eq_zero]
      intro hm
      have := (h.late d (List.mem_of_mem_drop hm)).2
      omega
    rw [h3, hd, List.count_replicate_self]; omega
  · have h3 : (List.replicate (x.arrive (t + 1)).room (t + 1 + x.delay)).count d = 0 := by
      rw [List.count_eq_zero]
      intro hm
      exact hd (List.mem_replicate.1 hm).2
    have h4 : (x.due.drop (lead (t + 1) x.due)).count d ≤ x.due.count d := (List.drop_sublist _ _).count_le d
    have := hr d
    omega

theorem pnow_eq (h : QInv i n ds q) : pnow q = q.now + 1 := by
  have := h.t0; have := h.i80
  unfold pnow; rw [w64 (by omega) (by omega)]

theorem ptick_lines (h : QInv i n ds q) : (ptick q).1.lines = q.lines.map (Ln.tick (q.now + 1)) := by
  unfold ptick; rw [pnow_eq h]

theorem rate_step (h : QInv i n ds q) (hi : i < 3000) (hr : Rate q) (x : Step) : Rate (pdo q x).1 := by
  have ht := h.t0
  have h100 := h.i80
  unfold pdo
  split
  · unfold pput
    split
    · split
      · rename_i y hy
        refine hr.setL _ ?_
        have := hr y (List.mem_of_getElem? hy)
        unfold Ln.put Ln.refuse Ln.add
        split
        · exact this
        · split <;> exact this
      · exact hr
    · exact hr
  · split
    · intro y hy
      rw [ptick_lines h] at hy
      obtain ⟨z, hz, rfl⟩ := List.mem_map.1 hy
      exact tick_rate (h.line z hz) (by omega) hi (hr z hz)
    · split
      · unfold pswitch
        split
        · split
          · rename_i y hy
            refine hr.setL _ ?_
            have := hr y (List.mem_of_getElem? hy)
            unfold Ln.switch
            cases (x.kind == 4)
            · intro d; simp
            · exact this
          · exact hr
        · exact hr
      · exact hr

theorem rate_new {len : Int} : Rate (newq n ds len) := by
  intro x hx
  obtain ⟨k, hk⟩ := List.getElem?_of_mem hx
  have : (List.zipWith pline n.links ds)[k]? = some x := hk
  rw [List.getElem?_zipWith] at this
  cases hl : n.links[k]? with
  | none => rw [hl] at this; cases this
  | some l =>
    cases hd : ds[k]? with
    | none => rw [hl, hd] at this; cases this
    | some d => rw [hl, hd] at this; cases this; intro d; simp [pline, Ln.z]

/-- At a tick at most as many leave a link as it has capacity. -/
theorem rate_out (h : QInv i n ds q) (hr : Rate q) {j : Nat} {l : Link} (hl : n.links[j]? = some l) : (((ptick q).2.filter (ofLink j)).length : Int) ≤ l.capacity := by
  rw [tick_of]
  have hlt := (List.getElem?_eq_some_iff.1 hl).1
  obtain ⟨x, hx⟩ : ∃ x, q.lines[j]? = some x := ⟨_, List.getElem?_eq_getElem (by rw [h.len]; exact hlt)⟩
  obtain ⟨l', h1, h2⟩ := h.cap j x hx
  rw [hl] at h1
  cases h1
  rw [hx]
  have h3 := (h.line x (List.mem_of_getElem? hx)).cap
  have h4 := hr x (List.mem_of_getElem? hx) (pnow q)
  have h5 := lead_count (pnow q) x.due
  simp only [Option.map_some, Option.getD_some, Ln.outs, List.length_map, List.length_take]
  omega
end

theorem outsf_len (t : Int) (M : Nat) : ∀ (l : List Ln) (s : Nat), (∀ x ∈ l, x.packets.length ≤ M) →
    ((l.mapIdx fun k x => x.outs t (k + s)).flatten).length ≤ l.length * M := by
  intro l
  induction l with
  | nil => intro s _; simp
  | cons x l ih =>
    intro s h
    have e : (l.mapIdx fun k x => x.outs t (k + 1 + s)) = l.mapIdx fun k x => x.outs t (k + (s + 1)) := by
      congr 1; funext k x; rw [Nat.add_right_comm, Nat.add_assoc]
    rw [List.mapIdx_cons, List.flatten_cons, List.length_append, e]
    have h1 := ih (s + 1) (fun y hy => h y (by simp [hy]))
    have h2 := h x (by simp)
    have h3 : (x.outs t (0 + s)).length ≤ x.packets.length := by simp [Ln.outs]; omega
    rw [List.length_cons, Nat.add_mul]
    omega

theorem tick_len {i : Nat} {n : Network} {ds : List Int} {q : QS} (h : QInv i n ds q) : (ptick q).2.length ≤ 3000000 := by
  have h1 := outsf_len (pnow q) 3000 q.lines 0 (fun x hx => by have := (h.line x hx).pi; have := h.i80; omega)
  have h2 : q.lines.length ≤ 1000 := by rw [h.len]; exact h.small
  have h3 := Nat.mul_le_mul_right 3000 h2
  exact Nat.le_trans h1 h3

theorem pdo_len {i : Nat} {n : Network} {ds : List Int} {q : QS} (hI : QInv i n ds q) (s : Step) : (pdo q s).2.1.length ≤ 3000000 := by
  unfold pdo
  split
  · simp
  · split
    · exact tick_len hI
    · split <;> simp

/-- The sum of what lies between two places. -/
def psum (A : List Int) (k i : Nat) : Int := ((A.take i).drop k).sum
theorem psum_same (A : List Int) (k : Nat) : psum A k k = 0 := by
  unfold psum; rw [List.drop_of_length_le (by simp; omega)]; rfl
theorem psum_succ {A : List Int} {k i : Nat} {a : Int} (hk : k ≤ i) (h : A[i]? = some a) : psum A k (i + 1) = psum A k i + a := by
  unfold psum
  have hlt := (List.getElem?_eq_some_iff.1 h).1
  rw [take_snoc h, List.drop_append_of_le_length (by simp; omega), List.sum_append]
  simp
theorem psum_le {A : List Int} {c : Int} (hA : ∀ a ∈ A, 0 ≤ a ∧ a ≤ c) {k : Nat} : ∀ {m : Nat}, k + m ≤ A.length → 0 ≤ psum A k (k + m) ∧ psum A k (k + m) ≤ m * c := by
  intro m
  induction m with
  | zero => intro _; rw [Nat.add_zero, psum_same]; simp
  | succ m ih =>
    intro h
    obtain ⟨a, ha⟩ : ∃ a, A[k + m]? = some a := ⟨_, List.getElem?_eq_getElem (by omega)⟩
    obtain ⟨h1, h2⟩ := ih (by omega)
    have h3 := hA a (List.mem_of_getElem? ha)
    rw [← Nat.add_assoc, psum_succ (by omega) ha]
    refine ⟨by omega, ?_⟩
    have : ((m + 1 : Nat) : Int) * c = m * c + c := by rw [Int.natCast_add, Int.add_mul]; simp
    omega

theorem of_snoc {l : List Passed} {k : Nat} {x : Passed} (j : Int) (h : l[k]? = some x) : ((l.take (k + 1)).filter (ofLink j)).length = ((l.take k).filter (ofLink j)).length + if x.link = j then 1 else 0 := by
  rw [take_snoc h, List.filter_append, List.length_append]
  congr 1
  by_cases hx : x.link = j
  · simp [ofLink, hx]
  · simp [ofLink, hx]
end Go.AI

/- Plain laws of the queues: when a packet that is put on a link arrives. -/
namespace Go.AI
open Go.Proofs

def OldL (x : Ln) : Prop := ∀ p ∈ x.packets, p.id = 1
def Old (q : QS) : Prop := ∀ x ∈ q.lines, OldL x

section
variable {i : Nat} {n : Network} {ds : List Int} {q : QS} {j : Nat}

theorem Old.setL (h : Old q) (k : Nat) {x : Ln} (hx : OldL x) : Old (q.set k x) := fun y hy => by
  rcases List.mem_or_eq_of_mem_set hy with h1 | h1
  · exact h y h1
  · rw [h1]; exact hx

theorem old_step (h : Old q) {x : Step} (hid : x.packet.id = 1) : Old (pdo q x).1 := by
  unfold pdo
  split
  · unfold pput
    split
    · split
      · rename_i y hy
        have hy' := h y (List.mem_of_getElem? hy)
        refine h.setL _ ?_
        unfold Ln.put Ln.refuse Ln.add
        split
        · exact hy'
        · split
          · exact hy'
          · intro p hp
            rcases List.mem_append.1 (show p ∈ y.packets ++ [x.packet] from hp) with h1 | h1
            · exact hy' p h1
            · rw [List.mem_singleton.1 h1]; exact hid
      · exact h
    · exact h
  · split
    · intro y hy
      obtain ⟨z, hz, rfl⟩ := List.mem_map.1 (show y ∈ q.lines.map (Ln.tick (pnow q)) from hy)
      intro p hp
      exact h z hz p (List.mem_of_mem_drop (show p ∈ z.packets.drop _ from hp))
    · split
      · unfold pswitch
        split
        · split
          · rename_i y hy
            have hy' := h y (List.mem_of_getElem? hy)
            refine h.setL _ ?_
            unfold Ln.switch
            cases (x.kind == 4)
            · intro p hp; exact hy' p (List.mem_of_mem_drop (show p ∈ y.packets.drop _ from hp))
            · exact hy'
          · exact h
        · exact h
      · exact h

theorem pdo_length (q : QS) (x : Step) : (pdo q x).1.length = q.length := by
  unfold pdo
  split
  · unfold pput
    split
    · split <;> rfl
    · rfl
  · split
    · rfl
    · split
      · unfold pswitch
        split
        · split <;> rfl
        · rfl
      · rfl

/-- A packet in a line: it waits behind a others, or flies and arrives at d; r ticks are left. -/
structure Way (t : Int) (x : Ln) (p : Packet) (r : Int) : Prop where
  up : x.down = false
  pos : 1 ≤ x.capacity
  ex : ∃ front : List Packet, x.packets = front ++ [p] ∧ (∀ f ∈ front, f.id = 1) ∧
    ((x.due.length ≤ front.length ∧ r = ((front.length - x.due.length : Nat) : Int) / x.capacity + 1 + x.delay) ∨
     (∃ df d, x.due = df ++ [d] ∧ df.length = front.length ∧ r = d - t))

theorem way_put {t : Int} {x : Ln} {p : Packet} (h : LInv i t x) (ho : OldL x) (hu : x.down = false) (hc : 1 ≤ x.capacity) :
    Way t (x.add p) p (((x.packets.length - x.due.length : Nat) : Int) / x.capacity + 1 + x.delay) :=
  ⟨hu, hc, x.packets, rfl, ho, .inl ⟨h.dp, rfl⟩⟩

theorem lead_all {t : Int} : ∀ due : List Int, (∀ d ∈ due, d = t) → lead t due = due.length := by
  intro due
  induction due with
  | nil => intro _; rfl
  | cons d due ih =>
    intro h
    rw [lead_cons, if_pos (h d (by simp)), ih (fun e he => h e (by simp [he]))]; rfl

theorem lead_last {t : Int} {d : Int} : ∀ df : List Int, d ≠ t → lead t (df ++ [d]) ≤ df.length := by
  intro df hd
  induction df with
  | nil => rw [List.nil_append, lead_cons, if_neg hd]; simp
  | cons e df ih =>
    rw [List.cons_append, lead_cons]
    split
    · simp; exact ih
    · simp

theorem div_step {a c : Int} (hc : 1 ≤ c) (h : c ≤ a) : (a - c) / c = a / c - 1 := by
  have e : a - c = a + (-1) * c := by omega
  rw [e, Int.add_mul_ediv_right _ _ (by omega)]
  omega

theorem Way.tick {t : Int} {x : Ln} {p : Packet} {r : Int} (hw : Way t x p r) (h : LInv i t x) (ht : 0 ≤ t ∧ t ≤ 100000) (hi : i < 3000) (hr : 1 ≤ r) (hp : p.id = 2) (k : Nat) :
    ((x.outs (t + 1) k).any (fun y => decide (y.packet = p)) = decide (r = 1)) ∧ (2 ≤ r → Way (t + 1) (x.tick (t + 1)) p (r - 1)) := by
  obtain ⟨hu, hc, front, hpk, hold, hs⟩ := hw
  obtain ⟨htd, _⟩ := tick_due h ht hi
  have hle := lead_le (t + 1) x.due
  have hdp := h.dp
  have hpl : x.packets.length = front.length + 1 := by rw [hpk]; simp
  have hroom : (x.arrive (t + 1)).room = min x.capacity.toNat (x.packets.length - x.due.length) := by
    unfold Ln.room
    show (if x.down = true then 0 else min x.capacity.toNat ((x.packets.drop _).length - (x.due.drop _).length)) = _
    rw [if_neg (by rw [hu]; simp), List.length_drop, List.length_drop]
    congr 1
    omega
  have htp : (x.tick (t + 1)).packets = x.packets.drop (lead (t + 1) x.due) := rfl
  have hno : ∀ m, m ≤ front.length → ((x.packets.take m).map (pc k)).any (fun y => decide (y.packet = p)) = false := by
    intro m hm
    rw [List.any_eq_false]
    intro y hy
    obtain ⟨f, hf, rfl⟩ := List.mem_map.1 hy
    rw [hpk, List.take_append_of_le_length hm] at hf
    have := hold f (List.mem_of_mem_take hf)
    intro e
    have e2 : f = p := of_decide_eq_true e
    rw [e2] at this; omega
  have hfd : ∀ m, m ≤ front.length → x.packets.drop m = front.drop m ++ [p] := fun m hm => by rw [hpk, List.drop_append_of_le_length hm]
  have hfo : ∀ m, ∀ f ∈ front.drop m, f.id = 1 := fun m f hf => hold f (List.mem_of_mem_drop hf)
  have hdl := h.del
  rcases hs with ⟨hdf, hrr⟩ | ⟨df, d, hdu, hdfl, hrr⟩
  · have hq : 0 ≤ ((front.length - x.due.length : Nat) : Int) / x.capacity := Int.ediv_nonneg (by omega) (by omega)
    have hr1 : ¬ r = 1 := by omega
    refine ⟨?_, fun _ => ⟨hu, hc, front.drop (lead (t + 1) x.due), by rw [htp, hfd _ (by omega)], hfo _, ?_⟩⟩
    · rw [decide_eq_false hr1]
      exact hno _ (by omega)
    · rw [htd, hroom, hpl]
      show ((x.due.drop _ ++ List.replicate _ _).length ≤ _ ∧ r - 1 = (((front.drop _).length - (x.due.drop _ ++ List.replicate _ _).length : Nat) : Int) / x.capacity + 1 + x.delay) ∨ _
      by_cases hac : ((front.length - x.due.length : Nat) : Int) < x.capacity
      · right
        have hz : ((front.length - x.due.length : Nat) : Int) / x.capacity = 0 := Int.ediv_eq_zero_of_lt (by omega) hac
        have hm : min x.capacity.toNat (front.length + 1 - x.due.length) = front.length - x.due.length + 1 := by omega
        rw [hm, List.replicate_succ', ← List.append_assoc]
        refine ⟨_, _, rfl, by simp; omega, by omega⟩
      · left
        have hm : min x.capacity.toNat (front.length + 1 - x.due.length) = x.capacity.toNat := by omega
        rw [hm]
        simp only [List.length_append, List.length_drop, List.length_replicate]
        refine ⟨by omega, ?_⟩
        have e : ((front.length - lead (t + 1) x.due - (x.due.length - lead (t + 1) x.due + x.capacity.toNat) : Nat) : Int) = ((front.length - x.due.length : Nat) : Int) - x.capacity := by omega
        rw [e, div_step hc (by omega)]
        omega
  · have hdlen : x.due.length = front.length + 1 := by rw [hdu]; simp; exact hdfl
    by_cases h1 : r = 1
    · refine ⟨?_, fun h2 => by omega⟩
      have hd : d = t + 1 := by omega
      have hall : ∀ e ∈ x.due, e = t + 1 := by
        intro e he
        have h2 := (h.late e he).1
        have hs := h.sorted
        rw [hdu, List.pairwise_append] at hs
        rw [hdu] at he
        rcases List.mem_append.1 he with h3 | h3
        · have := hs.2.2 e h3 d (by simp); omega
        · rw [List.mem_singleton.1 h3]; exact hd
      unfold Ln.outs
      rw [lead_all _ hall, hdlen, ← hpl, List.take_length, hpk, decide_eq_true h1]
      simp [pc]
    · have hd : d ≠ t + 1 := by omega
      have hll : lead (t + 1) x.due ≤ front.length := by rw [hdu, ← hdfl]; exact lead_last df hd
      refine ⟨?_, fun _ => ⟨hu, hc, front.drop (lead (t + 1) x.due), by rw [htp, hfd _ hll], hfo _, .inr ?_⟩⟩
      · rw [decide_eq_false h1]
        exact hno _ hll
      · rw [htd, hroom, hpl, hdlen]
        have hm : min x.capacity.toNat (front.length + 1 - (front.length + 1)) = 0 := by omega
        rw [hm, List.replicate_zero, List.append_nil, hdu, List.drop_append_of_le_length (by rw [← hdu]; omega)]
        exact ⟨_, d, rfl, by simp; rw [← hdu]; omega, by omega⟩
end
end Go.AI

/- The law QueueArrivesInTime answers true. -/
namespace Go.AI
open Go.Proofs
set_option maxRecDepth 20000

theorem Base.swap1 {H0 : Heap} {o o2 j : Nat} {cs : List AV} (B : Base H0 o o2) (h : bndL H0.length cs = true) : Base (H0.set j (some cs)) o o2 :=
  ⟨by rw [List.length_set]; exact B.h1, by rw [List.length_set]; exact B.h2, B.ne, B.cl.set j h⟩

def step1 (x : Step) : Step := { x with packet := { x.packet with id := 1 } }
def pk2 (p : Packet) : Packet := { p with id := 2 }
def isP (j : Nat) (p : Packet) (y : Passed) : Bool := ofLink j y && decide (y.packet = p)

theorem f6_c (c : Case) (hn : c.n.small) (lk : Int) (p : Packet) : PCall Try.prog 6 [.agg c.c, .int .i64 lk, .agg p.c] (.bool true) := by
  refine PCall.of h6 mixed h6_d Try.func6 rfl call6 (by simp [Try.f6]) (by simp [pureL, AV.pure, go_sem]) rfl ?_
  simp only [Try.f6, go_sem, Nat.reduceEqDiff, Nat.reduceLT, ↓reduceIte, Nat.reduceAdd, Nat.reduceSub, Nat.reduceMul, Nat.reduceBEq, Nat.reduceLeDiff, Nat.reduceDvd, reduceCtorEq, Int.reduceToNat, Int.reduceLT, Int.reduceLE, Nat.le_refl, Int.le_refl, false_implies, implies_true, frzSlot, List.take_length, List.mem_cons, List.not_mem_nil, or_false, forall_eq_or_imp, forall_eq, List.range_succ, List.range_zero, exists_eq_left', Option.some.injEq]
  refine ACallK.prop (f9_c c hn) ?_
  rintro _ ⟨b, rfl, hb⟩
  cases b with
  | false =>
    simp only [go_sem, Nat.reduceEqDiff, Nat.reduceLT, ↓reduceIte, Nat.reduceAdd, Nat.reduceSub, Nat.reduceMul, Nat.reduceBEq, Nat.reduceLeDiff, Nat.reduceDvd, reduceCtorEq, Int.reduceToNat, Int.reduceLT, Int.reduceLE, Nat.le_refl, Int.le_refl, false_implies, implies_true, frzSlot, List.take_length, List.mem_cons, List.not_mem_nil, or_false, forall_eq_or_imp, forall_eq, List.range_succ, List.range_zero, exists_eq_left', Option.some.injEq]
    refine PCallK.intro f10_c ?_
    simp only [go_sem, Nat.reduceEqDiff, Nat.reduceLT, ↓reduceIte, Nat.reduceAdd, Nat.reduceSub, Nat.reduceMul, Nat.reduceBEq, Nat.reduceLeDiff, Nat.reduceDvd, reduceCtorEq, Int.reduceToNat, Int.reduceLT, Int.reduceLE, Nat.le_refl, Int.le_refl, false_implies, implies_true, frzSlot, List.take_length, List.mem_cons, List.not_mem_nil, or_false, forall_eq_or_imp, forall_eq, List.range_succ, List.range_zero, exists_eq_left', Option.some.injEq]
  | true =>
    obtain ⟨g1, g2, g3, g4, g5⟩ := hb rfl
    have hcl : closedH [some c.c, some p.c] := closedB_spec (by simp only [go_sem])
    by_cases l0 : lk < 0
    · simp only [go_sem, Nat.reduceEqDiff, Nat.reduceLT, ↓reduceIte, Nat.reduceAdd, Nat.reduceSub, Nat.reduceMul, Nat.reduceBEq, Nat.reduceLeDiff, Nat.reduceDvd, reduceCtorEq, Int.reduceToNat, Int.reduceLT, Int.reduceLE, Nat.le_refl, Int.le_refl, false_implies, implies_true, frzSlot, List.take_length, List.mem_cons, List.not_mem_nil, or_false, forall_eq_or_imp, forall_eq, List.range_succ, List.range_zero, exists_eq_left', Option.some.injEq, l0]
      refine PCallK.intro f10_c ?_
      simp only [go_sem, Nat.reduceEqDiff, Nat.reduceLT, ↓reduceIte, Nat.reduceAdd, Nat.reduceSub, Nat.reduceMul, Nat.reduceBEq, Nat.reduceLeDiff, Nat.reduceDvd, reduceCtorEq, Int.reduceToNat, Int.reduceLT, Int.reduceLE, Nat.le_refl, Int.le_refl, false_implies, implies_true, frzSlot, List.take_length, List.mem_cons, List.not_mem_nil, or_false, forall_eq_or_imp, forall_eq, List.range_succ, List.range_zero, exists_eq_left', Option.some.injEq]
    · by_cases l1 : (c.n.links.length : Int) ≤ lk
      · simp only [go_sem, Nat.reduceEqDiff, Nat.reduceLT, ↓reduceIte, Nat.reduceAdd, Nat.reduceSub, Nat.reduceMul, Nat.reduceBEq, Nat.reduceLeDiff, Nat.reduceDvd, reduceCtorEq, Int.reduceToNat, Int.reduceLT, Int.reduceLE, Nat.le_refl, Int.le_refl, false_implies, implies_true, frzSlot, List.take_length, List.mem_cons, List.not_mem_nil, or_false, forall_eq_or_imp, forall_eq, List.range_succ, List.range_zero, exists_eq_left', Option.some.injEq, l0, l1]
        refine PCallK.intro f10_c ?_
        simp only [go_sem, Nat.reduceEqDiff, Nat.reduceLT, ↓reduceIte, Nat.reduceAdd, Nat.reduceSub, Nat.reduceMul, Nat.reduceBEq, Nat.reduceLeDiff, Nat.reduceDvd, reduceCtorEq, Int.reduceToNat, Int.reduceLT, Int.reduceLE, Nat.le_refl, Int.le_refl, false_implies, implies_true, frzSlot, List.take_length, List.mem_cons, List.not_mem_nil, or_false, forall_eq_or_imp, forall_eq, List.range_succ, List.range_zero, exists_eq_left', Option.some.injEq]
      · simp only [go_sem, Nat.reduceEqDiff, Nat.reduceLT, ↓reduceIte, Nat.reduceAdd, Nat.reduceSub, Nat.reduceMul, Nat.reduceBEq, Nat.reduceLeDiff, Nat.reduceDvd, reduceCtorEq, Int.reduceToNat, Int.reduceLT, Int.reduceLE, Nat.le_refl, Int.le_refl, false_implies, implies_true, frzSlot, List.take_length, List.mem_cons, List.not_mem_nil, or_false, forall_eq_or_imp, forall_eq, List.range_succ, List.range_zero, exists_eq_left', Option.some.injEq, l0, l1]
        obtain ⟨j, rfl⟩ : ∃ j : Nat, lk = (j : Int) := ⟨lk.toNat, by omega⟩
        have hj : j < c.n.links.length := by omega
        obtain ⟨ln, hln⟩ : ∃ ln, c.n.links[j]? = some ln := ⟨_, List.getElem?_eq_getElem hj⟩
        have hcap := g3 ln (List.mem_of_getElem? hln)
        unfold capOk at hcap
        cases hf : rfine c.n c.delays c.length with
        | false =>
          refine ACallK.intro (f11_bad hcl c.n c.delays c.length hf) ?_
          rintro _ _ ⟨rfl, rfl⟩
          simp only [go_sem, Nat.reduceEqDiff, Nat.reduceLT, ↓reduceIte, Nat.reduceAdd, Nat.reduceSub, Nat.reduceMul, Nat.reduceBEq, Nat.reduceLeDiff, Nat.reduceDvd, reduceCtorEq, Int.reduceToNat, Int.reduceLT, Int.reduceLE, Nat.le_refl, Int.le_refl, false_implies, implies_true, frzSlot, List.take_length, List.mem_cons, List.not_mem_nil, or_false, forall_eq_or_imp, forall_eq, List.range_succ, List.range_zero, exists_eq_left', Option.some.injEq, Int.reduceBEq, Int.reduceBNe]
          refine PCallK.intro f10_c ?_
          simp only [go_sem, Nat.reduceEqDiff, Nat.reduceLT, ↓reduceIte, Nat.reduceAdd, Nat.reduceSub, Nat.reduceMul, Nat.reduceBEq, Nat.reduceLeDiff, Nat.reduceDvd, reduceCtorEq, Int.reduceToNat, Int.reduceLT, Int.reduceLE, Nat.le_refl, Int.le_refl, false_implies, implies_true, frzSlot, List.take_length, List.mem_cons, List.not_mem_nil, or_false, forall_eq_or_imp, forall_eq, List.range_succ, List.range_zero, exists_eq_left', Option.some.injEq]
        | true =>
          obtain ⟨s1, s2⟩ := new_step hf (by omega) (fun x hx => g3 x hx)
          refine ACallK.intro (f11_good hcl c.n c.delays c.length hf (by omega)) ?_
          rintro _ _ ⟨rfl, rfl⟩
          have B0 : Base (nbase [some c.c, some p.c] c.n) 4 3 := nbase_ok hcl c.n
          have q0 : ∀ n len L l, (QX (nbase [some c.c, some p.c] c.n ++ l) 4 3 n len L)[0]? = some (some c.c) := fun n len L l => rfl
          have q00 : ∀ n len L, (QX (nbase [some c.c, some p.c] c.n) 4 3 n len L)[0]? = some (some c.c) := fun n len L => rfl
          have q1 : ∀ n len L l, (QX (nbase [some c.c, some p.c] c.n ++ l) 4 3 n len L)[1]? = some (some p.c) := fun n len L l => rfl
          have hlen5 : (nbase [some c.c, some p.c] c.n).length = 5 := rfl
          simp only [go_sem, Nat.reduceEqDiff, Nat.reduceLT, ↓reduceIte, Nat.reduceAdd, Nat.reduceSub, Nat.reduceMul, Nat.reduceBEq, Nat.reduceLeDiff, Nat.reduceDvd, reduceCtorEq, Int.reduceToNat, Int.reduceLT, Int.reduceLE, Nat.le_refl, Int.le_refl, false_implies, implies_true, frzSlot, List.take_length, List.mem_cons, List.not_mem_nil, or_false, forall_eq_or_imp, forall_eq, List.range_succ, List.range_zero, exists_eq_left', Option.some.injEq, Nat.reduceAdd, Int.reduceBEq, Int.reduceBNe]
          generalize nbase [some c.c, some p.c] c.n = H1 at *
          simp only [go_sem, Nat.reduceEqDiff, Nat.reduceLT, ↓reduceIte, Nat.reduceAdd, Nat.reduceSub, Nat.reduceMul, Nat.reduceBEq, Nat.reduceLeDiff, Nat.reduceDvd, reduceCtorEq, Int.reduceToNat, Int.reduceLT, Int.reduceLE, Nat.le_refl, Int.le_refl, false_implies, implies_true, frzSlot, List.take_length, List.mem_cons, List.not_mem_nil, or_false, forall_eq_or_imp, forall_eq, List.range_succ, List.range_zero, exists_eq_left', Option.some.injEq, q0, q00]
          have hold0 : Old (newq c.n c.delays c.length) := fun x hx => by
            obtain ⟨k, hk⟩ := List.getElem?_of_mem hx
            have : (List.zipWith pline c.n.links c.delays)[k]? = some x := hk
            rw [List.getElem?_zipWith] at this
            cases hl : c.n.links[k]? with
            | none => rw [hl] at this; cases this
            | some l =>
              cases hd : c.delays[k]? with
              | none => rw [hl, hd] at this; cases this
              | some d => rw [hl, hd] at this; cases this; intro p hp; simp [pline, Ln.z] at hp
          refine awp_wh (σ := Nat × QS × Heap) (fun s => [(1, .int .i64 (j : Int)), (3, .ptr 0 0), (5, .ptr 1 0), (7, .ptr 4 0), (47, .sl none (l47 c.l)), (48, .int .i64 (c.l.length : Int)), (49, .int .i64 (s.1 : Int))])
            (fun s => QH (H1 ++ s.2.2) 4 3 s.2.1)
            (fun s => s.1 ≤ c.l.length ∧ QInv s.1 c.n c.delays s.2.1 ∧ Old s.2.1 ∧ s.2.1.length = c.length ∧ Base (H1 ++ s.2.2) 4 3)
            (fun s => c.l.length - s.1) (0, newq c.n c.delays c.length, []) ⟨Nat.zero_le _, s2, hold0, rfl, by simpa using B0⟩ rfl (by simp) ?_
          rintro ⟨k, q, g⟩ ⟨hk, hI, hO, hql, B⟩
          dsimp only at hk hI hO hql B ⊢
          by_cases hlt : k < c.l.length
          · obtain ⟨x, hx⟩ : ∃ x, c.l[k]? = some x := ⟨_, List.getElem?_eq_getElem hlt⟩
            have k0 : (0 : Int) ≤ (k : Int) := by omega
            have k1 : (k : Int) < (c.l.length : Int) := by omega
            have hi : k < 3000 := by omega
            have Bx : Base (H1 ++ (g ++ [some (step1 x).c])) 4 3 := by
              have := B.app (cs := (step1 x).c) (by simp only [go_sem])
              simpa using this
            simp only [go_sem, Nat.reduceEqDiff, Nat.reduceLT, ↓reduceIte, Nat.reduceAdd, Nat.reduceSub, Nat.reduceMul, Nat.reduceBEq, Nat.reduceLeDiff, Nat.reduceDvd, reduceCtorEq, Int.reduceToNat, Int.reduceLT, Int.reduceLE, Nat.le_refl, Int.le_refl, false_implies, implies_true, frzSlot, List.take_length, List.mem_cons, List.not_mem_nil, or_false, forall_eq_or_imp, forall_eq, List.range_succ, List.range_zero, exists_eq_left', Option.some.injEq, k0, k1, l47_get hx, B0.push2, QX_len, B0.sa, B0.ga, B0.g0, B0.s0, app_at0, app_at, app_set0, app_set, List.length_append]
            refine ACallK.intro (f13_a Bx q hI.fine (step1 x)) ?_
            rintro _ _ ⟨rfl, rfl⟩
            obtain ⟨_, hI'⟩ := do_step hI hi (step1 x)
            simp only [go_sem, Nat.reduceEqDiff, Nat.reduceLT, ↓reduceIte, Nat.reduceAdd, Nat.reduceSub, Nat.reduceMul, Nat.reduceBEq, Nat.reduceLeDiff, Nat.reduceDvd, reduceCtorEq, Int.reduceToNat, Int.reduceLT, Int.reduceLE, Nat.le_refl, Int.le_refl, false_implies, implies_true, frzSlot, List.take_length, List.mem_cons, List.not_mem_nil, or_false, forall_eq_or_imp, forall_eq, List.range_succ, List.range_zero, exists_eq_left', Option.some.injEq, B0.push2, QX_len, B0.sa, B0.ga, B0.g0, B0.s0, app_at0, app_at, app_set0, app_set, List.length_append, w64s (show k < 9223372036854775807 by omega)]
            exact ⟨(k + 1, (pdo q (step1 x)).1, g ++ [some (step1 x).c]), ⟨hlt, hI', old_step hO rfl, by rw [← hql]; exact pdo_length q _, Bx⟩, by dsimp only; omega, rfl, rfl⟩
          · have k1 : ¬ (k : Int) < (c.l.length : Int) := by omega
            have j0 : (0 : Int) ≤ (j : Int) := by omega
            have hke : k = c.l.length := by omega
            obtain ⟨x, hx⟩ : ∃ x, q.lines[j]? = some x := ⟨_, List.getElem?_eq_getElem (by rw [hI.len]; exact hj)⟩
            have hL := hI.line x (List.mem_of_getElem? hx)
            have hph : phas q (j : Int) = true := by have := hI.len; simp [phas]; omega
            have hxc : x.capacity = ln.capacity := by
              obtain ⟨l', h1, h2⟩ := hI.cap j x hx
              rw [hln] at h1; cases h1; exact h2.symm
            have hxd := hI.del j x hx
            have hpw : pwaiting q (j : Int) = x.packets.drop x.due.length := by unfold pwaiting; rw [hph, Int.toNat_natCast, hx]; simp
            have hpu : pup q (j : Int) = !x.down := by unfold pup; rw [hph, Int.toNat_natCast, hx]; simp
            by_cases hc1 : ln.capacity < 1
            · simp only [go_sem, Nat.reduceEqDiff, Nat.reduceLT, ↓reduceIte, Nat.reduceAdd, Nat.reduceSub, Nat.reduceMul, Nat.reduceBEq, Nat.reduceLeDiff, Nat.reduceDvd, reduceCtorEq, Int.reduceToNat, Int.reduceLT, Int.reduceLE, Nat.le_refl, Int.le_refl, false_implies, implies_true, frzSlot, List.take_length, List.mem_cons, List.not_mem_nil, or_false, forall_eq_or_imp, forall_eq, List.range_succ, List.range_zero, exists_eq_left', Option.some.injEq, k1, q0, j0, l65_get hln, hc1, decide_true]
              refine PCallK.intro f10_c ?_
              simp only [go_sem, Nat.reduceEqDiff, Nat.reduceLT, ↓reduceIte, Nat.reduceAdd, Nat.reduceSub, Nat.reduceMul, Nat.reduceBEq, Nat.reduceLeDiff, Nat.reduceDvd, reduceCtorEq, Int.reduceToNat, Int.reduceLT, Int.reduceLE, Nat.le_refl, Int.le_refl, false_implies, implies_true, frzSlot, List.take_length, List.mem_cons, List.not_mem_nil, or_false, forall_eq_or_imp, forall_eq, List.range_succ, List.range_zero, exists_eq_left', Option.some.injEq]
            · simp only [go_sem, Nat.reduceEqDiff, Nat.reduceLT, ↓reduceIte, Nat.reduceAdd, Nat.reduceSub, Nat.reduceMul, Nat.reduceBEq, Nat.reduceLeDiff, Nat.reduceDvd, reduceCtorEq, Int.reduceToNat, Int.reduceLT, Int.reduceLE, Nat.le_refl, Int.le_refl, false_implies, implies_true, frzSlot, List.take_length, List.mem_cons, List.not_mem_nil, or_false, forall_eq_or_imp, forall_eq, List.range_succ, List.range_zero, exists_eq_left', Option.some.injEq, k1, q0, j0, l65_get hln, hc1, decide_false]
              refine RCallK.intro (f20_r (j : Int) (B.v q)) ?_
              rw [hpu]
              cases hdn : x.down with
              | true =>
                simp only [go_sem, Nat.reduceEqDiff, Nat.reduceLT, ↓reduceIte, Nat.reduceAdd, Nat.reduceSub, Nat.reduceMul, Nat.reduceBEq, Nat.reduceLeDiff, Nat.reduceDvd, reduceCtorEq, Int.reduceToNat, Int.reduceLT, Int.reduceLE, Nat.le_refl, Int.le_refl, false_implies, implies_true, frzSlot, List.take_length, List.mem_cons, List.not_mem_nil, or_false, forall_eq_or_imp, forall_eq, List.range_succ, List.range_zero, exists_eq_left', Option.some.injEq, Bool.not_true, Bool.not_false]
                refine PCallK.intro f10_c ?_
                simp only [go_sem, Nat.reduceEqDiff, Nat.reduceLT, ↓reduceIte, Nat.reduceAdd, Nat.reduceSub, Nat.reduceMul, Nat.reduceBEq, Nat.reduceLeDiff, Nat.reduceDvd, reduceCtorEq, Int.reduceToNat, Int.reduceLT, Int.reduceLE, Nat.le_refl, Int.le_refl, false_implies, implies_true, frzSlot, List.take_length, List.mem_cons, List.not_mem_nil, or_false, forall_eq_or_imp, forall_eq, List.range_succ, List.range_zero, exists_eq_left', Option.some.injEq]
              | false =>
                simp only [go_sem, Nat.reduceEqDiff, Nat.reduceLT, ↓reduceIte, Nat.reduceAdd, Nat.reduceSub, Nat.reduceMul, Nat.reduceBEq, Nat.reduceLeDiff, Nat.reduceDvd, reduceCtorEq, Int.reduceToNat, Int.reduceLT, Int.reduceLE, Nat.le_refl, Int.le_refl, false_implies, implies_true, frzSlot, List.take_length, List.mem_cons, List.not_mem_nil, or_false, forall_eq_or_imp, forall_eq, List.range_succ, List.range_zero, exists_eq_left', Option.some.injEq, Bool.not_true, Bool.not_false]
                refine RCallK.intro (f18_r (j : Int) hI.fine.1 (B.v q)) ?_
                rw [hpw]
                by_cases hfull : c.length ≤ ((x.packets.drop x.due.length).length : Int)
                · simp only [go_sem, Nat.reduceEqDiff, Nat.reduceLT, ↓reduceIte, Nat.reduceAdd, Nat.reduceSub, Nat.reduceMul, Nat.reduceBEq, Nat.reduceLeDiff, Nat.reduceDvd, reduceCtorEq, Int.reduceToNat, Int.reduceLT, Int.reduceLE, Nat.le_refl, Int.le_refl, false_implies, implies_true, frzSlot, List.take_length, List.mem_cons, List.not_mem_nil, or_false, forall_eq_or_imp, forall_eq, List.range_succ, List.range_zero, exists_eq_left', Option.some.injEq, q0, hfull]
                  refine PCallK.intro f10_c ?_
                  simp only [go_sem, Nat.reduceEqDiff, Nat.reduceLT, ↓reduceIte, Nat.reduceAdd, Nat.reduceSub, Nat.reduceMul, Nat.reduceBEq, Nat.reduceLeDiff, Nat.reduceDvd, reduceCtorEq, Int.reduceToNat, Int.reduceLT, Int.reduceLE, Nat.le_refl, Int.le_refl, false_implies, implies_true, frzSlot, List.take_length, List.mem_cons, List.not_mem_nil, or_false, forall_eq_or_imp, forall_eq, List.range_succ, List.range_zero, exists_eq_left', Option.some.injEq]
                · simp only [go_sem, Nat.reduceEqDiff, Nat.reduceLT, ↓reduceIte, Nat.reduceAdd, Nat.reduceSub, Nat.reduceMul, Nat.reduceBEq, Nat.reduceLeDiff, Nat.reduceDvd, reduceCtorEq, Int.reduceToNat, Int.reduceLT, Int.reduceLE, Nat.le_refl, Int.le_refl, false_implies, implies_true, frzSlot, List.take_length, List.mem_cons, List.not_mem_nil, or_false, forall_eq_or_imp, forall_eq, List.range_succ, List.range_zero, exists_eq_left', Option.some.injEq, q0, hfull, q1]
                  have e5 : (QH (H1 ++ g) 4 3 q).set 1 (some (pk2 p).c) = QH (H1.set 1 (some (pk2 p).c) ++ g) 4 3 q := by
                    rw [QX_seti B 1 (by decide) (by decide), List.set_append_left _ _ (by rw [hlen5]; decide)]
                  have B2 : Base (H1.set 1 (some (pk2 p).c)) 4 3 := B0.swap1 (by simp only [go_sem])
                  have Bg : Base (H1.set 1 (some (pk2 p).c) ++ g) 4 3 := by
                    have := B.swap1 (j := 1) (cs := (pk2 p).c) (by simp only [go_sem])
                    rwa [List.set_append_left _ _ (by rw [hlen5]; decide)] at this
                  have q0' : ∀ n len L l, (QX (H1.set 1 (some (pk2 p).c) ++ l) 4 3 n len L)[0]? = some (some c.c) := fun n len L l => by
                    have h1 := q0 n len L l
                    rw [QX_geti 0 (by decide) (by decide)] at h1 ⊢
                    rw [List.getElem?_append_left (by rw [hlen5]; decide)] at h1
                    rw [List.getElem?_append_left (by rw [List.length_set, hlen5]; decide), List.getElem?_set_ne (by decide)]
                    exact h1
                  have q1' : ∀ n len L l, (QX (H1.set 1 (some (pk2 p).c) ++ l) 4 3 n len L)[1]? = some (some (pk2 p).c) := fun n len L l => by
                    rw [QX_geti 1 (by decide) (by decide), List.getElem?_append_left (by rw [List.length_set, hlen5]; decide), List.getElem?_set_self (by rw [hlen5]; decide)]
                  have e6 : ({ id := 2, head := p.head } : Packet) = pk2 p := rfl
                  rw [e6, e5]
                  clear e5 q0 q1 q00 hlen5 e6 B
                  generalize H1.set 1 (some (pk2 p).c) = H2 at *
                  refine RCallK.intro (f18_r (j : Int) hI.fine.1 (Bg.v q)) ?_
                  rw [hpw]
                  have hdj : c.delays[j]? = some x.delay := hxd
                  have hjd : (j : Int) < (c.delays.length : Int) := by have := (List.getElem?_eq_some_iff.1 hdj).1; omega
                  have hlx := hL.dp
                  have hW : ∃ W : Nat, IntKind.i64.wrap (IntKind.i64.wrap (1 + IntKind.i64.wrap (((x.packets.drop x.due.length).length : Int).tdiv ln.capacity)) + x.delay) = (W : Int) ∧ (W : Int) = ((x.packets.length - x.due.length : Nat) : Int) / x.capacity + 1 + x.delay ∧ W ≤ 2000 := by
                    have hpi := hL.pi
                    have hxdel := hL.del
                    have hz : (0 : Int) ≤ ((x.packets.length - x.due.length : Nat) : Int) / ln.capacity := Int.ediv_nonneg (by omega) (by omega)
                    have hz2 : ((x.packets.length - x.due.length : Nat) : Int) / ln.capacity ≤ ((x.packets.length - x.due.length : Nat) : Int) := Int.ediv_le_self _ (by omega)
                    rw [List.length_drop, Int.tdiv_eq_ediv_of_nonneg (by omega), w64 (n := ((x.packets.length - x.due.length : Nat) : Int) / ln.capacity) (by omega) (by omega), w64 (n := 1 + ((x.packets.length - x.due.length : Nat) : Int) / ln.capacity) (by omega) (by omega), w64 (by omega) (by omega), hxc]
                    exact ⟨(1 + ((x.packets.length - x.due.length : Nat) : Int) / ln.capacity + x.delay).toNat, by omega, by omega, by omega⟩
                  obtain ⟨W, hW1, hW2, hW3⟩ := hW
                  simp only [go_sem, Nat.reduceEqDiff, Nat.reduceLT, ↓reduceIte, Nat.reduceAdd, Nat.reduceSub, Nat.reduceMul, Nat.reduceBEq, Nat.reduceLeDiff, Nat.reduceDvd, reduceCtorEq, Int.reduceToNat, Int.reduceLT, Int.reduceLE, Nat.le_refl, Int.le_refl, false_implies, implies_true, frzSlot, List.take_length, List.mem_cons, List.not_mem_nil, or_false, forall_eq_or_imp, forall_eq, List.range_succ, List.range_zero, exists_eq_left', Option.some.injEq, q0', q1', j0, l3_get hdj, hjd, hW1, hc1]
                  refine ⟨by omega, ?_⟩
                  have hput : pput q (j : Int) (pk2 p) = (q.set j (x.add (pk2 p)), 0) := by
                    unfold pput
                    rw [hph, Int.toNat_natCast, hx]
                    simp only [if_true]
                    unfold Ln.put
                    rw [if_neg (by rw [hdn]; simp), if_neg (by rw [hql]; rw [List.length_drop] at hfull; omega)]
                  obtain ⟨_, hI1⟩ := put_step hI (show k < 3000 by omega) (j : Int) (pk2 p)
                  refine ACallK.intro (f21_a Bg q hI.fine.1 (j : Int) (pk2 p)) ?_
                  rintro _ _ ⟨rfl, rfl⟩
                  rw [hput] at hI1 ⊢
                  have hw0 : Way q.now (x.add (pk2 p)) (pk2 p) (W : Int) := by
                    rw [hW2]
                    exact way_put hL (hO x (List.mem_of_getElem? hx)) hdn (by omega)
                  have hx1 : (q.set j (x.add (pk2 p))).lines[j]? = some (x.add (pk2 p)) := by
                    simp only [QS.set]; rw [List.getElem?_set_self (List.getElem?_eq_some_iff.1 hx).1]
                  have hnow1 : (q.set j (x.add (pk2 p))).now = q.now := rfl
                  simp only [go_sem, Nat.reduceEqDiff, Nat.reduceLT, ↓reduceIte, Nat.reduceAdd, Nat.reduceSub, Nat.reduceMul, Nat.reduceBEq, Nat.reduceLeDiff, Nat.reduceDvd, reduceCtorEq, Int.reduceToNat, Int.reduceLT, Int.reduceLE, Nat.le_refl, Int.le_refl, false_implies, implies_true, frzSlot, List.take_length, List.mem_cons, List.not_mem_nil, or_false, forall_eq_or_imp, forall_eq, List.range_succ, List.range_zero, exists_eq_left', Option.some.injEq, Int.reduceBNe, Int.reduceBEq]
                  generalize q.set j (x.add (pk2 p)) = qa at *
                  generalize x.add (pk2 p) = xa at *
                  rw [← hnow1] at hw0
                  refine awp_wh (σ := Nat × QS × Heap) (fun s => [(1, .int .i64 (j : Int)), (5, .ptr 1 0), (7, .ptr 4 0), (12, .int .i64 (W : Int)), (13, .int .i64 ((s.1 : Int) + 1))])
                    (fun s => QH (H2 ++ s.2.2) 4 3 s.2.1)
                    (fun s => s.1 ≤ W ∧ QInv (k + 1 + s.1) c.n c.delays s.2.1 ∧ (s.1 < W → ∃ y, s.2.1.lines[j]? = some y ∧ Way s.2.1.now y (pk2 p) ((W : Int) - s.1)) ∧ Base (H2 ++ s.2.2) 4 3)
                    (fun s => W - s.1) (0, qa, g) ⟨Nat.zero_le _, hI1, fun _ => ⟨xa, hx1, by simpa using hw0⟩, Bg⟩ rfl rfl ?_
                  rintro ⟨u, q', f⟩ ⟨hu, hIu, hwy, Bf⟩
                  dsimp only at hu hIu hwy Bf ⊢
                  by_cases huw : u < W
                  · obtain ⟨y, hy, hway⟩ := hwy huw
                    have u1 : (u : Int) + 1 ≤ (W : Int) := by omega
                    have hi' : k + 1 + u < 3000 := by omega
                    have hLy := hIu.line y (List.mem_of_getElem? hy)
                    have htt := hIu.t0
                    obtain ⟨hfnd, hnext⟩ := hway.tick hLy (by omega) hi' (by omega) rfl j
                    obtain ⟨_, hI2⟩ := tick_step hIu hi'
                    have hfi := hIu.fine
                    have hTl := tick_len hIu
                    have hTf : (ptick q').2.any (isP j (pk2 p)) = decide ((W : Int) - u = 1) := by
                      rw [← hfnd, ← pnow_eq hIu]
                      have h1 := tick_of q' j
                      rw [hy, Option.map_some, Option.getD_some] at h1
                      rw [← h1, List.any_filter]
                      rfl
                    have hnx : (ptick q').1.lines[j]? = some (y.tick (q'.now + 1)) := by rw [ptick_lines hIu, List.getElem?_map, hy]; rfl
                    have hnw : (ptick q').1.now = q'.now + 1 := pnow_eq hIu
                    simp only [go_sem, Nat.reduceEqDiff, Nat.reduceLT, ↓reduceIte, Nat.reduceAdd, Nat.reduceSub, Nat.reduceMul, Nat.reduceBEq, Nat.reduceLeDiff, Nat.reduceDvd, reduceCtorEq, Int.reduceToNat, Int.reduceLT, Int.reduceLE, Nat.le_refl, Int.le_refl, false_implies, implies_true, frzSlot, List.take_length, List.mem_cons, List.not_mem_nil, or_false, forall_eq_or_imp, forall_eq, List.range_succ, List.range_zero, exists_eq_left', Option.some.injEq, u1]
                    refine ACallK.intro (f22_a Bf q' hfi.1 hfi.2.1 hfi.2.2) ?_
                    rintro _ _ ⟨rfl, rfl⟩
                    simp only [go_sem, Nat.reduceEqDiff, Nat.reduceLT, ↓reduceIte, Nat.reduceAdd, Nat.reduceSub, Nat.reduceMul, Nat.reduceBEq, Nat.reduceLeDiff, Nat.reduceDvd, reduceCtorEq, Int.reduceToNat, Int.reduceLT, Int.reduceLE, Nat.le_refl, Int.le_refl, false_implies, implies_true, frzSlot, List.take_length, List.mem_cons, List.not_mem_nil, or_false, forall_eq_or_imp, forall_eq, List.range_succ, List.range_zero, exists_eq_left', Option.some.injEq]
                    generalize (ptick q').2 = T at hTl hTf ⊢
                    generalize hqe : (ptick q').1 = qn at hI2 hnx hnw ⊢
                    refine awp_wh (σ := Nat × Heap) (fun s => [(1, .int .i64 (j : Int)), (5, .ptr 1 0), (7, .ptr 4 0), (12, .int .i64 (W : Int)), (13, .int .i64 ((u : Int) + 1)), (14, .bool ((T.take s.1).any (isP j (pk2 p)))), (109, .sl (some 12) (l57 T)), (110, .int .i64 (T.length : Int)), (111, .int .i64 (s.1 : Int))])
                      (fun s => QH (H2 ++ s.2) 4 3 qn)
                      (fun s => s.1 ≤ T.length ∧ Base (H2 ++ s.2) 4 3)
                      (fun s => T.length - s.1) (0, f) ⟨Nat.zero_le _, Bf⟩ rfl rfl ?_
                    rintro ⟨m, e⟩ ⟨hm, Be⟩
                    dsimp only at hm Be ⊢
                    by_cases hmt : m < T.length
                    · obtain ⟨z, hz⟩ : ∃ z, T[m]? = some z := ⟨_, List.getElem?_eq_getElem hmt⟩
                      have m0 : (0 : Int) ≤ (m : Int) := by omega
                      have m1 : (m : Int) < (T.length : Int) := by omega
                      have Bn : Base (H2 ++ (e ++ [some z.c])) 4 3 := by
                        have := Be.app (cs := z.c) (by simp only [go_sem])
                        simpa using this
                      have hsn : (T.take (m + 1)).any (isP j (pk2 p)) = ((T.take m).any (isP j (pk2 p)) || isP j (pk2 p) z) := by rw [take_snoc hz, List.any_append]; simp
                      cases hb0 : (T.take m).any (isP j (pk2 p)) with
                      | true =>
                        rw [hb0, Bool.true_or] at hsn
                        simp only [go_sem, Nat.reduceEqDiff, Nat.reduceLT, ↓reduceIte, Nat.reduceAdd, Nat.reduceSub, Nat.reduceMul, Nat.reduceBEq, Nat.reduceLeDiff, Nat.reduceDvd, reduceCtorEq, Int.reduceToNat, Int.reduceLT, Int.reduceLE, Nat.le_refl, Int.le_refl, false_implies, implies_true, frzSlot, List.take_length, List.mem_cons, List.not_mem_nil, or_false, forall_eq_or_imp, forall_eq, List.range_succ, List.range_zero, exists_eq_left', Option.some.injEq, m0, m1, l57_get hz, B2.push2, QX_len, B2.sa, B2.ga, B2.g0, B2.s0, app_at0, app_at, app_set0, app_set, List.length_append, w64s (show m < 9223372036854775807 by omega)]
                        exact ⟨(m + 1, e ++ [some z.c]), ⟨hmt, Bn⟩, by dsimp only; omega, by rw [hsn], by simp⟩
                      | false =>
                        rw [hb0, Bool.false_or] at hsn
                        by_cases hzl : z.link = (j : Int)
                        · have hzb : (z.link == (j : Int)) = true := by simp [hzl]
                          have hsn' : isP j (pk2 p) z = decide (z.packet = pk2 p) := by simp [isP, ofLink, hzl]
                          rw [hsn'] at hsn
                          simp only [go_sem, Nat.reduceEqDiff, Nat.reduceLT, ↓reduceIte, Nat.reduceAdd, Nat.reduceSub, Nat.reduceMul, Nat.reduceBEq, Nat.reduceLeDiff, Nat.reduceDvd, reduceCtorEq, Int.reduceToNat, Int.reduceLT, Int.reduceLE, Nat.le_refl, Int.le_refl, false_implies, implies_true, frzSlot, List.take_length, List.mem_cons, List.not_mem_nil, or_false, forall_eq_or_imp, forall_eq, List.range_succ, List.range_zero, exists_eq_left', Option.some.injEq, m0, m1, l57_get hz, B2.push2, QX_len, B2.sa, B2.ga, B2.g0, B2.s0, app_at0, app_at, app_set0, app_set, List.length_append, hzb, q1', w64s (show m < 9223372036854775807 by omega)]
                          exact ⟨(m + 1, e ++ [some z.c]), ⟨hmt, Bn⟩, by dsimp only; omega, by rw [hsn], by simp⟩
                        · have hzb : (z.link == (j : Int)) = false := by simp [hzl]
                          have hsn' : isP j (pk2 p) z = false := by simp [isP, ofLink, hzl]
                          rw [hsn'] at hsn
                          simp only [go_sem, Nat.reduceEqDiff, Nat.reduceLT, ↓reduceIte, Nat.reduceAdd, Nat.reduceSub, Nat.reduceMul, Nat.reduceBEq, Nat.reduceLeDiff, Nat.reduceDvd, reduceCtorEq, Int.reduceToNat, Int.reduceLT, Int.reduceLE, Nat.le_refl, Int.le_refl, false_implies, implies_true, frzSlot, List.take_length, List.mem_cons, List.not_mem_nil, or_false, forall_eq_or_imp, forall_eq, List.range_succ, List.range_zero, exists_eq_left', Option.some.injEq, m0, m1, l57_get hz, B2.push2, QX_len, B2.sa, B2.ga, B2.g0, B2.s0, app_at0, app_at, app_set0, app_set, List.length_append, hzb, w64s (show m < 9223372036854775807 by omega)]
                          exact ⟨(m + 1, e ++ [some z.c]), ⟨hmt, Bn⟩, by dsimp only; omega, by rw [hsn], by simp⟩
                    · have m1 : ¬ (m : Int) < (T.length : Int) := by omega
                      have hme : m = T.length := by omega
                      subst hme
                      rw [List.take_length, hTf]
                      have hww : IntKind.i64.wrap ((u : Int) + 1 + 1) = ((u + 1 : Nat) : Int) + 1 := by rw [w64 (by omega) (by omega)]; omega
                      have hd2 : ((u : Int) + 1 == (W : Int)) = decide ((W : Int) - u = 1) := by
                        rw [Bool.eq_iff_iff, beq_iff_eq, decide_eq_true_eq]; omega
                      have hd3 : (decide ((W : Int) - u = 1) != decide ((W : Int) - u = 1)) = false := by simp
                      simp only [go_sem, Nat.reduceEqDiff, Nat.reduceLT, ↓reduceIte, Nat.reduceAdd, Nat.reduceSub, Nat.reduceMul, Nat.reduceBEq, Nat.reduceLeDiff, Nat.reduceDvd, reduceCtorEq, Int.reduceToNat, Int.reduceLT, Int.reduceLE, Nat.le_refl, Int.le_refl, false_implies, implies_true, frzSlot, List.take_length, List.mem_cons, List.not_mem_nil, or_false, forall_eq_or_imp, forall_eq, List.range_succ, List.range_zero, exists_eq_left', Option.some.injEq, m1, hd2, hd3, hww, beq_self_eq_true, Bool.not_true]
                      refine ⟨(u + 1, qn, e), ⟨huw, hI2, fun h2 => ⟨_, hnx, ?_⟩, Be⟩, by dsimp only; omega, rfl, rfl⟩
                      rw [hnw]
                      have := hnext (by dsimp only at h2; omega)
                      have e9 : (W : Int) - ((u + 1 : Nat) : Int) = (W : Int) - u - 1 := by omega
                      show Way _ _ _ ((W : Int) - ((u + 1 : Nat) : Int))
                      rw [e9]; exact this
                  · have u1 : ¬ (u : Int) + 1 ≤ (W : Int) := by omega
                    simp only [go_sem, Nat.reduceEqDiff, Nat.reduceLT, ↓reduceIte, Nat.reduceAdd, Nat.reduceSub, Nat.reduceMul, Nat.reduceBEq, Nat.reduceLeDiff, Nat.reduceDvd, reduceCtorEq, Int.reduceToNat, Int.reduceLT, Int.reduceLE, Nat.le_refl, Int.le_refl, false_implies, implies_true, frzSlot, List.take_length, List.mem_cons, List.not_mem_nil, or_false, forall_eq_or_imp, forall_eq, List.range_succ, List.range_zero, exists_eq_left', Option.some.injEq, u1]
                    refine PCallK.intro f10_c ?_
                    simp only [go_sem, Nat.reduceEqDiff, Nat.reduceLT, ↓reduceIte, Nat.reduceAdd, Nat.reduceSub, Nat.reduceMul, Nat.reduceBEq, Nat.reduceLeDiff, Nat.reduceDvd, reduceCtorEq, Int.reduceToNat, Int.reduceLT, Int.reduceLE, Nat.le_refl, Int.le_refl, false_implies, implies_true, frzSlot, List.take_length, List.mem_cons, List.not_mem_nil, or_false, forall_eq_or_imp, forall_eq, List.range_succ, List.range_zero, exists_eq_left', Option.some.injEq]
end Go.AI
