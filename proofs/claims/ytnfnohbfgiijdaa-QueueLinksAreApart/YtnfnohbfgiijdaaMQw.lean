/- Plain laws of the queues: what leaves a link at a tick, and how much. -/
import Derived.Test.YtnfnohbfgiijdaaMf
import Derived.Test.YtnfnohbfgiijdaaQq
set_option linter.unusedSimpArgs false
set_option linter.unusedVariables false
namespace Go.AI
open Go.Proofs

def ofLink (k : Int) (p : Passed) : Bool := p.link == k

theorem outs_of (t : Int) (k j : Nat) (x : Ln) : (x.outs t k).filter (ofLink j) = if k = j then x.outs t k else [] := by
  unfold Ln.outs
  rw [List.filter_map]
  by_cases h : k = j
  · subst h
    rw [if_pos rfl]
    congr 1
    rw [List.filter_eq_self]
    intro p _
    simp [ofLink, pc]
  · rw [if_neg h]
    have : (x.packets.take (lead t x.due)).filter (ofLink j ∘ pc k) = [] := by
      rw [List.filter_eq_nil_iff]
      intro p _
      simp only [Function.comp, ofLink, pc, beq_iff_eq]
      omega
    rw [this]; rfl

theorem outs_flat (t : Int) (j : Nat) : ∀ (l : List Ln) (s : Nat),
    ((l.mapIdx fun k x => x.outs t (k + s)).flatten).filter (ofLink j) = if s ≤ j then ((l[j - s]?).map (fun x => x.outs t j)).getD [] else [] := by
  intro l
  induction l with
  | nil => intro s; simp
  | cons x l ih =>
    intro s
    rw [List.mapIdx_cons, List.flatten_cons, List.filter_append]
    have e : (l.mapIdx fun k x => x.outs t (k + 1 + s)) = l.mapIdx fun k x => x.outs t (k + (s + 1)) := by
      congr 1; funext k x; rw [Nat.add_right_comm, Nat.add_assoc]
    rw [e, ih (s + 1), Nat.zero_add, outs_of]
    by_cases h : s = j
    · subst h
      rw [if_pos rfl, if_neg (by omega), if_pos (Nat.le_refl _)]
      simp
    · rw [if_neg h]
      by_cases h2 : s ≤ j
      · have h3 : s + 1 ≤ j := by omega
        rw [if_pos h2, if_pos h3]
        obtain ⟨d, rfl⟩ : ∃ d, j = s + 1 + d := ⟨j - (s + 1), by omega⟩
        rw [show s + 1 + d - (s + 1) = d by omega, show s + 1 + d - s = d + 1 by omega]
        rfl
      · rw [if_neg h2, if_neg (by omega)]; rfl

/-- What leaves the link j at a tick. -/
theorem tick_of (q : QS) (j : Nat) : (ptick q).2.filter (ofLink j) = ((q.lines[j]?).map (fun x => x.outs (pnow q) j)).getD [] := by
  have := outs_flat (pnow q) j q.lines 0
  rw [if_pos (Nat.zero_le _)] at this
  exact this

theorem lead_count (t : Int) : ∀ due : List Int, lead t due ≤ due.count t := by
  intro due
  induction due with
  | nil => simp [lead]
  | cons d due ih =>
    rw [lead_cons]
    by_cases h : d = t
    · subst h; simp; exact ih
    · rw [if_neg h]; exact Nat.zero_le _

def LRate (x : Ln) : Prop := ∀ d, x.due.count d ≤ x.capacity.toNat
def Rate (q : QS) : Prop := ∀ x ∈ q.lines, LRate x

section
variable {i : Nat} {n : Network} {ds : List Int} {q : QS}

theorem Rate.setL (h : Rate q) (k : Nat) {x : Ln} (hx : LRate x) : Rate (q.set k x) := fun y hy => by
  rcases List.mem_or_eq_of_mem_set hy with h1 | h1
  · exact h y h1
  · rw [h1]; exact hx

theorem tick_due {x : Ln} {t : Int} (h : LInv i t x) (ht : 0 ≤ t ∧ t ≤ 100000) (hi : i < 3000) : (x.tick (t + 1)).due = x.due.drop (lead (t + 1) x.due) ++ List.replicate (x.arrive (t + 1)).room (t + 1 + x.delay) ∧ (x.arrive (t + 1)).room ≤ x.capacity.toNat := by
  have hw : IntKind.i64.wrap (t + 1 + x.delay) = t + 1 + x.delay := by have := h.del; rw [w64 (by omega) (by omega)]
  constructor
  · show x.due.drop _ ++ List.replicate _ (IntKind.i64.wrap (t + 1 + x.delay)) = _
    rw [hw]
  · unfold Ln.room
    show (if x.down = true then 0 else min x.capacity.toNat _) ≤ _
    split <;> omega

theorem tick_rate {x : Ln} {t : Int} (h : LInv i t x) (ht : 0 ≤ t ∧ t ≤ 100000) (hi : i < 3000) (hr : LRate x) : LRate (x.tick (t + 1)) := fun d => by
  obtain ⟨h1, h2⟩ := tick_due h ht hi
  rw [h1, List.count_append]
  show _ ≤ x.capacity.toNat
  by_cases hd : d = t + 1 + x.delay
  · have h3 : (x.due.drop (lead (t + 1) x.due)).count d = 0 := by
      rw [List.count_eq_zero]
      intro hm
      have := (h.late d (List.mem_of_mem_drop hm)).2
      omega
    rw [h3, hd, List.count_replicate_self]; omega
  · have h3 : (List.replicate (x.arrive (t + 1)).room (t + 1 + x.delay)).count d = 0 := by
      rw [List.count_eq_zero]
      intro hm
      exact hd (List.mem_replicate.1 hm).2
    have h4 : (x.due.drop (lead (t + 1) x.due)).count d ≤ x.due.count d := (List.drop_sublist _ _).count_le d
    have := hr d
    omega

theorem pnow_eq (h : QInv i n ds q) : pnow q = q.now + 1 := by
  have := h.t0; have := h.i80
  unfold pnow; rw [w64 (by omega) (by omega)]

theorem ptick_lines (h : QInv i n ds q) : (ptick q).1.lines = q.lines.map (Ln.tick (q.now + 1)) := by
  unfold ptick; rw [pnow_eq h]

theorem rate_step (h : QInv i n ds q) (hi : i < 3000) (hr : Rate q) (x : Step) : Rate (pdo q x).1 := by
  have ht := h.t0
  have h100 := h.i80
  unfold pdo
  split
  · unfold pput
    split
    · split
      · rename_i y hy
        refine hr.setL _ ?_
        have := hr y (List.mem_of_getElem? hy)
        unfold Ln.put Ln.refuse Ln.add
        split
        · exact this
        · split <;> exact this
      · exact hr
    · exact hr
  · split
    · intro y hy
      rw [ptick_lines h] at hy
      obtain ⟨z, hz, rfl⟩ := List.mem_map.1 hy
      exact tick_rate (h.line z hz) (by omega) hi (hr z hz)
    · split
      · unfold pswitch
        split
        · split
          · rename_i y hy
            refine hr.setL _ ?_
            have := hr y (List.mem_of_getElem? hy)
            unfold Ln.switch
            cases (x.kind == 4)
            · intro d; simp
            · exact this
          · exact hr
        · exact hr
      · exact hr

theorem rate_new {len : Int} : Rate (newq n ds len) := by
  intro x hx
  obtain ⟨k, hk⟩ := List.getElem?_of_mem hx
  have : (List.zipWith pline n.links ds)[k]? = some x := hk
  rw [List.getElem?_zipWith] at this
  cases hl : n.links[k]? with
  | none => rw [hl] at this; cases this
  | some l =>
    cases hd : ds[k]? with
    | none => rw [hl, hd] at this; cases this
    | some d => rw [hl, hd] at this; cases this; intro d; simp [pline, Ln.z]

/-- At a tick at most as many leave a link as it has capacity. -/
theorem rate_out (h : QInv i n ds q) (hr : Rate q) {j : Nat} {l : Link} (hl : n.links[j]? = some l) : (((ptick q).2.filter (ofLink j)).length : Int) ≤ l.capacity := by
  rw [tick_of]
  have hlt := (List.getElem?_eq_some_iff.1 hl).1
  obtain ⟨x, hx⟩ : ∃ x, q.lines[j]? = some x := ⟨_, List.getElem?_eq_getElem (by rw [h.len]; exact hlt)⟩
  obtain ⟨l', h1, h2⟩ := h.cap j x hx
  rw [hl] at h1
  cases h1
  rw [hx]
  have h3 := (h.line x (List.mem_of_getElem? hx)).cap
  have h4 := hr x (List.mem_of_getElem? hx) (pnow q)
  have h5 := lead_count (pnow q) x.due
  simp only [Option.map_some, Option.getD_some, Ln.outs, List.length_map, List.length_take]
  omega
end

theorem outsf_len (t : Int) (M : Nat) : ∀ (l : List Ln) (s : Nat), (∀ x ∈ l, x.packets.length ≤ M) →
    ((l.mapIdx fun k x => x.outs t (k + s)).flatten).length ≤ l.length * M := by
  intro l
  induction l with
  | nil => intro s _; simp
  | cons x l ih =>
    intro s h
    have e : (l.mapIdx fun k x => x.outs t (k + 1 + s)) = l.mapIdx fun k x => x.outs t (k + (s + 1)) := by
      congr 1; funext k x; rw [Nat.add_right_comm, Nat.add_assoc]
    rw [List.mapIdx_cons, List.flatten_cons, List.length_append, e]
    have h1 := ih (s + 1) (fun y hy => h y (by simp [hy]))
    have h2 := h x (by simp)
    have h3 : (x.outs t (0 + s)).length ≤ x.packets.length := by simp [Ln.outs]; omega
    rw [List.length_cons, Nat.add_mul]
    omega

theorem tick_len {i : Nat} {n : Network} {ds : List Int} {q : QS} (h : QInv i n ds q) : (ptick q).2.length ≤ 3000000 := by
  have h1 := outsf_len (pnow q) 3000 q.lines 0 (fun x hx => by have := (h.line x hx).pi; have := h.i80; omega)
  have h2 : q.lines.length ≤ 1000 := by rw [h.len]; exact h.small
  have h3 := Nat.mul_le_mul_right 3000 h2
  exact Nat.le_trans h1 h3

theorem pdo_len {i : Nat} {n : Network} {ds : List Int} {q : QS} (hI : QInv i n ds q) (s : Step) : (pdo q s).2.1.length ≤ 3000000 := by
  unfold pdo
  split
  · simp
  · split
    · exact tick_len hI
    · split <;> simp

/-- The sum of what lies between two places. -/
def psum (A : List Int) (k i : Nat) : Int := ((A.take i).drop k).sum
theorem psum_same (A : List Int) (k : Nat) : psum A k k = 0 := by
  unfold psum; rw [List.drop_of_length_le (by simp; omega)]; rfl
theorem psum_succ {A : List Int} {k i : Nat} {a : Int} (hk : k ≤ i) (h : A[i]? = some a) : psum A k (i + 1) = psum A k i + a := by
  unfold psum
  have hlt := (List.getElem?_eq_some_iff.1 h).1
  rw [take_snoc h, List.drop_append_of_le_length (by simp; omega), List.sum_append]
  simp
theorem psum_le {A : List Int} {c : Int} (hA : ∀ a ∈ A, 0 ≤ a ∧ a ≤ c) {k : Nat} : ∀ {m : Nat}, k + m ≤ A.length → 0 ≤ psum A k (k + m) ∧ psum A k (k + m) ≤ m * c := by
  intro m
  induction m with
  | zero => intro _; rw [Nat.add_zero, psum_same]; simp
  | succ m ih =>
    intro h
    obtain ⟨a, ha⟩ : ∃ a, A[k + m]? = some a := ⟨_, List.getElem?_eq_getElem (by omega)⟩
    obtain ⟨h1, h2⟩ := ih (by omega)
    have h3 := hA a (List.mem_of_getElem? ha)
    rw [← Nat.add_assoc, psum_succ (by omega) ha]
    refine ⟨by omega, ?_⟩
    have : ((m + 1 : Nat) : Int) * c = m * c + c := by rw [Int.natCast_add, Int.add_mul]; simp
    omega

theorem of_snoc {l : List Passed} {k : Nat} {x : Passed} (j : Int) (h : l[k]? = some x) : ((l.take (k + 1)).filter (ofLink j)).length = ((l.take k).filter (ofLink j)).length + if x.link = j then 1 else 0 := by
  rw [take_snoc h, List.filter_append, List.length_append]
  congr 1
  by_cases hx : x.link = j
  · simp [ofLink, hx]
  · simp [ofLink, hx]
end Go.AI

/- Plain laws of the queues: a link does not depend on the steps on other links. -/
namespace Go.AI
open Go.Proofs

/-- r shows of the link j what q shows, and has no packets elsewhere. -/
structure AInv (q r : QS) (j : Nat) : Prop where
  now : q.now = r.now
  length : q.length = r.length
  lines : q.lines.length = r.lines.length
  line : q.lines[j]? = r.lines[j]?
  other : ∀ (i : Nat) (x : Ln), i ≠ j → r.lines[i]? = some x → x.packets = [] ∧ x.due = []

section
variable {i : Nat} {n : Network} {ds : List Int} {q r : QS} {j : Nat}

theorem AInv.has (h : AInv q r j) (k : Int) : phas q k = phas r k := by unfold phas; rw [h.lines]

theorem AInv.meter (h : AInv q r j) : pmeter q (j : Int) = pmeter r (j : Int) := by
  unfold pmeter; rw [h.has, Int.toNat_natCast, h.line]

theorem pnow_now (h : q.now = r.now) : pnow q = pnow r := by unfold pnow; rw [h]

theorem AInv.outs (h : AInv q r j) : (ptick r).2.filter (ofLink j) = (ptick r).2 := by
  rw [List.filter_eq_self]
  intro y hy
  obtain ⟨l, hl, hyl⟩ := List.mem_flatten.1 hy
  obtain ⟨k, hk⟩ := List.getElem?_of_mem hl
  rw [List.getElem?_mapIdx, Option.map_eq_some_iff] at hk
  obtain ⟨x, hx, rfl⟩ := hk
  obtain ⟨p, hp, rfl⟩ := List.mem_map.1 hyl
  by_cases e : k = j
  · simp [ofLink, pc, e]
  · rw [(h.other k x e hx).1] at hp
    simp at hp

theorem AInv.tick (h : AInv q r j) : AInv (ptick q).1 (ptick r).1 j ∧ (ptick q).2.filter (ofLink j) = (ptick r).2 := by
  have hp := pnow_now h.now
  refine ⟨⟨hp, h.length, by simp [ptick, h.lines], by simp only [ptick, List.getElem?_map, h.line, hp], fun k x hk hx => ?_⟩, ?_⟩
  · simp only [ptick, List.getElem?_map, Option.map_eq_some_iff] at hx
    obtain ⟨y, hy, rfl⟩ := hx
    obtain ⟨h1, h2⟩ := h.other k y hk hy
    constructor
    · show y.packets.drop _ = []
      rw [h1]; simp
    · have e : (y.arrive (pnow r)).room = 0 := by
        unfold Ln.room
        show (if y.down = true then 0 else min _ ((y.packets.drop _).length - _)) = 0
        rw [h1]; simp
      show y.due.drop _ ++ List.replicate (y.arrive (pnow r)).room _ = []
      rw [h2, e]; simp
  · rw [← h.outs, tick_of, tick_of, h.line, hp]

theorem AInv.setJ (h : AInv q r j) (x' : Ln) : AInv (q.set j x') (r.set j x') j :=
  ⟨h.now, h.length, by simp [QS.set, h.lines], by simp only [QS.set, List.getElem?_set, h.line, h.lines], fun k x hk hx => by
    simp only [QS.set] at hx
    rw [List.getElem?_set_ne (Ne.symm hk)] at hx
    exact h.other k x hk hx⟩

theorem AInv.setO (h : AInv q r j) {k : Nat} (hk : k ≠ j) (x' : Ln) : AInv (q.set k x') r j :=
  ⟨h.now, h.length, by simp [QS.set, h.lines], by simp only [QS.set]; rw [List.getElem?_set_ne hk]; exact h.line, h.other⟩

/-- A tick, or a step on the link, done with both. -/
theorem apart_both (h : AInv q r j) (x : Step) (hx : x.kind = 2 ∨ x.link = (j : Int)) :
    AInv (pdo q x).1 (pdo r x).1 j ∧ (pdo q x).2.1.filter (ofLink j) = (pdo r x).2.1 := by
  by_cases h2 : x.kind = 2
  · unfold pdo
    rw [if_neg (by omega), if_pos h2, if_neg (by omega), if_pos h2]
    exact h.tick
  · have hl : x.link = (j : Int) := hx.resolve_left h2
    unfold pdo
    by_cases h1 : x.kind = 1
    · rw [if_pos h1, if_pos h1]
      refine ⟨?_, rfl⟩
      unfold pput
      rw [hl, h.has, Int.toNat_natCast, h.line]
      split
      · split
        · rw [h.length]; exact h.setJ _
        · exact h
      · exact h
    · rw [if_neg h1, if_neg h2, if_neg h1, if_neg h2]
      by_cases h3 : x.kind = 3 ∨ x.kind = 4
      · rw [if_pos h3, if_pos h3]
        refine ⟨?_, rfl⟩
        unfold pswitch
        rw [hl, h.has, Int.toNat_natCast, h.line]
        split
        · split
          · exact h.setJ _
          · exact h
        · exact h
      · rw [if_neg h3, if_neg h3]
        exact ⟨h, rfl⟩

/-- Another step, done with one. -/
theorem apart_one (h : AInv q r j) (x : Step) (h2 : ¬ x.kind = 2) (hl : ¬ x.link = (j : Int)) :
    AInv (pdo q x).1 r j ∧ (pdo q x).2.1 = [] := by
  unfold pdo
  have hj : ∀ {k : Int}, phas q k = true → x.link = k → k.toNat ≠ j := fun hk e => by
    obtain ⟨h0, _, _⟩ := phas_get hk
    omega
  by_cases h1 : x.kind = 1
  · rw [if_pos h1]
    refine ⟨?_, rfl⟩
    unfold pput
    cases hh : phas q x.link with
    | false => exact h
    | true =>
      obtain ⟨h0, h1, y, hy⟩ := phas_get hh
      simp only [if_true, hy]
      exact h.setO (hj hh rfl) _
  · rw [if_neg h1, if_neg h2]
    by_cases h3 : x.kind = 3 ∨ x.kind = 4
    · rw [if_pos h3]
      refine ⟨?_, rfl⟩
      unfold pswitch
      cases hh : phas q x.link with
      | false => exact h
      | true =>
        obtain ⟨h0, h1, y, hy⟩ := phas_get hh
        simp only [if_true, hy]
        exact h.setO (hj hh rfl) _
    · rw [if_neg h3]
      exact ⟨h, rfl⟩

theorem new_get {len : Int} {k : Nat} {x : Ln} (hk : (newq n ds len).lines[k]? = some x) : ∃ l d, n.links[k]? = some l ∧ ds[k]? = some d ∧ x = pline l d := by
  have : (List.zipWith pline n.links ds)[k]? = some x := hk
  rw [List.getElem?_zipWith] at this
  cases hl : n.links[k]? with
  | none => rw [hl] at this; cases this
  | some l =>
    cases hd : ds[k]? with
    | none => rw [hl, hd] at this; cases this
    | some d => rw [hl, hd] at this; cases this; exact ⟨l, d, rfl, rfl, rfl⟩

theorem apart_new {len : Int} : AInv (newq n ds len) (newq n ds len) j :=
  ⟨rfl, rfl, rfl, rfl, fun k x _ hx => by obtain ⟨l, d, _, _, rfl⟩ := new_get hx; exact ⟨rfl, rfl⟩⟩
end
end Go.AI

/- The law QueueLinksAreApart answers true. -/
namespace Go.AI
open Go.Proofs
set_option maxRecDepth 20000

/-- Two queues in one heap. -/
def Q2 (H : Heap) (q r : QS) : Heap := QH (QH H 3 2 q) 6 5 r
structure B2 (H : Heap) : Prop where
  a : Base H 3 2
  b : Base H 6 5

section
variable {H l : Heap} {q r : QS}
theorem QX_comm (H : Heap) {o o2 p p2 : Nat} (h1 : o ≠ p) (h2 : o ≠ p2) (h3 : o2 ≠ p) (h4 : o2 ≠ p2) (n len n' len' : Int) (L L' : List LF) : QX (QX H o o2 n len L) p p2 n' len' L' = QX (QX H p p2 n' len' L') o o2 n len L := by
  unfold QX
  rw [List.set_comm _ _ h3, List.set_comm _ _ h1, List.set_comm _ _ h4, List.set_comm _ _ h2]
theorem Q2_comm (H : Heap) (q r : QS) : Q2 H q r = QH (QH H 6 5 r) 3 2 q := QX_comm H (by decide) (by decide) (by decide) (by decide) _ _ _ _ _ _
theorem Q2_len : (Q2 H q r).length = H.length := by unfold Q2; rw [QX_len, QX_len]
theorem QX_push {A : Heap} {o o2 : Nat} {n len : Int} {L : List LF} (h1 : o < A.length) (h2 : o2 < A.length) {x : Option (List AV)} : QX A o o2 n len L ++ [x] = QX (A ++ [x]) o o2 n len L := by
  unfold QX
  rw [List.set_append_left _ _ h1, List.set_append_left _ _ (by rw [List.length_set]; exact h2)]
theorem B2.push (B : B2 H) (x : Option (List AV)) : Q2 (H ++ l) q r ++ [x] = Q2 (H ++ (l ++ [x])) q r := by
  have h1 := B.a.h1
  have h2 := B.a.h2
  have h3 := B.b.h1
  have h4 := B.b.h2
  unfold Q2
  rw [QX_push (by rw [QX_len, List.length_append]; omega) (by rw [QX_len, List.length_append]; omega), QX_push (by rw [List.length_append]; omega) (by rw [List.length_append]; omega), List.append_assoc]
theorem B2.ga (B : B2 H) (j : Nat) : (Q2 (H ++ l) q r)[H.length + j]? = l[j]? := by
  have := B.a.h1; have := B.b.h1
  unfold Q2
  rw [QX_geti _ (by omega) (by omega), QX_geti _ (by omega) (by omega)]
  exact app_at _ _ _
theorem B2.g0 (B : B2 H) : (Q2 (H ++ l) q r)[H.length]? = l[0]? := B.ga 0
theorem B2.sa (B : B2 H) (j : Nat) (x : Option (List AV)) : (Q2 (H ++ l) q r).set (H.length + j) x = Q2 (H ++ l.set j x) q r := by
  have := B.a.h1; have := B.b.h1
  unfold Q2 QH QX
  rw [List.set_comm _ _ (show (5:Nat) ≠ H.length + j by omega), List.set_comm _ _ (show (6:Nat) ≠ H.length + j by omega), List.set_comm _ _ (show (2:Nat) ≠ H.length + j by omega), List.set_comm _ _ (show (3:Nat) ≠ H.length + j by omega), app_set]
theorem B2.s0 (B : B2 H) (x : Option (List AV)) : (Q2 (H ++ l) q r).set H.length x = Q2 (H ++ l.set 0 x) q r := B.sa 0 x
theorem B2.app {cs : List AV} (B : B2 H) (h : bndL (H.length + 1) cs = true) : B2 (H ++ [some cs]) := ⟨B.a.app h, B.b.app h⟩
theorem B2.of1 (B : B2 H) (r : QS) : Base (QH H 6 5 r) 3 2 := ⟨by rw [QX_len]; exact B.a.h1, by rw [QX_len]; exact B.a.h2, by decide, B.b.closed⟩
theorem B2.of2 (B : B2 H) (q : QS) : Base (QH H 3 2 q) 6 5 := ⟨by rw [QX_len]; exact B.b.h1, by rw [QX_len]; exact B.b.h2, by decide, B.a.closed⟩
theorem B2.v1 (B : B2 H) : QV (Q2 H q r) 3 2 q := by rw [Q2_comm]; exact (B.of1 r).v q
theorem B2.v2 (B : B2 H) : QV (Q2 H q r) 6 5 r := (B.of2 q).v r
end

theorem f13_1 {H : Heap} (B : B2 H) {q r : QS} (hq : q.fine) (x : Step) :
    ACall Try.prog 13 [.ptr 3 0, .agg x.c] (Q2 H q r) fun v H' => v = .tup [.sl none (l57 (pdo q x).2.1), .int .i64 (pdo q x).2.2] ∧ H' = Q2 H (pdo q x).1 r := by
  rw [Q2_comm]
  refine (f13_a (B.of1 r) q hq x).mono fun v H' h => ⟨h.1, ?_⟩
  rw [h.2, Q2_comm]
theorem f13_2 {H : Heap} (B : B2 H) {q r : QS} (hr : r.fine) (x : Step) :
    ACall Try.prog 13 [.ptr 6 0, .agg x.c] (Q2 H q r) fun v H' => v = .tup [.sl none (l57 (pdo r x).2.1), .int .i64 (pdo r x).2.2] ∧ H' = Q2 H q (pdo r x).1 :=
  f13_a (B.of2 q) r hr x

theorem f7_c (c : Case) (hn : c.n.small) (lk : Int) : PCall Try.prog 7 [.agg c.c, .int .i64 lk] (.bool true) := by
  refine PCall.of h7 mixed h7_d Try.func7 rfl call7 (by simp [Try.f7]) (by simp [pureL, AV.pure, go_sem]) rfl ?_
  simp only [Try.f7, go_sem, Nat.reduceEqDiff, Nat.reduceLT, ↓reduceIte, Nat.reduceAdd, Nat.reduceSub, Nat.reduceMul, Nat.reduceBEq, Nat.reduceLeDiff, Nat.reduceDvd, reduceCtorEq, Int.reduceToNat, Int.reduceLT, Int.reduceLE, Nat.le_refl, Int.le_refl, false_implies, implies_true, frzSlot, List.take_length, List.mem_cons, List.not_mem_nil, or_false, forall_eq_or_imp, forall_eq, List.range_succ, List.range_zero, exists_eq_left', Option.some.injEq]
  refine ACallK.prop (f9_c c hn) ?_
  rintro _ ⟨b, rfl, hb⟩
  cases b with
  | false =>
    simp only [go_sem, Nat.reduceEqDiff, Nat.reduceLT, ↓reduceIte, Nat.reduceAdd, Nat.reduceSub, Nat.reduceMul, Nat.reduceBEq, Nat.reduceLeDiff, Nat.reduceDvd, reduceCtorEq, Int.reduceToNat, Int.reduceLT, Int.reduceLE, Nat.le_refl, Int.le_refl, false_implies, implies_true, frzSlot, List.take_length, List.mem_cons, List.not_mem_nil, or_false, forall_eq_or_imp, forall_eq, List.range_succ, List.range_zero, exists_eq_left', Option.some.injEq]
    refine PCallK.intro f10_c ?_
    simp only [go_sem, Nat.reduceEqDiff, Nat.reduceLT, ↓reduceIte, Nat.reduceAdd, Nat.reduceSub, Nat.reduceMul, Nat.reduceBEq, Nat.reduceLeDiff, Nat.reduceDvd, reduceCtorEq, Int.reduceToNat, Int.reduceLT, Int.reduceLE, Nat.le_refl, Int.le_refl, false_implies, implies_true, frzSlot, List.take_length, List.mem_cons, List.not_mem_nil, or_false, forall_eq_or_imp, forall_eq, List.range_succ, List.range_zero, exists_eq_left', Option.some.injEq]
  | true =>
    obtain ⟨g1, g2, g3, g4, g5⟩ := hb rfl
    have hcl : closedH [some c.c] := closedB_spec (by simp only [go_sem])
    by_cases l0 : lk < 0
    · simp only [go_sem, Nat.reduceEqDiff, Nat.reduceLT, ↓reduceIte, Nat.reduceAdd, Nat.reduceSub, Nat.reduceMul, Nat.reduceBEq, Nat.reduceLeDiff, Nat.reduceDvd, reduceCtorEq, Int.reduceToNat, Int.reduceLT, Int.reduceLE, Nat.le_refl, Int.le_refl, false_implies, implies_true, frzSlot, List.take_length, List.mem_cons, List.not_mem_nil, or_false, forall_eq_or_imp, forall_eq, List.range_succ, List.range_zero, exists_eq_left', Option.some.injEq, l0]
      refine PCallK.intro f10_c ?_
      simp only [go_sem, Nat.reduceEqDiff, Nat.reduceLT, ↓reduceIte, Nat.reduceAdd, Nat.reduceSub, Nat.reduceMul, Nat.reduceBEq, Nat.reduceLeDiff, Nat.reduceDvd, reduceCtorEq, Int.reduceToNat, Int.reduceLT, Int.reduceLE, Nat.le_refl, Int.le_refl, false_implies, implies_true, frzSlot, List.take_length, List.mem_cons, List.not_mem_nil, or_false, forall_eq_or_imp, forall_eq, List.range_succ, List.range_zero, exists_eq_left', Option.some.injEq]
    · by_cases l1 : (c.n.links.length : Int) ≤ lk
      · simp only [go_sem, Nat.reduceEqDiff, Nat.reduceLT, ↓reduceIte, Nat.reduceAdd, Nat.reduceSub, Nat.reduceMul, Nat.reduceBEq, Nat.reduceLeDiff, Nat.reduceDvd, reduceCtorEq, Int.reduceToNat, Int.reduceLT, Int.reduceLE, Nat.le_refl, Int.le_refl, false_implies, implies_true, frzSlot, List.take_length, List.mem_cons, List.not_mem_nil, or_false, forall_eq_or_imp, forall_eq, List.range_succ, List.range_zero, exists_eq_left', Option.some.injEq, l0, l1]
        refine PCallK.intro f10_c ?_
        simp only [go_sem, Nat.reduceEqDiff, Nat.reduceLT, ↓reduceIte, Nat.reduceAdd, Nat.reduceSub, Nat.reduceMul, Nat.reduceBEq, Nat.reduceLeDiff, Nat.reduceDvd, reduceCtorEq, Int.reduceToNat, Int.reduceLT, Int.reduceLE, Nat.le_refl, Int.le_refl, false_implies, implies_true, frzSlot, List.take_length, List.mem_cons, List.not_mem_nil, or_false, forall_eq_or_imp, forall_eq, List.range_succ, List.range_zero, exists_eq_left', Option.some.injEq]
      · simp only [go_sem, Nat.reduceEqDiff, Nat.reduceLT, ↓reduceIte, Nat.reduceAdd, Nat.reduceSub, Nat.reduceMul, Nat.reduceBEq, Nat.reduceLeDiff, Nat.reduceDvd, reduceCtorEq, Int.reduceToNat, Int.reduceLT, Int.reduceLE, Nat.le_refl, Int.le_refl, false_implies, implies_true, frzSlot, List.take_length, List.mem_cons, List.not_mem_nil, or_false, forall_eq_or_imp, forall_eq, List.range_succ, List.range_zero, exists_eq_left', Option.some.injEq, l0, l1]
        obtain ⟨j, rfl⟩ : ∃ j : Nat, lk = (j : Int) := ⟨lk.toNat, by omega⟩
        have hj : j < c.n.links.length := by omega
        cases hf : rfine c.n c.delays c.length with
        | false =>
          refine ACallK.intro (f11_bad hcl c.n c.delays c.length hf) ?_
          rintro _ _ ⟨rfl, rfl⟩
          simp only [go_sem, Nat.reduceEqDiff, Nat.reduceLT, ↓reduceIte, Nat.reduceAdd, Nat.reduceSub, Nat.reduceMul, Nat.reduceBEq, Nat.reduceLeDiff, Nat.reduceDvd, reduceCtorEq, Int.reduceToNat, Int.reduceLT, Int.reduceLE, Nat.le_refl, Int.le_refl, false_implies, implies_true, frzSlot, List.take_length, List.mem_cons, List.not_mem_nil, or_false, forall_eq_or_imp, forall_eq, List.range_succ, List.range_zero, exists_eq_left', Option.some.injEq, Int.reduceBEq, Int.reduceBNe]
          refine ACallK.intro (f11_bad hcl c.n c.delays c.length hf) ?_
          rintro _ _ ⟨rfl, rfl⟩
          simp only [go_sem, Nat.reduceEqDiff, Nat.reduceLT, ↓reduceIte, Nat.reduceAdd, Nat.reduceSub, Nat.reduceMul, Nat.reduceBEq, Nat.reduceLeDiff, Nat.reduceDvd, reduceCtorEq, Int.reduceToNat, Int.reduceLT, Int.reduceLE, Nat.le_refl, Int.le_refl, false_implies, implies_true, frzSlot, List.take_length, List.mem_cons, List.not_mem_nil, or_false, forall_eq_or_imp, forall_eq, List.range_succ, List.range_zero, exists_eq_left', Option.some.injEq, Int.reduceBEq, Int.reduceBNe]
          refine PCallK.intro f10_c ?_
          simp only [go_sem, Nat.reduceEqDiff, Nat.reduceLT, ↓reduceIte, Nat.reduceAdd, Nat.reduceSub, Nat.reduceMul, Nat.reduceBEq, Nat.reduceLeDiff, Nat.reduceDvd, reduceCtorEq, Int.reduceToNat, Int.reduceLT, Int.reduceLE, Nat.le_refl, Int.le_refl, false_implies, implies_true, frzSlot, List.take_length, List.mem_cons, List.not_mem_nil, or_false, forall_eq_or_imp, forall_eq, List.range_succ, List.range_zero, exists_eq_left', Option.some.injEq, Int.reduceBEq, Int.reduceBNe, beq_self_eq_true]
        | true =>
          obtain ⟨s1, s2⟩ := new_step hf (by omega) (fun x hx => g3 x hx)
          refine ACallK.intro (f11_good hcl c.n c.delays c.length hf (by omega)) ?_
          rintro _ _ ⟨rfl, rfl⟩
          have B0 : Base (nbase [some c.c] c.n) 3 2 := nbase_ok hcl c.n
          have q0 : (QH (nbase [some c.c] c.n) 3 2 (newq c.n c.delays c.length))[0]? = some (some c.c) := rfl
          simp only [go_sem, Nat.reduceEqDiff, Nat.reduceLT, ↓reduceIte, Nat.reduceAdd, Nat.reduceSub, Nat.reduceMul, Nat.reduceBEq, Nat.reduceLeDiff, Nat.reduceDvd, reduceCtorEq, Int.reduceToNat, Int.reduceLT, Int.reduceLE, Nat.le_refl, Int.le_refl, false_implies, implies_true, frzSlot, List.take_length, List.mem_cons, List.not_mem_nil, or_false, forall_eq_or_imp, forall_eq, List.range_succ, List.range_zero, exists_eq_left', Option.some.injEq, Nat.reduceAdd, Int.reduceBEq, Int.reduceBNe, List.length_cons, List.length_nil, q0]
          refine ACallK.intro (f11_good B0.closed c.n c.delays c.length hf (by omega)) ?_
          rintro _ _ ⟨rfl, rfl⟩
          have e7 : QH (nbase (QH (nbase [some c.c] c.n) 3 2 (newq c.n c.delays c.length)) c.n) ((QH (nbase [some c.c] c.n) 3 2 (newq c.n c.delays c.length)).length + 2) ((QH (nbase [some c.c] c.n) 3 2 (newq c.n c.delays c.length)).length + 1) (newq c.n c.delays c.length) = Q2 (nbase (nbase [some c.c] c.n) c.n) (newq c.n c.delays c.length) (newq c.n c.delays c.length) := rfl
          have e8 : (QH (nbase [some c.c] c.n) 3 2 (newq c.n c.delays c.length)).length = 4 := rfl
          have B1 : B2 (nbase (nbase [some c.c] c.n) c.n) := ⟨⟨Nat.le_of_ble_eq_true rfl, Nat.le_of_ble_eq_true rfl, by decide, (nbase_ok B0.cl c.n).cl⟩, nbase_ok B0.cl c.n⟩
          have q1 : ∀ l q r, (Q2 (nbase (nbase [some c.c] c.n) c.n ++ l) q r)[0]? = some (some c.c) := fun l q r => rfl
          have q11 : ∀ q r, (Q2 (nbase (nbase [some c.c] c.n) c.n) q r)[0]? = some (some c.c) := fun q r => rfl
          rw [e7]
          simp only [go_sem, Nat.reduceEqDiff, Nat.reduceLT, ↓reduceIte, Nat.reduceAdd, Nat.reduceSub, Nat.reduceMul, Nat.reduceBEq, Nat.reduceLeDiff, Nat.reduceDvd, reduceCtorEq, Int.reduceToNat, Int.reduceLT, Int.reduceLE, Nat.le_refl, Int.le_refl, false_implies, implies_true, frzSlot, List.take_length, List.mem_cons, List.not_mem_nil, or_false, forall_eq_or_imp, forall_eq, List.range_succ, List.range_zero, exists_eq_left', Option.some.injEq, Nat.reduceAdd, Int.reduceBEq, Int.reduceBNe, e8]
          clear e7 e8
          generalize nbase (nbase [some c.c] c.n) c.n = H1 at *
          simp only [go_sem, Nat.reduceEqDiff, Nat.reduceLT, ↓reduceIte, Nat.reduceAdd, Nat.reduceSub, Nat.reduceMul, Nat.reduceBEq, Nat.reduceLeDiff, Nat.reduceDvd, reduceCtorEq, Int.reduceToNat, Int.reduceLT, Int.reduceLE, Nat.le_refl, Int.le_refl, false_implies, implies_true, frzSlot, List.take_length, List.mem_cons, List.not_mem_nil, or_false, forall_eq_or_imp, forall_eq, List.range_succ, List.range_zero, exists_eq_left', Option.some.injEq, q1, q11]
          refine awp_wh (σ := Nat × QS × QS × Heap) (fun s => [(1, .int .i64 (j : Int)), (5, .ptr 3 0), (7, .ptr 6 0), (70, .sl none (l47 c.l)), (71, .int .i64 (c.l.length : Int)), (72, .int .i64 (s.1 : Int))])
            (fun s => Q2 (H1 ++ s.2.2.2) s.2.1 s.2.2.1)
            (fun s => s.1 ≤ c.l.length ∧ QInv s.1 c.n c.delays s.2.1 ∧ QInv s.1 c.n c.delays s.2.2.1 ∧ AInv s.2.1 s.2.2.1 j ∧ B2 (H1 ++ s.2.2.2))
            (fun s => c.l.length - s.1) (0, newq c.n c.delays c.length, newq c.n c.delays c.length, []) ⟨Nat.zero_le _, s2, s2, apart_new, by simpa using B1⟩ rfl (by simp) ?_
          rintro ⟨k, q, r, g⟩ ⟨hk, hI, hJ, hA, B⟩
          dsimp only at hk hI hJ hA B ⊢
          by_cases hlt : k < c.l.length
          · obtain ⟨x, hx⟩ : ∃ x, c.l[k]? = some x := ⟨_, List.getElem?_eq_getElem hlt⟩
            have k0 : (0 : Int) ≤ (k : Int) := by omega
            have k1 : (k : Int) < (c.l.length : Int) := by omega
            have hi : k < 3000 := by omega
            have Bx : B2 (H1 ++ (g ++ [some x.c])) := by
              have := B.app (cs := x.c) (by simp only [go_sem])
              simpa using this
            simp only [go_sem, Nat.reduceEqDiff, Nat.reduceLT, ↓reduceIte, Nat.reduceAdd, Nat.reduceSub, Nat.reduceMul, Nat.reduceBEq, Nat.reduceLeDiff, Nat.reduceDvd, reduceCtorEq, Int.reduceToNat, Int.reduceLT, Int.reduceLE, Nat.le_refl, Int.le_refl, false_implies, implies_true, frzSlot, List.take_length, List.mem_cons, List.not_mem_nil, or_false, forall_eq_or_imp, forall_eq, List.range_succ, List.range_zero, exists_eq_left', Option.some.injEq, k0, k1, l47_get hx, B1.push, Q2_len, B1.sa, B1.ga, B1.g0, B1.s0, app_at0, app_at, app_set0, app_set, List.length_append]
            refine ACallK.intro (f13_1 Bx hI.fine x) ?_
            rintro _ _ ⟨rfl, rfl⟩
            simp only [go_sem, Nat.reduceEqDiff, Nat.reduceLT, ↓reduceIte, Nat.reduceAdd, Nat.reduceSub, Nat.reduceMul, Nat.reduceBEq, Nat.reduceLeDiff, Nat.reduceDvd, reduceCtorEq, Int.reduceToNat, Int.reduceLT, Int.reduceLE, Nat.le_refl, Int.le_refl, false_implies, implies_true, frzSlot, List.take_length, List.mem_cons, List.not_mem_nil, or_false, forall_eq_or_imp, forall_eq, List.range_succ, List.range_zero, exists_eq_left', Option.some.injEq, B1.push, Q2_len, B1.sa, B1.ga, B1.g0, B1.s0, app_at0, app_at, app_set0, app_set, List.length_append]
            have hTl : (pdo q x).2.1.length ≤ 3000000 := pdo_len hI x
            have hTj : ∀ y ∈ (pdo q x).2.1, True := fun _ _ => trivial
            generalize hTe : (pdo q x).2.1 = T at hTl ⊢
            refine awp_wh (σ := Nat × Heap) (fun s => [(1, .int .i64 (j : Int)), (5, .ptr 3 0), (7, .ptr 6 0), (10, .ptr (H1.length + g.length) 0), (13, .sl (some 12) (l57 ((T.take s.1).filter (ofLink j)))), (14, .sl (some 12) []), (70, .sl none (l47 c.l)), (71, .int .i64 (c.l.length : Int)), (72, .int .i64 (k : Int)), (82, .sl none (l57 T)), (83, .int .i64 (T.length : Int)), (84, .int .i64 (s.1 : Int))])
              (fun s => Q2 (H1 ++ (g ++ some x.c :: s.2)) (pdo q x).1 r)
              (fun s => s.1 ≤ T.length ∧ B2 (H1 ++ (g ++ some x.c :: s.2)))
              (fun s => T.length - s.1) (0, []) ⟨Nat.zero_le _, Bx⟩ rfl rfl ?_
            rintro ⟨m, f⟩ ⟨hm, Bf⟩
            dsimp only at hm Bf ⊢
            by_cases hmt : m < T.length
            · obtain ⟨y, hy⟩ : ∃ y, T[m]? = some y := ⟨_, List.getElem?_eq_getElem hmt⟩
              have m0 : (0 : Int) ≤ (m : Int) := by omega
              have m1 : (m : Int) < (T.length : Int) := by omega
              have Bn : B2 (H1 ++ (g ++ some x.c :: (f ++ [some y.c]))) := by
                have := Bf.app (cs := y.c) (by simp only [go_sem])
                simpa using this
              have hfl : ((T.take m).filter (ofLink j)).length ≤ 3000000 := Nat.le_trans (List.length_filter_le _ _) (by rw [List.length_take]; omega)
              have a1 : (((T.take m).filter (ofLink j)).length + 1) * 96 ≤ 140737488355328 := by omega
              have a2 : ((T.take m).filter (ofLink j)).length ≤ 9223372036854775806 := by omega
              by_cases hyl : y.link = (j : Int)
              · have hyb : (y.link == (j : Int)) = true := by simp [hyl]
                have hsn : (T.take (m + 1)).filter (ofLink j) = (T.take m).filter (ofLink j) ++ [y] := by rw [take_snoc hy, List.filter_append]; simp [ofLink, hyl]
                simp only [go_sem, Nat.reduceEqDiff, Nat.reduceLT, ↓reduceIte, Nat.reduceAdd, Nat.reduceSub, Nat.reduceMul, Nat.reduceBEq, Nat.reduceLeDiff, Nat.reduceDvd, reduceCtorEq, Int.reduceToNat, Int.reduceLT, Int.reduceLE, Nat.le_refl, Int.le_refl, false_implies, implies_true, frzSlot, List.take_length, List.mem_cons, List.not_mem_nil, or_false, forall_eq_or_imp, forall_eq, List.range_succ, List.range_zero, exists_eq_left', Option.some.injEq, m0, m1, l57_get hy, B1.push, Q2_len, B1.sa, B1.ga, B1.g0, B1.s0, app_at0, app_at, app_set0, app_set, List.length_append, hyb, w64s (show m < 9223372036854775807 by omega), a1, a2]
                exact ⟨(m + 1, f ++ [some y.c]), ⟨hmt, Bn⟩, by dsimp only; omega, by rw [hsn], by simp⟩
              · have hyb : (y.link == (j : Int)) = false := by simp [hyl]
                have hsn : (T.take (m + 1)).filter (ofLink j) = (T.take m).filter (ofLink j) := by rw [take_snoc hy, List.filter_append]; simp [ofLink, hyl]
                simp only [go_sem, Nat.reduceEqDiff, Nat.reduceLT, ↓reduceIte, Nat.reduceAdd, Nat.reduceSub, Nat.reduceMul, Nat.reduceBEq, Nat.reduceLeDiff, Nat.reduceDvd, reduceCtorEq, Int.reduceToNat, Int.reduceLT, Int.reduceLE, Nat.le_refl, Int.le_refl, false_implies, implies_true, frzSlot, List.take_length, List.mem_cons, List.not_mem_nil, or_false, forall_eq_or_imp, forall_eq, List.range_succ, List.range_zero, exists_eq_left', Option.some.injEq, m0, m1, l57_get hy, B1.push, Q2_len, B1.sa, B1.ga, B1.g0, B1.s0, app_at0, app_at, app_set0, app_set, List.length_append, hyb, w64s (show m < 9223372036854775807 by omega)]
                exact ⟨(m + 1, f ++ [some y.c]), ⟨hmt, Bn⟩, by dsimp only; omega, by rw [hsn], by simp⟩
            · have m1 : ¬ (m : Int) < (T.length : Int) := by omega
              have hme : m = T.length := by omega
              subst hme
              have hT : T.take T.length = T := List.take_length
              by_cases h2 : x.kind = 2
              · obtain ⟨hA', hall⟩ := apart_both hA x (.inl h2)
                obtain ⟨_, hI'⟩ := do_step hI hi x
                obtain ⟨_, hJ'⟩ := do_step hJ hi x
                have e2 : (x.kind == 2) = true := by simp [h2]
                rw [hTe] at hall
                have hf15 : PCall Try.prog 15 [.sl (some 12) (l57 (T.filter (ofLink j))), .sl none (l57 (T.filter (ofLink j)))] (.bool true) := (f15_same _).lend
                simp only [go_sem, Nat.reduceEqDiff, Nat.reduceLT, ↓reduceIte, Nat.reduceAdd, Nat.reduceSub, Nat.reduceMul, Nat.reduceBEq, Nat.reduceLeDiff, Nat.reduceDvd, reduceCtorEq, Int.reduceToNat, Int.reduceLT, Int.reduceLE, Nat.le_refl, Int.le_refl, false_implies, implies_true, frzSlot, List.take_length, List.mem_cons, List.not_mem_nil, or_false, forall_eq_or_imp, forall_eq, List.range_succ, List.range_zero, exists_eq_left', Option.some.injEq, m1, B1.push, Q2_len, B1.sa, B1.ga, B1.g0, B1.s0, app_at0, app_at, app_set0, app_set, List.length_append, e2, hT]
                refine ACallK.intro (f13_2 Bf hJ.fine x) ?_
                rintro _ _ ⟨rfl, rfl⟩
                rw [← hall]
                simp only [go_sem, Nat.reduceEqDiff, Nat.reduceLT, ↓reduceIte, Nat.reduceAdd, Nat.reduceSub, Nat.reduceMul, Nat.reduceBEq, Nat.reduceLeDiff, Nat.reduceDvd, reduceCtorEq, Int.reduceToNat, Int.reduceLT, Int.reduceLE, Nat.le_refl, Int.le_refl, false_implies, implies_true, frzSlot, List.take_length, List.mem_cons, List.not_mem_nil, or_false, forall_eq_or_imp, forall_eq, List.range_succ, List.range_zero, exists_eq_left', Option.some.injEq, B1.push, Q2_len, B1.sa, B1.ga, B1.g0, B1.s0, app_at0, app_at, app_set0, app_set, List.length_append]
                refine RCallK.intro (f17_r (j : Int) Bf.v1) ?_
                have hmm := hA'.meter
                simp only [go_sem, Nat.reduceEqDiff, Nat.reduceLT, ↓reduceIte, Nat.reduceAdd, Nat.reduceSub, Nat.reduceMul, Nat.reduceBEq, Nat.reduceLeDiff, Nat.reduceDvd, reduceCtorEq, Int.reduceToNat, Int.reduceLT, Int.reduceLE, Nat.le_refl, Int.le_refl, false_implies, implies_true, frzSlot, List.take_length, List.mem_cons, List.not_mem_nil, or_false, forall_eq_or_imp, forall_eq, List.range_succ, List.range_zero, exists_eq_left', Option.some.injEq, B1.push, Q2_len, B1.sa, B1.ga, B1.g0, B1.s0, app_at0, app_at, app_set0, app_set, List.length_append]
                have Bm : B2 (H1 ++ (g ++ some x.c :: (f ++ [some (pmeter (pdo q x).1 (j : Int)).c]))) := by
                  have := Bf.app (cs := (pmeter (pdo q x).1 (j : Int)).c) (by simp only [go_sem])
                  simpa using this
                refine RCallK.intro (f17_r (j : Int) Bm.v2) ?_
                rw [← hmm]
                simp only [go_sem, Nat.reduceEqDiff, Nat.reduceLT, ↓reduceIte, Nat.reduceAdd, Nat.reduceSub, Nat.reduceMul, Nat.reduceBEq, Nat.reduceLeDiff, Nat.reduceDvd, reduceCtorEq, Int.reduceToNat, Int.reduceLT, Int.reduceLE, Nat.le_refl, Int.le_refl, false_implies, implies_true, frzSlot, List.take_length, List.mem_cons, List.not_mem_nil, or_false, forall_eq_or_imp, forall_eq, List.range_succ, List.range_zero, exists_eq_left', Option.some.injEq, B1.push, Q2_len, B1.sa, B1.ga, B1.g0, B1.s0, app_at0, app_at, app_set0, app_set, List.length_append]
                refine PCallK.intro hf15 ?_
                have hmd : decide (pmeter (pdo q x).1 (j : Int) = pmeter (pdo q x).1 (j : Int)) = true := by simp
                simp only [go_sem, Nat.reduceEqDiff, Nat.reduceLT, ↓reduceIte, Nat.reduceAdd, Nat.reduceSub, Nat.reduceMul, Nat.reduceBEq, Nat.reduceLeDiff, Nat.reduceDvd, reduceCtorEq, Int.reduceToNat, Int.reduceLT, Int.reduceLE, Nat.le_refl, Int.le_refl, false_implies, implies_true, frzSlot, List.take_length, List.mem_cons, List.not_mem_nil, or_false, forall_eq_or_imp, forall_eq, List.range_succ, List.range_zero, exists_eq_left', Option.some.injEq, B1.push, Q2_len, B1.sa, B1.ga, B1.g0, B1.s0, app_at0, app_at, app_set0, app_set, List.length_append, hmd, w64s (show k < 9223372036854775807 by omega)]
                have Bq : B2 (H1 ++ (g ++ some x.c :: (f ++ [some (pmeter (pdo q x).1 (j : Int)).c, some (pmeter (pdo q x).1 (j : Int)).c]))) := by
                  have := Bm.app (cs := (pmeter (pdo q x).1 (j : Int)).c) (by simp only [go_sem])
                  simpa using this
                exact ⟨(k + 1, _, _, _), ⟨hlt, hI', hJ', hA', Bq⟩, by dsimp only; omega, rfl, rfl⟩
              · have e2 : (x.kind == 2) = false := by simp [h2]
                by_cases h3 : x.link = (j : Int)
                · obtain ⟨hA', hall⟩ := apart_both hA x (.inr h3)
                  obtain ⟨_, hI'⟩ := do_step hI hi x
                  obtain ⟨_, hJ'⟩ := do_step hJ hi x
                  have e3 : (x.link == (j : Int)) = true := by simp [h3]
                  rw [hTe] at hall
                  have hf15 : PCall Try.prog 15 [.sl (some 12) (l57 (T.filter (ofLink j))), .sl none (l57 (T.filter (ofLink j)))] (.bool true) := (f15_same _).lend
                  simp only [go_sem, Nat.reduceEqDiff, Nat.reduceLT, ↓reduceIte, Nat.reduceAdd, Nat.reduceSub, Nat.reduceMul, Nat.reduceBEq, Nat.reduceLeDiff, Nat.reduceDvd, reduceCtorEq, Int.reduceToNat, Int.reduceLT, Int.reduceLE, Nat.le_refl, Int.le_refl, false_implies, implies_true, frzSlot, List.take_length, List.mem_cons, List.not_mem_nil, or_false, forall_eq_or_imp, forall_eq, List.range_succ, List.range_zero, exists_eq_left', Option.some.injEq, m1, B1.push, Q2_len, B1.sa, B1.ga, B1.g0, B1.s0, app_at0, app_at, app_set0, app_set, List.length_append, e2, hT, e3]
                  refine ACallK.intro (f13_2 Bf hJ.fine x) ?_
                  rintro _ _ ⟨rfl, rfl⟩
                  rw [← hall]
                  simp only [go_sem, Nat.reduceEqDiff, Nat.reduceLT, ↓reduceIte, Nat.reduceAdd, Nat.reduceSub, Nat.reduceMul, Nat.reduceBEq, Nat.reduceLeDiff, Nat.reduceDvd, reduceCtorEq, Int.reduceToNat, Int.reduceLT, Int.reduceLE, Nat.le_refl, Int.le_refl, false_implies, implies_true, frzSlot, List.take_length, List.mem_cons, List.not_mem_nil, or_false, forall_eq_or_imp, forall_eq, List.range_succ, List.range_zero, exists_eq_left', Option.some.injEq, B1.push, Q2_len, B1.sa, B1.ga, B1.g0, B1.s0, app_at0, app_at, app_set0, app_set, List.length_append]
                  refine RCallK.intro (f17_r (j : Int) Bf.v1) ?_
                  have hmm := hA'.meter
                  simp only [go_sem, Nat.reduceEqDiff, Nat.reduceLT, ↓reduceIte, Nat.reduceAdd, Nat.reduceSub, Nat.reduceMul, Nat.reduceBEq, Nat.reduceLeDiff, Nat.reduceDvd, reduceCtorEq, Int.reduceToNat, Int.reduceLT, Int.reduceLE, Nat.le_refl, Int.le_refl, false_implies, implies_true, frzSlot, List.take_length, List.mem_cons, List.not_mem_nil, or_false, forall_eq_or_imp, forall_eq, List.range_succ, List.range_zero, exists_eq_left', Option.some.injEq, B1.push, Q2_len, B1.sa, B1.ga, B1.g0, B1.s0, app_at0, app_at, app_set0, app_set, List.length_append]
                  have Bm : B2 (H1 ++ (g ++ some x.c :: (f ++ [some (pmeter (pdo q x).1 (j : Int)).c]))) := by
                    have := Bf.app (cs := (pmeter (pdo q x).1 (j : Int)).c) (by simp only [go_sem])
                    simpa using this
                  refine RCallK.intro (f17_r (j : Int) Bm.v2) ?_
                  rw [← hmm]
                  simp only [go_sem, Nat.reduceEqDiff, Nat.reduceLT, ↓reduceIte, Nat.reduceAdd, Nat.reduceSub, Nat.reduceMul, Nat.reduceBEq, Nat.reduceLeDiff, Nat.reduceDvd, reduceCtorEq, Int.reduceToNat, Int.reduceLT, Int.reduceLE, Nat.le_refl, Int.le_refl, false_implies, implies_true, frzSlot, List.take_length, List.mem_cons, List.not_mem_nil, or_false, forall_eq_or_imp, forall_eq, List.range_succ, List.range_zero, exists_eq_left', Option.some.injEq, B1.push, Q2_len, B1.sa, B1.ga, B1.g0, B1.s0, app_at0, app_at, app_set0, app_set, List.length_append]
                  refine PCallK.intro hf15 ?_
                  have hmd : decide (pmeter (pdo q x).1 (j : Int) = pmeter (pdo q x).1 (j : Int)) = true := by simp
                  simp only [go_sem, Nat.reduceEqDiff, Nat.reduceLT, ↓reduceIte, Nat.reduceAdd, Nat.reduceSub, Nat.reduceMul, Nat.reduceBEq, Nat.reduceLeDiff, Nat.reduceDvd, reduceCtorEq, Int.reduceToNat, Int.reduceLT, Int.reduceLE, Nat.le_refl, Int.le_refl, false_implies, implies_true, frzSlot, List.take_length, List.mem_cons, List.not_mem_nil, or_false, forall_eq_or_imp, forall_eq, List.range_succ, List.range_zero, exists_eq_left', Option.some.injEq, B1.push, Q2_len, B1.sa, B1.ga, B1.g0, B1.s0, app_at0, app_at, app_set0, app_set, List.length_append, hmd, w64s (show k < 9223372036854775807 by omega)]
                  have Bq : B2 (H1 ++ (g ++ some x.c :: (f ++ [some (pmeter (pdo q x).1 (j : Int)).c, some (pmeter (pdo q x).1 (j : Int)).c]))) := by
                    have := Bm.app (cs := (pmeter (pdo q x).1 (j : Int)).c) (by simp only [go_sem])
                    simpa using this
                  exact ⟨(k + 1, _, _, _), ⟨hlt, hI', hJ', hA', Bq⟩, by dsimp only; omega, rfl, rfl⟩
                · obtain ⟨hA', hall⟩ := apart_one hA x h2 h3
                  obtain ⟨_, hI'⟩ := do_step hI hi x
                  have hJ' := hJ.mono hi
                  have e3 : (x.link == (j : Int)) = false := by simp [h3]
                  rw [hTe] at hall
                  have hf15 : PCall Try.prog 15 [.sl (some 12) (l57 (T.filter (ofLink j))), .sl (some 12) []] (.bool true) := by rw [hall]; exact (f15_same []).lend
                  simp only [go_sem, Nat.reduceEqDiff, Nat.reduceLT, ↓reduceIte, Nat.reduceAdd, Nat.reduceSub, Nat.reduceMul, Nat.reduceBEq, Nat.reduceLeDiff, Nat.reduceDvd, reduceCtorEq, Int.reduceToNat, Int.reduceLT, Int.reduceLE, Nat.le_refl, Int.le_refl, false_implies, implies_true, frzSlot, List.take_length, List.mem_cons, List.not_mem_nil, or_false, forall_eq_or_imp, forall_eq, List.range_succ, List.range_zero, exists_eq_left', Option.some.injEq, m1, B1.push, Q2_len, B1.sa, B1.ga, B1.g0, B1.s0, app_at0, app_at, app_set0, app_set, List.length_append, e2, hT, e3]
                  refine RCallK.intro (f17_r (j : Int) Bf.v1) ?_
                  have hmm := hA'.meter
                  simp only [go_sem, Nat.reduceEqDiff, Nat.reduceLT, ↓reduceIte, Nat.reduceAdd, Nat.reduceSub, Nat.reduceMul, Nat.reduceBEq, Nat.reduceLeDiff, Nat.reduceDvd, reduceCtorEq, Int.reduceToNat, Int.reduceLT, Int.reduceLE, Nat.le_refl, Int.le_refl, false_implies, implies_true, frzSlot, List.take_length, List.mem_cons, List.not_mem_nil, or_false, forall_eq_or_imp, forall_eq, List.range_succ, List.range_zero, exists_eq_left', Option.some.injEq, B1.push, Q2_len, B1.sa, B1.ga, B1.g0, B1.s0, app_at0, app_at, app_set0, app_set, List.length_append]
                  have Bm : B2 (H1 ++ (g ++ some x.c :: (f ++ [some (pmeter (pdo q x).1 (j : Int)).c]))) := by
                    have := Bf.app (cs := (pmeter (pdo q x).1 (j : Int)).c) (by simp only [go_sem])
                    simpa using this
                  refine RCallK.intro (f17_r (j : Int) Bm.v2) ?_
                  rw [← hmm]
                  simp only [go_sem, Nat.reduceEqDiff, Nat.reduceLT, ↓reduceIte, Nat.reduceAdd, Nat.reduceSub, Nat.reduceMul, Nat.reduceBEq, Nat.reduceLeDiff, Nat.reduceDvd, reduceCtorEq, Int.reduceToNat, Int.reduceLT, Int.reduceLE, Nat.le_refl, Int.le_refl, false_implies, implies_true, frzSlot, List.take_length, List.mem_cons, List.not_mem_nil, or_false, forall_eq_or_imp, forall_eq, List.range_succ, List.range_zero, exists_eq_left', Option.some.injEq, B1.push, Q2_len, B1.sa, B1.ga, B1.g0, B1.s0, app_at0, app_at, app_set0, app_set, List.length_append]
                  refine PCallK.intro hf15 ?_
                  have hmd : decide (pmeter (pdo q x).1 (j : Int) = pmeter (pdo q x).1 (j : Int)) = true := by simp
                  simp only [go_sem, Nat.reduceEqDiff, Nat.reduceLT, ↓reduceIte, Nat.reduceAdd, Nat.reduceSub, Nat.reduceMul, Nat.reduceBEq, Nat.reduceLeDiff, Nat.reduceDvd, reduceCtorEq, Int.reduceToNat, Int.reduceLT, Int.reduceLE, Nat.le_refl, Int.le_refl, false_implies, implies_true, frzSlot, List.take_length, List.mem_cons, List.not_mem_nil, or_false, forall_eq_or_imp, forall_eq, List.range_succ, List.range_zero, exists_eq_left', Option.some.injEq, B1.push, Q2_len, B1.sa, B1.ga, B1.g0, B1.s0, app_at0, app_at, app_set0, app_set, List.length_append, hmd, w64s (show k < 9223372036854775807 by omega)]
                  have Bq : B2 (H1 ++ (g ++ some x.c :: (f ++ [some (pmeter (pdo q x).1 (j : Int)).c, some (pmeter (pdo q x).1 (j : Int)).c]))) := by
                    have := Bm.app (cs := (pmeter (pdo q x).1 (j : Int)).c) (by simp only [go_sem])
                    simpa using this
                  exact ⟨(k + 1, _, _, _), ⟨hlt, hI', hJ', hA', Bq⟩, by dsimp only; omega, rfl, rfl⟩
          · have k1 : ¬ (k : Int) < (c.l.length : Int) := by omega
            simp only [go_sem, Nat.reduceEqDiff, Nat.reduceLT, ↓reduceIte, Nat.reduceAdd, Nat.reduceSub, Nat.reduceMul, Nat.reduceBEq, Nat.reduceLeDiff, Nat.reduceDvd, reduceCtorEq, Int.reduceToNat, Int.reduceLT, Int.reduceLE, Nat.le_refl, Int.le_refl, false_implies, implies_true, frzSlot, List.take_length, List.mem_cons, List.not_mem_nil, or_false, forall_eq_or_imp, forall_eq, List.range_succ, List.range_zero, exists_eq_left', Option.some.injEq, k1]
            refine PCallK.intro f10_c ?_
            simp only [go_sem, Nat.reduceEqDiff, Nat.reduceLT, ↓reduceIte, Nat.reduceAdd, Nat.reduceSub, Nat.reduceMul, Nat.reduceBEq, Nat.reduceLeDiff, Nat.reduceDvd, reduceCtorEq, Int.reduceToNat, Int.reduceLT, Int.reduceLE, Nat.le_refl, Int.le_refl, false_implies, implies_true, frzSlot, List.take_length, List.mem_cons, List.not_mem_nil, or_false, forall_eq_or_imp, forall_eq, List.range_succ, List.range_zero, exists_eq_left', Option.some.injEq]
end Go.AI
