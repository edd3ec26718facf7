/- The program's queues and the reference's: one is a picture of the other, step by step. -/
import Derived.Test.YtnfnohbfgiijdaaMe
set_option linter.unusedSimpArgs false
set_option linter.unusedVariables false
namespace Go.AI
open Go.Proofs

def fl (d : Int) (p : Packet) : Flight := ⟨d, p⟩
def absL (x : Ln) : RLine := ⟨!x.down, x.counts.meter, x.packets.drop x.due.length, List.zipWith fl x.due x.packets⟩
def absQ (n : Network) (ds : List Int) (q : QS) : RQ := ⟨n, ds, q.length, q.now, q.lines.map absL⟩

/-- What holds of a line at time t, after at most i steps. -/
structure LInv (i : Nat) (t : Int) (x : Ln) : Prop where
  dp : x.due.length ≤ x.packets.length
  pi : x.packets.length ≤ i
  cap : 0 ≤ x.capacity ∧ x.capacity ≤ 1048576
  del : 1 ≤ x.delay ∧ x.delay ≤ 100
  sorted : x.due.Pairwise (· ≤ ·)
  late : ∀ d ∈ x.due, t < d ∧ d ≤ t + x.delay
  out : 0 ≤ x.counts.meter.out ∧ x.counts.meter.out ≤ i * 10000
  lost : 0 ≤ x.counts.meter.lost ∧ x.counts.meter.lost ≤ i * 10000

structure QInv (i : Nat) (n : Network) (ds : List Int) (q : QS) : Prop where
  i80 : i ≤ 3000
  t0 : 0 ≤ q.now ∧ q.now ≤ i
  len : q.lines.length = n.links.length
  dlen : ds.length = n.links.length
  small : n.links.length ≤ 1000
  caps : ∀ x ∈ n.links, 0 ≤ x.capacity ∧ x.capacity ≤ 1048576
  line : ∀ x ∈ q.lines, LInv i q.now x
  cap : ∀ (k : Nat) (x : Ln), q.lines[k]? = some x → ∃ l, n.links[k]? = some l ∧ l.capacity = x.capacity
  del : ∀ (k : Nat) (x : Ln), q.lines[k]? = some x → ds[k]? = some x.delay

section
variable {i : Nat} {n : Network} {ds : List Int} {q : QS} {k : Nat} {x : Ln} {t : Int}

theorem abs_get (k : Nat) : (absQ n ds q).l[k]? = q.lines[k]?.map absL := by simp [absQ]
theorem abs_has (k : Int) : rhas (absQ n ds q) k = phas q k := by simp [rhas, phas, absQ]

theorem zip_flight (x : Ln) : (List.zipWith fl x.due x.packets).map (·.packet) = x.packets.take x.due.length := by
  have : ∀ (a : List Int) (b : List Packet), (List.zipWith fl a b).map (·.packet) = b.take a.length := by
    intro a
    induction a with
    | nil => intro b; simp
    | cons d a ih =>
      intro b
      cases b with
      | nil => simp
      | cons p b => simp [fl, ih]
  exact this _ _

theorem alike (h : QInv i n ds q) : Alike q (absQ n ds q) where
  now := rfl
  idle := by
    unfold pidle ridle absQ
    rw [List.all_map]
    rw [Bool.eq_iff_iff, List.all_eq_true, List.all_eq_true]
    have key : ∀ x ∈ q.lines, (x.packets.isEmpty = true ↔ ((fun x : RLine => x.waiting.isEmpty && x.flights.isEmpty) ∘ absL) x = true) := by
      intro x hx
      have h1 := (h.line x hx).dp
      simp only [Function.comp, absL, Bool.and_eq_true, List.isEmpty_iff]
      constructor
      · intro e; rw [e]; simp
      · rintro ⟨e1, e2⟩
        have h2 := congrArg List.length e2
        have h3 := congrArg List.length e1
        simp only [List.length_zipWith, List.length_drop, List.length_nil] at h2 h3
        exact List.length_eq_zero_iff.1 (by omega)
    exact ⟨fun hh x hx => (key x hx).1 (hh x hx), fun hh x hx => (key x hx).2 (hh x hx)⟩
  meter k := by
    unfold pmeter rmeter
    rw [abs_has, abs_get]
    cases q.lines[k.toNat]? <;> simp [absL]
  has k := (abs_has k).symm
  up k := by
    unfold pup rup
    rw [abs_has, abs_get]
    cases q.lines[k.toNat]? <;> simp [absL]
  waiting k := by
    unfold pwaiting rwaiting
    rw [abs_has, abs_get]
    cases q.lines[k.toNat]? <;> simp [absL]
  flying k := by
    unfold pflying rflying
    rw [abs_has, abs_get]
    cases q.lines[k.toNat]? with
    | none => simp
    | some x => simp only [Option.map_some, Option.getD_some, absL, zip_flight]

theorem QInv.fine (h : QInv i n ds q) : q.fine :=
  ⟨fun x hx => ⟨(h.line x hx).dp, by have := (h.line x hx).pi; have := h.i80; omega⟩, by rw [h.len]; exact h.small, fun x hx => (h.line x hx).cap⟩

theorem QInv.rsmall (h : QInv i n ds q) : (absQ n ds q).small := by
  refine ⟨by simp [absQ, h.len]; exact h.small, fun y hy => ?_⟩
  simp only [absQ, List.mem_map] at hy
  obtain ⟨x, hx, rfl⟩ := hy
  have h1 := (h.line x hx).dp
  have h2 := (h.line x hx).pi
  have := h.i80
  simp only [absL, List.length_drop, List.length_zipWith]
  omega

theorem LInv.mono (h : LInv i t x) : LInv (i + 1) t x :=
  ⟨h.dp, Nat.le_succ_of_le h.pi, h.cap, h.del, h.sorted, h.late, ⟨h.out.1, by have := h.out.2; omega⟩, ⟨h.lost.1, by have := h.lost.2; omega⟩⟩

theorem QInv.mono (h : QInv i n ds q) (hi : i < 3000) : QInv (i + 1) n ds q :=
  ⟨hi, ⟨h.t0.1, by have := h.t0.2; omega⟩, h.len, h.dlen, h.small, h.caps, fun x hx => (h.line x hx).mono, h.cap, h.del⟩

theorem QInv.setL (h : QInv i n ds q) (hi : i < 3000) {x' : Ln} (hx : q.lines[k]? = some x) (hl : LInv (i + 1) q.now x') (hc : x'.capacity = x.capacity) (hd : x'.delay = x.delay) : QInv (i + 1) n ds (q.set k x') := by
  have hlt := (List.getElem?_eq_some_iff.1 hx).1
  refine ⟨hi, ⟨h.t0.1, by have := h.t0.2; show q.now ≤ _; omega⟩, by simp [QS.set, h.len], h.dlen, h.small, h.caps, fun y hy => ?_, fun j y hy => ?_, fun j y hy => ?_⟩
  · simp only [QS.set] at hy
    rcases List.mem_or_eq_of_mem_set hy with h1 | h1
    · exact (h.line y h1).mono
    · rw [h1]; exact hl
  · simp only [QS.set, List.getElem?_set] at hy
    split at hy
    · rename_i e; subst e
      cases hy
      rw [hc]; exact h.cap k x hx
    · exact h.cap j y hy
  · simp only [QS.set, List.getElem?_set] at hy
    split at hy
    · rename_i e; subst e
      cases hy
      rw [hd]; exact h.del k x hx
    · exact h.del j y hy

theorem abs_set (k : Int) (x' : Ln) : absQ n ds (q.set k.toNat x') = rwith (absQ n ds q) k (absL x') := by
  simp [absQ, QS.set, rwith, List.map_set]

theorem zip_more (x : Ln) (p : Packet) (h : x.due.length ≤ x.packets.length) : List.zipWith fl x.due (x.packets ++ [p]) = List.zipWith fl x.due x.packets := by
  have : ∀ (a : List Int) (b : List Packet), a.length ≤ b.length → List.zipWith fl a (b ++ [p]) = List.zipWith fl a b := by
    intro a
    induction a with
    | nil => intro b _; simp
    | cons d a ih =>
      intro b hb
      cases b with
      | nil => simp at hb
      | cons q b => simp [ih b (by simpa using hb)]
  exact this _ _ h

theorem put_step (h : QInv i n ds q) (hi : i < 3000) (k : Int) (p : Packet) : rput (absQ n ds q) k p = (absQ n ds (pput q k p).1, (pput q k p).2) ∧ QInv (i + 1) n ds (pput q k p).1 := by
  unfold rput pput
  rw [abs_has, abs_get]
  cases hh : phas q k with
  | false => exact ⟨rfl, h.mono hi⟩
  | true =>
    obtain ⟨h0, h1, x, hx⟩ := phas_get hh
    have hl := h.line x (List.mem_of_getElem? hx)
    rw [hx]
    simp only [Option.map_some, if_true]
    unfold Ln.put
    cases hd : x.down with
    | true =>
      simp only [absL, hd, Bool.not_true, if_true]
      refine ⟨?_, h.setL hi hx ⟨hl.dp, Nat.le_succ_of_le hl.pi, hl.cap, hl.del, hl.sorted, hl.late, hl.mono.out, hl.mono.lost⟩ rfl rfl⟩
      rw [abs_set]
      simp [absL, Ln.refuse, hd]
    | false =>
      simp only [absL, hd, Bool.not_false, Bool.false_eq_true, if_false]
      have hw : ((x.packets.drop x.due.length).length : Int) = (x.packets.length : Int) - x.due.length := by
        have := hl.dp
        rw [List.length_drop]; omega
      show (if q.length ≤ _ then _ else _) = _ ∧ _
      rw [hw]
      by_cases hf : q.length ≤ (x.packets.length : Int) - x.due.length
      · rw [if_pos hf, if_pos hf]
        refine ⟨?_, h.setL hi hx ⟨hl.dp, Nat.le_succ_of_le hl.pi, hl.cap, hl.del, hl.sorted, hl.late, hl.mono.out, hl.mono.lost⟩ rfl rfl⟩
        rw [abs_set]
        simp [absL, Ln.refuse, hd]
      · rw [if_neg hf, if_neg hf]
        refine ⟨?_, h.setL hi hx ⟨by have := hl.dp; simp [Ln.add]; omega, by have := hl.pi; simp [Ln.add]; omega, hl.cap, hl.del, hl.sorted, hl.late, hl.mono.out, hl.mono.lost⟩ rfl rfl⟩
        rw [abs_set]
        simp [absL, Ln.add, hd, zip_more x p hl.dp, List.drop_append_of_le_length hl.dp]

theorem switch_step (h : QInv i n ds q) (hi : i < 3000) (k : Int) (up : Bool) : rswitch (absQ n ds q) k up = (absQ n ds (pswitch q k up).1, (pswitch q k up).2) ∧ QInv (i + 1) n ds (pswitch q k up).1 := by
  unfold rswitch pswitch
  rw [abs_has, abs_get]
  cases hh : phas q k with
  | false => exact ⟨rfl, h.mono hi⟩
  | true =>
    obtain ⟨h0, h1, x, hx⟩ := phas_get hh
    have hl := h.line x (List.mem_of_getElem? hx)
    have h100 := h.i80
    have hdp := hl.dp
    have hpi := hl.pi
    rw [hx]
    simp only [Option.map_some, if_true]
    cases up with
    | true =>
      refine ⟨?_, h.setL hi hx ⟨hl.dp, Nat.le_succ_of_le hl.pi, hl.cap, hl.del, hl.sorted, hl.late, hl.mono.out, hl.mono.lost⟩ rfl rfl⟩
      rw [abs_set]
      simp [absL, Ln.switch]
    | false =>
      have e1 : IntKind.i64.wrap (x.counts.meter.out + 0) = x.counts.meter.out := by have := hl.out; rw [w64 (by omega) (by omega)]; omega
      have e2 : IntKind.i64.wrap (x.counts.meter.lost + x.due.length) = x.counts.meter.lost + x.due.length := by have := hl.lost; rw [w64 (by omega) (by omega)]
      refine ⟨?_, h.setL hi hx ⟨by simp [Ln.switch], by simp [Ln.switch]; omega, hl.cap, hl.del, by simp [Ln.switch], by simp [Ln.switch], by simp only [Ln.switch, Ln.pass, cond_false, e1]; exact hl.mono.out, by simp only [Ln.switch, Ln.pass, cond_false, e2]; have := hl.lost; omega⟩ rfl rfl⟩
      rw [abs_set]
      rw [Int.add_zero] at e1
      simp [absL, Ln.switch, Ln.pass, e1, Nat.min_eq_left hdp]
end
end Go.AI

/- The picture kept by Tick; whole steps. -/
namespace Go.AI
open Go.Proofs

theorem lead_cons (t d : Int) (due : List Int) : lead t (d :: due) = if d = t then lead t due + 1 else 0 := by
  unfold lead
  by_cases h : d = t
  · simp [List.takeWhile_cons, h]
  · simp [List.takeWhile_cons, h]

theorem late_none {t : Int} : ∀ (due : List Int) (ps : List Packet), (∀ d ∈ due, t < d) →
    (List.zipWith fl due ps).filter (fun f => f.at_ == t) = [] ∧ (List.zipWith fl due ps).filter (fun f => !(f.at_ == t)) = List.zipWith fl due ps := by
  intro due
  induction due with
  | nil => intro ps _; simp
  | cons d due ih =>
    intro ps h
    cases ps with
    | nil => simp
    | cons p ps =>
      have hd : ¬ d = t := by have := h d (by simp); omega
      obtain ⟨h1, h2⟩ := ih ps (fun e he => h e (by simp [he]))
      constructor
      · rw [List.zipWith_cons_cons, List.filter_cons, h1]; simp [fl, hd]
      · rw [List.zipWith_cons_cons, List.filter_cons, h2]; simp [fl, hd]

theorem lead_split {t : Int} : ∀ (due : List Int) (ps : List Packet), due.Pairwise (· ≤ ·) → (∀ d ∈ due, t ≤ d) →
    (List.zipWith fl due ps).filter (fun f => f.at_ == t) = List.zipWith fl (due.take (lead t due)) (ps.take (lead t due)) ∧
    (List.zipWith fl due ps).filter (fun f => !(f.at_ == t)) = List.zipWith fl (due.drop (lead t due)) (ps.drop (lead t due)) ∧
    ∀ d ∈ due.drop (lead t due), t < d := by
  intro due
  induction due with
  | nil => intro ps _ _; simp
  | cons d due ih =>
    intro ps hs h
    rw [List.pairwise_cons] at hs
    rw [lead_cons]
    by_cases hd : d = t
    · rw [if_pos hd]
      subst hd
      cases ps with
      | nil =>
        obtain ⟨_, _, h3⟩ := ih [] hs.2 (fun e he => h e (by simp [he]))
        simp only [List.zipWith_nil_right, List.take_nil, List.drop_nil, List.filter_nil, List.drop_succ_cons, true_and]
        exact h3
      | cons p ps =>
        obtain ⟨h1, h2, h3⟩ := ih ps hs.2 (fun e he => h e (by simp [he]))
        refine ⟨?_, ?_, ?_⟩
        · simp only [List.zipWith_cons_cons, List.take_succ_cons, List.filter_cons]
          rw [h1]; simp [fl]
        · simp only [List.zipWith_cons_cons, List.drop_succ_cons, List.filter_cons]
          rw [h2]; simp [fl]
        · simpa using h3
    · rw [if_neg hd]
      have hl : ∀ e ∈ d :: due, t < e := by
        intro e he
        have h0 := h d (by simp)
        rcases List.mem_cons.1 he with rfl | he
        · omega
        · have := hs.1 e he; omega
      obtain ⟨h1, h2⟩ := late_none (d :: due) ps hl
      refine ⟨by rw [h1]; simp, by rw [h2]; simp, by simpa using hl⟩

theorem bump_add : ∀ (m : Nat) (a : Int), 0 ≤ a → a + m ≤ 9223372036854775807 → bump m a = a + m
  | 0, a, _, _ => by simp [bump]
  | m + 1, a, h1, h2 => by
    rw [bump, bump_add m a h1 (by omega), w64 (by omega) (by omega)]
    omega

theorem zip_len (a : List Int) (b : List Packet) : (List.zipWith fl a b).length = min a.length b.length := by simp

section
variable {i : Nat} {t : Int} {x : Ln}

theorem rep_zip (d : Int) : ∀ (m : Nat) (w : List Packet), m ≤ w.length → List.zipWith fl (List.replicate m d) w = (w.take m).map fun p => ⟨d, p⟩
  | 0, w, _ => by simp
  | m + 1, [], h => by simp at h
  | m + 1, p :: w, h => by
    rw [List.replicate_succ, List.zipWith_cons_cons, rep_zip d m w (by simpa using h)]
    rfl

theorem zip_app (a b : List Int) (w : List Packet) (h : a.length ≤ w.length) : List.zipWith fl (a ++ b) w = List.zipWith fl a w ++ List.zipWith fl b (w.drop a.length) := by
  induction a generalizing w with
  | nil => simp
  | cons d a ih =>
    cases w with
    | nil => simp at h
    | cons p w => simp [ih w (by simpa using h)]

theorem tick_line (h : LInv i t x) (ht : 0 ≤ t ∧ t ≤ 100000) (hi : i < 3000) : absL (x.tick (t + 1)) = tline (t + 1) x.capacity x.delay (absL x) ∧ LInv (i + 1) (t + 1) (x.tick (t + 1)) := by
  obtain ⟨s1, s2, s3⟩ := lead_split (t := t + 1) x.due x.packets h.sorted (fun d hd => by have := (h.late d hd).1; omega)
  have hle := lead_le (t + 1) x.due
  generalize hn : lead (t + 1) x.due = n at s1 s2 s3 hle
  have hdp := h.dp
  have hpi := h.pi
  have hw : IntKind.i64.wrap (t + 1 + x.delay) = t + 1 + x.delay := by have := h.del; rw [w64 (by omega) (by omega)]
  have ho : IntKind.i64.wrap (x.counts.meter.out + n) = x.counts.meter.out + n := by have := h.out; rw [w64 (by omega) (by omega)]
  have hl : IntKind.i64.wrap (x.counts.meter.lost + 0) = x.counts.meter.lost := by have := h.lost; rw [w64 (by omega) (by omega)]; omega
  have ea := arrive_eq x (t + 1) hn
  have hroom : (x.arrive (t + 1)).room = if x.down = true then 0 else min x.capacity.toNat (x.packets.length - x.due.length) := by
    rw [ea]
    unfold Ln.room
    simp only [pass_down, pass_capacity, List.length_drop]
    have : x.packets.length - n - (x.due.length - n) = x.packets.length - x.due.length := by omega
    rw [this]
  unfold Ln.tick
  generalize hm : (x.arrive (t + 1)).room = m at hroom
  have hm2 : m ≤ x.packets.length - x.due.length := by rw [hroom]; split <;> omega
  rw [ea]
  have hz : (List.zipWith fl (x.due.take n) (x.packets.take n)).length = n := by simp; omega
  have hout := h.out
  have hlost := h.lost
  have hcap := h.cap
  constructor
  · rw [RLine.mk.injEq]
    refine ⟨rfl, ?_, ?_, ?_⟩
    · show Meter.mk _ _ _ _ _ = Meter.mk _ _ _ _ _
      rw [Meter.mk.injEq]
      refine ⟨rfl, ?_, rfl, rfl, hl⟩
      show IntKind.i64.wrap (x.counts.meter.out + n) = bump _ x.counts.meter.out
      rw [show (absL x).flights = List.zipWith fl x.due x.packets from rfl, s1, hz, ho, bump_add n _ hout.1 (by omega)]
    · show (x.packets.drop n).drop (x.due.drop n ++ List.replicate m _).length = if (!x.down) = true then (x.packets.drop x.due.length).drop _ else x.packets.drop x.due.length
      have e1 : (absL x).waiting.length = x.packets.length - x.due.length := by simp [absL]
      rw [List.length_append, List.length_drop, List.length_replicate, List.drop_drop]
      cases hd : x.down with
      | true =>
        rw [hd] at hroom
        simp only [if_true] at hroom
        simp only [Bool.not_true, Bool.false_eq_true, if_false]
        congr 1
        omega
      | false =>
        rw [hd] at hroom
        simp only [Bool.false_eq_true, if_false] at hroom
        simp only [Bool.not_false, if_true, List.drop_drop]
        congr 1
        rw [e1]
        unfold imin
        split <;> omega
    · show List.zipWith fl (x.due.drop n ++ List.replicate m (IntKind.i64.wrap (t + 1 + x.delay))) (x.packets.drop n) = (List.zipWith fl x.due x.packets).filter _ ++ _
      rw [s2, zip_app _ _ _ (by simp; omega), hw]
      congr 1
      rw [List.length_drop, List.drop_drop, show n + (x.due.length - n) = x.due.length by omega, rep_zip _ m _ (by simp; omega)]
      have e1 : (absL x).waiting.length = x.packets.length - x.due.length := by simp [absL]
      cases hd : x.down with
      | true =>
        rw [hd] at hroom
        simp only [if_true] at hroom
        simp [absL, hd, hroom]
      | false =>
        rw [hd] at hroom
        simp only [Bool.false_eq_true, if_false] at hroom
        simp only [absL, hd, Bool.not_false, if_true]
        congr 2
        rw [List.length_drop]
        unfold imin
        split <;> omega
  · refine ⟨?_, ?_, hcap, h.del, ?_, ?_, ?_, ?_⟩
    · show (x.due.drop n ++ List.replicate m _).length ≤ (x.packets.drop n).length
      simp; omega
    · show (x.packets.drop n).length ≤ i + 1
      simp; omega
    · show (x.due.drop n ++ List.replicate m _).Pairwise (· ≤ ·)
      rw [List.pairwise_append]
      refine ⟨h.sorted.sublist (List.drop_sublist _ _), List.pairwise_replicate.2 (.inr (Int.le_refl _)), fun a ha b hb => ?_⟩
      rw [(List.mem_replicate.1 hb).2]
      have := (h.late a (List.mem_of_mem_drop ha)).2
      show a ≤ IntKind.i64.wrap (t + 1 + x.delay)
      rw [hw]; omega
    · intro d hd
      rcases List.mem_append.1 hd with h1 | h1
      · exact ⟨s3 d h1, by have := (h.late d (List.mem_of_mem_drop h1)).2; show d ≤ t + 1 + x.delay; omega⟩
      · rw [(List.mem_replicate.1 h1).2]
        have := h.del
        show t + 1 < IntKind.i64.wrap (t + 1 + x.delay) ∧ IntKind.i64.wrap (t + 1 + x.delay) ≤ t + 1 + x.delay
        rw [hw]; omega
    · show 0 ≤ IntKind.i64.wrap (x.counts.meter.out + n) ∧ IntKind.i64.wrap (x.counts.meter.out + n) ≤ ((i + 1 : Nat) : Int) * 10000
      rw [ho]; omega
    · show 0 ≤ IntKind.i64.wrap (x.counts.meter.lost + 0) ∧ IntKind.i64.wrap (x.counts.meter.lost + 0) ≤ ((i + 1 : Nat) : Int) * 10000
      rw [hl]; omega

theorem tick_outs (h : LInv i t x) (k : Nat) : tout (t + 1) k (absL x) = x.outs (t + 1) k := by
  obtain ⟨s1, _, _⟩ := lead_split (t := t + 1) x.due x.packets h.sorted (fun d hd => by have := (h.late d hd).1; omega)
  have hle := lead_le (t + 1) x.due
  have hdp := h.dp
  unfold tout Ln.outs
  rw [show (absL x).flights = List.zipWith fl x.due x.packets from rfl, s1]
  have gen : ∀ (a : List Int) (b : List Packet), a.length = b.length → (List.zipWith fl a b).map (fun f => (⟨k, f.packet⟩ : Passed)) = b.map (pc k) := by
    intro a
    induction a with
    | nil => intro b hb; cases b with
      | nil => rfl
      | cons p b => simp at hb
    | cons d a ih => intro b hb; cases b with
      | nil => simp at hb
      | cons p b => simp only [List.zipWith_cons_cons, List.map_cons, ih b (by simpa using hb)]; rfl
  exact gen _ _ (by simp; omega)

theorem tick_step {n : Network} {ds : List Int} {q : QS} (h : QInv i n ds q) (hi : i < 3000) : rtick (absQ n ds q) = (absQ n ds (ptick q).1, (ptick q).2) ∧ QInv (i + 1) n ds (ptick q).1 := by
  have ht := h.t0
  have h100 := h.i80
  have hnow : pnow q = q.now + 1 := by unfold pnow; rw [w64 (by omega) (by omega)]
  have hnow2 : tnow (absQ n ds q) = q.now + 1 := hnow
  have hline : ∀ (k : Nat) (x : Ln), q.lines[k]? = some x → tline (q.now + 1) (capOf (absQ n ds q) k) (delOf (absQ n ds q) k) (absL x) = absL (x.tick (q.now + 1)) ∧ LInv (i + 1) (q.now + 1) (x.tick (q.now + 1)) := by
    intro k x hx
    obtain ⟨l, hl, hlc⟩ := h.cap k x hx
    have h1 : capOf (absQ n ds q) k = x.capacity := by unfold capOf; show ((n.links[k]?).map _).getD 0 = _; rw [hl]; exact hlc
    have h2 : delOf (absQ n ds q) k = x.delay := by unfold delOf; show (ds[k]?).getD 0 = _; rw [h.del k x hx]; rfl
    rw [h1, h2]
    obtain ⟨a, b⟩ := tick_line (h.line x (List.mem_of_getElem? hx)) (t := q.now) (by omega) hi
    exact ⟨a.symm, b⟩
  constructor
  · unfold rtick ptick
    rw [hnow, hnow2, Prod.mk.injEq]
    constructor
    · unfold absQ
      rw [RQ.mk.injEq]
      refine ⟨rfl, rfl, rfl, rfl, ?_⟩
      apply List.ext_getElem?
      intro k
      simp only [List.getElem?_mapIdx, List.getElem?_map]
      cases hx : q.lines[k]? with
      | none => rfl
      | some x =>
        simp only [Option.map_some]
        exact congrArg some (hline k x hx).1
    · congr 1
      apply List.ext_getElem?
      intro k
      show ((q.lines.map absL).mapIdx _)[k]? = _
      simp only [List.getElem?_mapIdx, List.getElem?_map]
      cases hx : q.lines[k]? with
      | none => rfl
      | some x =>
        simp only [Option.map_some]
        exact congrArg some (tick_outs (h.line x (List.mem_of_getElem? hx)) k)
  · unfold ptick
    rw [hnow]
    refine ⟨hi, by show 0 ≤ q.now + 1 ∧ q.now + 1 ≤ _; omega, by simp [h.len], h.dlen, h.small, h.caps, fun y hy => ?_, fun k y hy => ?_, fun k y hy => ?_⟩
    · simp only [List.mem_map] at hy
      obtain ⟨x, hx, rfl⟩ := hy
      obtain ⟨k, hk⟩ := List.getElem?_of_mem hx
      exact (hline k x hk).2
    · simp only [List.getElem?_map, Option.map_eq_some_iff] at hy
      obtain ⟨x, hx, rfl⟩ := hy
      exact h.cap k x hx
    · simp only [List.getElem?_map, Option.map_eq_some_iff] at hy
      obtain ⟨x, hx, rfl⟩ := hy
      exact h.del k x hx

/-- A step on both sides: the same answers, and the picture stays. -/
theorem do_step {n : Network} {ds : List Int} {q : QS} (h : QInv i n ds q) (hi : i < 3000) (x : Step) :
    rdo (absQ n ds q) x (rtick (absQ n ds q)) = (absQ n ds (pdo q x).1, (pdo q x).2.1, (pdo q x).2.2) ∧ QInv (i + 1) n ds (pdo q x).1 := by
  unfold rdo pdo
  by_cases h1 : x.kind = 1
  · rw [if_pos h1, if_pos h1]
    obtain ⟨a, b⟩ := put_step h hi x.link x.packet
    rw [a]; exact ⟨rfl, b⟩
  · rw [if_neg h1, if_neg h1]
    by_cases h2 : x.kind = 2
    · rw [if_pos h2, if_pos h2]
      obtain ⟨a, b⟩ := tick_step h hi
      rw [a]; exact ⟨rfl, b⟩
    · rw [if_neg h2, if_neg h2]
      by_cases h3 : x.kind = 3 ∨ x.kind = 4
      · rw [if_pos h3, if_pos h3]
        obtain ⟨a, b⟩ := switch_step h hi x.link (x.kind == 4)
        rw [a]; exact ⟨rfl, b⟩
      · rw [if_neg h3, if_neg h3]
        exact ⟨rfl, h.mono hi⟩
end

theorem zero_line {l : Link} {d : Int} (hl : 0 ≤ l.capacity ∧ l.capacity ≤ 1048576) (hd : dfine d = true) : LInv 0 0 (pline l d) := by
  unfold dfine at hd
  simp only [Bool.and_eq_true, decide_eq_true_eq] at hd
  exact ⟨by simp [pline, Ln.z], by simp [pline, Ln.z], hl, hd, by simp [pline, Ln.z], by simp [pline, Ln.z], by simp [pline, Ln.z], by simp [pline, Ln.z]⟩

/-- Both begin alike. -/
theorem new_step {n : Network} {ds : List Int} {len : Int} (hf : rfine n ds len = true) (hn : n.links.length ≤ 1000) (hc : ∀ x ∈ n.links, 0 ≤ x.capacity ∧ x.capacity ≤ 1048576) :
    (rnew n ds len).1 = absQ n ds (newq n ds len) ∧ QInv 0 n ds (newq n ds len) := by
  have hf' := hf
  unfold rfine at hf'
  simp only [Bool.and_eq_true, decide_eq_true_eq, List.all_eq_true] at hf'
  obtain ⟨h2, ⟨h1, _⟩, _⟩ := hf'
  have h1 : ds.length = n.links.length := by have := beq_iff_eq.1 h1; omega
  have hget : ∀ (k : Nat) (x : Ln), (plines n ds)[k]? = some x → ∃ l d, n.links[k]? = some l ∧ ds[k]? = some d ∧ x = pline l d := by
    intro k x hx
    unfold plines at hx
    rw [List.getElem?_zipWith] at hx
    cases hl : n.links[k]? with
    | none => rw [hl] at hx; cases hx
    | some l =>
      cases hd : ds[k]? with
      | none => rw [hl, hd] at hx; cases hx
      | some d => rw [hl, hd] at hx; cases hx; exact ⟨l, d, rfl, rfl, rfl⟩
  constructor
  · unfold rnew
    rw [if_pos hf]
    unfold absQ newq
    show RQ.mk _ _ _ _ _ = RQ.mk _ _ _ _ _
    rw [RQ.mk.injEq]
    refine ⟨rfl, rfl, rfl, rfl, ?_⟩
    apply List.ext_getElem?
    intro k
    rw [List.getElem?_map, List.getElem?_replicate]
    cases hx : (plines n ds)[k]? with
    | none =>
      have := List.getElem?_eq_none_iff.1 hx
      rw [plines_len h1] at this
      rw [if_neg (by omega)]; rfl
    | some x =>
      have hlt := (List.getElem?_eq_some_iff.1 hx).1
      rw [plines_len h1] at hlt
      rw [if_pos (by omega)]
      obtain ⟨l, d, _, _, rfl⟩ := hget k x hx
      rfl
  · refine ⟨by decide, ⟨Int.le_refl _, Int.le_refl _⟩, by show (plines n ds).length = _; rw [plines_len h1, h1], h1, hn, hc, fun x hx => ?_, fun k x hx => ?_, fun k x hx => ?_⟩
    · obtain ⟨k, hk⟩ := List.getElem?_of_mem hx
      obtain ⟨l, d, hl, hd, rfl⟩ := hget k x hk
      exact zero_line (hc l (List.mem_of_getElem? hl)) (h2 d (List.mem_of_getElem? hd))
    · obtain ⟨l, d, hl, hd, rfl⟩ := hget k x hx
      exact ⟨l, hl, rfl⟩
    · obtain ⟨l, d, hl, hd, rfl⟩ := hget k x hx
      exact hd
end Go.AI
