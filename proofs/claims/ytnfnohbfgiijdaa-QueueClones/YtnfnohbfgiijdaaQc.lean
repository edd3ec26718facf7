/- The contract of the reference's Tick. -/
import Derived.Test.YtnfnohbfgiijdaaMa
set_option linter.unusedSimpArgs false
set_option linter.unusedVariables false
namespace Go.AI
open Go.Proofs
set_option maxRecDepth 20000

def bump : Nat → Int → Int
  | 0, a => a
  | m + 1, a => IntKind.i64.wrap (bump m a + 1)

def imin (a b : Int) : Int := if b < a then b else a

def tline (t cap delay : Int) (x : RLine) : RLine :=
  { up := x.up
    meter := { x.meter with out := bump (x.flights.filter fun f => f.at_ == t).length x.meter.out }
    waiting := if x.up = true then x.waiting.drop (imin x.waiting.length cap).toNat else x.waiting
    flights := (x.flights.filter fun f => !(f.at_ == t)) ++ if x.up = true then (x.waiting.take (imin x.waiting.length cap).toNat).map (fun p => ⟨IntKind.i64.wrap (t + delay), p⟩) else [] }

def tout (t : Int) (k : Nat) (x : RLine) : List Passed := (x.flights.filter fun f => f.at_ == t).map fun f => ⟨k, f.packet⟩

def capOf (q : RQ) (k : Nat) : Int := ((q.n.links[k]?).map (·.capacity)).getD 0
def delOf (q : RQ) (k : Nat) : Int := (q.delays[k]?).getD 0
def tnow (q : RQ) : Int := IntKind.i64.wrap (q.time + 1)

def rtick (q : RQ) : RQ × List Passed :=
  ({ q with time := tnow q, l := q.l.mapIdx fun k x => tline (tnow q) (capOf q k) (delOf q k) x }, (q.l.mapIdx fun k x => tout (tnow q) k x).flatten)

theorem l57_build (a : List Passed) (n : Int) (p : Packet) : l57 a ++ [.agg (.int .i64 n :: p.c)] = l57 (a ++ [⟨n, p⟩]) := by simp [l57]; rfl
theorem l121_build (a : List Flight) (n : Int) (p : Packet) : l121 a ++ [.agg (.int .i64 n :: p.c)] = l121 (a ++ [⟨n, p⟩]) := by simp [l121]; rfl

theorem mid_set {α : Type} {l l' : List α} {k : Nat} {x y : α} (hl : l'.length = l.length) (hx : l[k]? = some x) (hy : l'[k]? = some y) : (l'.take k ++ l.drop k).set k y = l'.take (k + 1) ++ l.drop (k + 1) := by
  have h1 := (List.getElem?_eq_some_iff.1 hx).1
  rw [drop_at hx, take_snoc hy, List.set_append_right _ _ (by simp; omega)]
  simp [Nat.min_eq_left (Nat.le_of_lt (show k < l'.length by omega))]

def tqk (q : RQ) (k : Nat) : RQ := { q with time := tnow q, l := (q.l.mapIdx fun k x => tline (tnow q) (capOf q k) (delOf q k) x).take k ++ q.l.drop k }
def tok' (q : RQ) (k : Nat) : List Passed := ((q.l.mapIdx fun k x => tout (tnow q) k x).take k).flatten

theorem tqk_time (q : RQ) (k : Nat) : (tqk q k).time = tnow q := rfl
theorem tqk_n (q : RQ) (k : Nat) : (tqk q k).n = q.n := rfl
theorem tqk_delays (q : RQ) (k : Nat) : (tqk q k).delays = q.delays := rfl
theorem tqk_len (q : RQ) {k : Nat} (hk : k ≤ q.l.length) : (tqk q k).l.length = q.l.length := by simp [tqk]; omega
theorem tqk_at {q : RQ} {k : Nat} {x : RLine} (hx : q.l[k]? = some x) : (tqk q k).l[k]? = some x := by
  have hlt := (List.getElem?_eq_some_iff.1 hx).1
  simp only [tqk]
  rw [List.getElem?_append_right (by simp; omega)]
  simp [Nat.min_eq_left (Nat.le_of_lt hlt), List.getElem?_drop, hx]
theorem tqk_succ {q : RQ} {k : Nat} {x : RLine} (hx : q.l[k]? = some x) : rwith (tqk q k) (k : Int) (tline (tnow q) (capOf q k) (delOf q k) x) = tqk q (k + 1) := by
  unfold rwith tqk
  simp only [Int.toNat_natCast]
  rw [mid_set (by simp) hx (by simp [hx])]
theorem tok_succ {q : RQ} {k : Nat} {x : RLine} (hx : q.l[k]? = some x) : tok' q (k + 1) = tok' q k ++ tout (tnow q) k x := by
  unfold tok'
  rw [take_snoc (x := tout (tnow q) k x) (by simp [hx])]
  simp

def zeroRQ : List AV := [AV.sl (some 4) [], AV.sl (some 3) [], AV.sl (some 2) [], AV.sl (some 1) [], AV.int IntKind.i64 0, AV.int IntKind.i64 0, AV.sl (some 8) []]

theorem filter_snoc {α : Type} {l : List α} {i : Nat} {y : α} (p : α → Bool) (hy : l[i]? = some y) : (l.take (i + 1)).filter p = (l.take i).filter p ++ (if p y = true then [y] else []) := by
  rw [take_snoc hy, List.filter_append]
  simp [List.filter_cons]

def fa (t : Int) (l : List Flight) (i : Nat) : List Flight := (l.take i).filter fun f => f.at_ == t
def fb (t : Int) (l : List Flight) (i : Nat) : List Flight := (l.take i).filter fun f => !(f.at_ == t)
theorem fa_len (t : Int) (l : List Flight) (i : Nat) : (fa t l i).length ≤ i := Nat.le_trans (List.length_filter_le _ _) (by simp; omega)
theorem fb_len (t : Int) (l : List Flight) (i : Nat) : (fb t l i).length ≤ i := Nat.le_trans (List.length_filter_le _ _) (by simp; omega)
theorem fa_yes {t : Int} {l : List Flight} {i : Nat} {y : Flight} (hy : l[i]? = some y) (h : (y.at_ == t) = true) : fa t l (i + 1) = fa t l i ++ [y] := by unfold fa; rw [filter_snoc _ hy, h]; rfl
theorem fa_no {t : Int} {l : List Flight} {i : Nat} {y : Flight} (hy : l[i]? = some y) (h : (y.at_ == t) = false) : fa t l (i + 1) = fa t l i := by unfold fa; rw [filter_snoc _ hy, h]; simp
theorem fb_yes {t : Int} {l : List Flight} {i : Nat} {y : Flight} (hy : l[i]? = some y) (h : (y.at_ == t) = true) : fb t l (i + 1) = fb t l i := by unfold fb; rw [filter_snoc _ hy, h]; simp
theorem fb_no {t : Int} {l : List Flight} {i : Nat} {y : Flight} (hy : l[i]? = some y) (h : (y.at_ == t) = false) : fb t l (i + 1) = fb t l i ++ [y] := by unfold fb; rw [filter_snoc _ hy, h]; rfl

def pk (k : Nat) (f : Flight) : Passed := ⟨k, f.packet⟩
/-- The link, while its flights are looked through. -/
def xat (t : Int) (x : RLine) (i : Nat) : RLine := { x with meter := { x.meter with out := bump (fa t x.flights i).length x.meter.out } }
theorem xat_flights (t : Int) (x : RLine) (i : Nat) : (xat t x i).flights = x.flights := rfl
theorem xat_up (t : Int) (x : RLine) (i : Nat) : (xat t x i).up = x.up := rfl
theorem xat_waiting (t : Int) (x : RLine) (i : Nat) : (xat t x i).waiting = x.waiting := rfl

theorem xat_no {t : Int} {x : RLine} {i : Nat} {y : Flight} (hy : x.flights[i]? = some y) (h : (y.at_ == t) = false) : xat t x (i + 1) = xat t x i := by unfold xat; rw [fa_no hy h]
theorem xat_yes {t : Int} {x : RLine} {i : Nat} {y : Flight} (hy : x.flights[i]? = some y) (h : (y.at_ == t) = true) : { xat t x i with meter := { (xat t x i).meter with out := IntKind.i64.wrap ((xat t x i).meter.out + 1) } } = xat t x (i + 1) := by
  unfold xat; rw [fa_yes hy h, List.length_append]; rfl

@[go_sem] theorem zeroRQ_len : zeroRQ.length = 7 := rfl
@[go_sem] theorem zeroRQ_bnd (k : Nat) : bndL k zeroRQ = true := rfl

theorem fa_all (t : Int) (l : List Flight) : fa t l l.length = l.filter fun f => f.at_ == t := by unfold fa; rw [List.take_length]
theorem fb_all (t : Int) (l : List Flight) : fb t l l.length = l.filter fun f => !(f.at_ == t) := by unfold fb; rw [List.take_length]

theorem tline_down {t c d : Int} {x : RLine} (hu : x.up = false) : (⟨false, (xat t x x.flights.length).meter, x.waiting, fb t x.flights x.flights.length⟩ : RLine) = tline t c d x := by
  unfold tline xat
  rw [fa_all, fb_all, hu]
  simp

theorem tline_up {t c d : Int} {x : RLine} (hu : x.up = true) : (⟨true, (xat t x x.flights.length).meter, x.waiting.drop (imin x.waiting.length c).toNat, fb t x.flights x.flights.length ++ (x.waiting.take (imin x.waiting.length c).toNat).map fun p => ⟨IntKind.i64.wrap (t + d), p⟩⟩ : RLine) = tline t c d x := by
  unfold tline xat
  rw [fa_all, fb_all, hu]
  simp

theorem tout_eq (t : Int) (k : Nat) (x : RLine) : tout t k x = (fa t x.flights x.flights.length).map (pk k) := by unfold tout; rw [fa_all]; rfl

theorem tok_len {q : RQ} (hq : q.small) (k : Nat) : (tok' q k).length ≤ 1000000000 := by
  have : ∀ (l : List RLine) (n : Nat), l.length ≤ 1000 - n → (∀ x ∈ l, x.flights.length ≤ 1000000) → n ≤ 1000 → ∀ f : Nat → RLine → List Passed, (∀ i x, (f i x).length ≤ x.flights.length) → (l.mapIdx f).flatten.length ≤ (1000 - n) * 1000000 := by
    intro l
    induction l with
    | nil => intro n _ _ _ f _; simp
    | cons x xs ih =>
      intro n h1 h2 h3 f hf
      simp only [List.length_cons] at h1
      have h4 := ih (n + 1) (by omega) (fun y hy => h2 y (by simp [hy])) (by omega) (fun i => f (i + 1)) (fun i x => hf (i + 1) x)
      have h5 := hf 0 x
      have h6 := h2 x (by simp)
      simp only [List.mapIdx_cons, List.flatten_cons, List.length_append]
      have h7 : (1000 - n) * 1000000 = (1000 - (n + 1)) * 1000000 + 1000000 := by omega
      omega
  have h1 := this q.l 0 hq.1 (fun x hx => (hq.2 x hx).2) (by omega) (fun k x => tout (tnow q) k x) (fun i x => by unfold tout; simp; exact List.length_filter_le _ _)
  have h2 : (tok' q k).length ≤ (q.l.mapIdx fun k x => tout (tnow q) k x).flatten.length := by
    unfold tok'
    conv => rhs; rw [← List.take_append_drop k (q.l.mapIdx fun k x => tout (tnow q) k x), List.flatten_append, List.length_append]
    omega
  omega

theorem sz1 {a b : Nat} (h1 : a ≤ 1000000000) (h2 : b ≤ 1000000) : (a + b + 1) * 96 ≤ 140737488355328 ∧ a + b + 1 ≤ 9223372036854775807 := by omega
theorem sz2 {a : Nat} (h2 : a ≤ 10000000) : (a + 1) * 96 ≤ 140737488355328 ∧ a + 1 ≤ 9223372036854775807 := by omega
theorem lt63 {i n : Nat} (h : i < n) (hn : n ≤ 1000000) : i < 9223372036854775807 := by omega

set_option maxHeartbeats 1000000 in
theorem f34_c (q : RQ) (hq : q.small) (hl1 : q.l.length ≤ q.n.links.length) (hl2 : q.l.length ≤ q.delays.length) (hc : ∀ x ∈ q.n.links, 0 ≤ x.capacity) :
    PCall Try.prog 34 [.agg q.c] (.tup [.agg (rtick q).1.c, .sl none (l57 (rtick q).2)]) := by
  refine PCall.ofB h34 mixed h34_d Try.func34 rfl call34 (by simp [Try.f34]) (by simp [pureL, AV.pure, go_sem]) (by simp [pureL, AV.pure, go_sem]) ?_
  simp only [Try.f34, go_sem, Nat.reduceEqDiff, Nat.reduceLT, ↓reduceIte, Nat.reduceAdd, Nat.reduceSub, Nat.reduceMul, Nat.reduceBEq, Nat.reduceLeDiff, Nat.reduceDvd, reduceCtorEq, Int.reduceToNat, Int.reduceLT, Int.reduceLE, Nat.le_refl, Int.le_refl, false_implies, implies_true, frzSlot, List.take_length, List.mem_cons, List.not_mem_nil, or_false, forall_eq_or_imp, forall_eq, List.range_succ, List.range_zero, exists_eq_left', Option.some.injEq]
  refine awp_for q.l.length (fun k => [(1, .ptr 0 0), (2, .ptr 1 0), (4, .sl (some 12) (l57 (tok' q k))), (5, .int .i64 (k : Int))]) (fun k => [some (tqk q k).c, some zeroRQ]) rfl rfl ?_
  intro k hk
  have hqs : q.l.length ≤ 1000 := hq.1
  by_cases hlt : k < q.l.length
  · obtain ⟨x, hx⟩ : ∃ x, q.l[k]? = some x := ⟨_, List.getElem?_eq_getElem hlt⟩
    have hxk := tqk_at hx
    have h0 : (0 : Int) ≤ (k : Int) := by omega
    have h1 : (k : Int) < ((tqk q k).l.length : Int) := by rw [tqk_len q hk]; omega
    obtain ⟨hw, hf⟩ := hq.2 x (List.mem_of_getElem? hx)
    have hol := tok_len hq k
    have hs : (tqk q k).l.length * 96 ≤ 140737488355328 := by rw [tqk_len q hk]; omega
    simp only [go_sem, Nat.reduceEqDiff, Nat.reduceLT, ↓reduceIte, Nat.reduceAdd, Nat.reduceSub, Nat.reduceMul, Nat.reduceBEq, Nat.reduceLeDiff, Nat.reduceDvd, reduceCtorEq, Int.reduceToNat, Int.reduceLT, Int.reduceLE, Nat.le_refl, Int.le_refl, false_implies, implies_true, frzSlot, List.take_length, List.mem_cons, List.not_mem_nil, or_false, forall_eq_or_imp, forall_eq, List.range_succ, List.range_zero, exists_eq_left', Option.some.injEq, h0, h1, l90_get hxk]
    refine awp_for x.flights.length (fun i => [(1, .ptr 0 0), (2, .ptr 1 0), (4, .sl (some 12) (l57 (tok' q k ++ (fa (tnow q) x.flights i).map (pk k)))), (5, .int .i64 (k : Int)), (6, .ptr 2 0),
        (7, .sl (some 12) (l121 (fb (tnow q) x.flights i))), (8, .int .i64 (i : Int))])
      (fun i => [some (tqk q k).c, some zeroRQ, some (xat (tnow q) x i).c]) (by simp [fa, fb, l121]) (by simp [xat, fa, bump]) ?_
    intro i hi
    have f1 := fa_len (tnow q) x.flights i
    have f2 := fb_len (tnow q) x.flights i
    by_cases hil : i < x.flights.length
    · obtain ⟨y, hy⟩ : ∃ y, x.flights[i]? = some y := ⟨_, List.getElem?_eq_getElem hil⟩
      have g0 : (0 : Int) ≤ (i : Int) := by omega
      have g1 : (i : Int) < (x.flights.length : Int) := by omega
      obtain ⟨e1, e2⟩ := sz1 hol (Nat.le_trans f1 (Nat.le_trans hi hf))
      obtain ⟨e3, e4⟩ := sz2 (Nat.le_trans f2 (Nat.le_trans hi (Nat.le_trans hf (by decide))))
      cases hd : y.at_ == tnow q
      · simp only [go_sem, Nat.reduceEqDiff, Nat.reduceLT, ↓reduceIte, Nat.reduceAdd, Nat.reduceSub, Nat.reduceMul, Nat.reduceBEq, Nat.reduceLeDiff, Nat.reduceDvd, reduceCtorEq, Int.reduceToNat, Int.reduceLT, Int.reduceLE, Nat.le_refl, Int.le_refl, false_implies, implies_true, frzSlot, List.take_length, List.mem_cons, List.not_mem_nil, or_false, forall_eq_or_imp, forall_eq, List.range_succ, List.range_zero, exists_eq_left', Option.some.injEq, tqk_time, tqk_n, tqk_delays, xat_flights, h0, h1, g0, g1, l90_get hxk, l121_get hy, hd, List.length_append, List.length_map, e1, e2, e3, e4, w64s (lt63 hil hf)]
        exact ⟨hil, by rw [fa_no hy hd, fb_no hy hd], by rw [xat_no hy hd]⟩
      · simp only [go_sem, Nat.reduceEqDiff, Nat.reduceLT, ↓reduceIte, Nat.reduceAdd, Nat.reduceSub, Nat.reduceMul, Nat.reduceBEq, Nat.reduceLeDiff, Nat.reduceDvd, reduceCtorEq, Int.reduceToNat, Int.reduceLT, Int.reduceLE, Nat.le_refl, Int.le_refl, false_implies, implies_true, frzSlot, List.take_length, List.mem_cons, List.not_mem_nil, or_false, forall_eq_or_imp, forall_eq, List.range_succ, List.range_zero, exists_eq_left', Option.some.injEq, tqk_time, tqk_n, tqk_delays, xat_flights, h0, h1, g0, g1, l90_get hxk, l121_get hy, hd, List.length_append, List.length_map, e1, e2, e3, e4, w64s (lt63 hil hf), l57_build]
        exact ⟨hil, by rw [fa_yes hy hd, fb_yes hy hd, List.map_append]; rfl, by rw [← xat_yes hy hd]; rfl⟩
    · have g1 : ¬ (i : Int) < (x.flights.length : Int) := by omega
      have hie : i = x.flights.length := by omega
      subst hie
      clear f1 hi g1 hil
      have g1 : ¬ ((x.flights.length : Nat) : Int) < (x.flights.length : Int) := Int.lt_irrefl _
      obtain ⟨lk, hlk⟩ : ∃ lk, q.n.links[k]? = some lk := ⟨_, List.getElem?_eq_getElem (by omega)⟩
      obtain ⟨dl, hdl⟩ : ∃ dl, q.delays[k]? = some dl := ⟨_, List.getElem?_eq_getElem (by omega)⟩
      have hcap := hc lk (List.mem_of_getElem? hlk)
      cases hu : x.up
      · simp only [go_sem, Nat.reduceEqDiff, Nat.reduceLT, ↓reduceIte, Nat.reduceAdd, Nat.reduceSub, Nat.reduceMul, Nat.reduceBEq, Nat.reduceLeDiff, Nat.reduceDvd, reduceCtorEq, Int.reduceToNat, Int.reduceLT, Int.reduceLE, Nat.le_refl, Int.le_refl, false_implies, implies_true, frzSlot, List.take_length, List.mem_cons, List.not_mem_nil, or_false, forall_eq_or_imp, forall_eq, List.range_succ, List.range_zero, exists_eq_left', Option.some.injEq, tqk_time, tqk_n, tqk_delays, xat_flights, xat_up, xat_waiting, hu, g1]
        have ew := tqk_succ hx
        rw [← tline_down (c := capOf q k) (d := delOf q k) hu] at ew
        refine PCallK.intro (f54_c (tqk q k) (k : Int) _ h0 h1 hs) ?_
        simp only [go_sem, Nat.reduceEqDiff, Nat.reduceLT, ↓reduceIte, Nat.reduceAdd, Nat.reduceSub, Nat.reduceMul, Nat.reduceBEq, Nat.reduceLeDiff, Nat.reduceDvd, reduceCtorEq, Int.reduceToNat, Int.reduceLT, Int.reduceLE, Nat.le_refl, Int.le_refl, false_implies, implies_true, frzSlot, List.take_length, List.mem_cons, List.not_mem_nil, or_false, forall_eq_or_imp, forall_eq, List.range_succ, List.range_zero, exists_eq_left', Option.some.injEq, ew, w64s (lt63 hlt (Nat.le_trans hqs (by decide)))]
        exact ⟨hlt, by rw [tok_succ hx, tout_eq], rfl⟩
      · have ed : delOf q k = dl := by unfold delOf; rw [hdl]; rfl
        have ec : capOf q k = lk.capacity := by unfold capOf; rw [hlk]; rfl
        have ew := tqk_succ hx
        rw [← tline_up (c := capOf q k) (d := delOf q k) hu, ed, ec] at ew
        have m0 : 0 ≤ imin x.waiting.length lk.capacity := by unfold imin; split <;> omega
        have m1 : imin x.waiting.length lk.capacity ≤ x.waiting.length := by unfold imin; split <;> omega
        simp only [go_sem, Nat.reduceEqDiff, Nat.reduceLT, ↓reduceIte, Nat.reduceAdd, Nat.reduceSub, Nat.reduceMul, Nat.reduceBEq, Nat.reduceLeDiff, Nat.reduceDvd, reduceCtorEq, Int.reduceToNat, Int.reduceLT, Int.reduceLE, Nat.le_refl, Int.le_refl, false_implies, implies_true, frzSlot, List.take_length, List.mem_cons, List.not_mem_nil, or_false, forall_eq_or_imp, forall_eq, List.range_succ, List.range_zero, exists_eq_left', Option.some.injEq, tqk_time, tqk_n, tqk_delays, xat_flights, xat_up, xat_waiting, hu, g1, h0, l65_get hlk]
        change awp _ _ _ _ _ [(1, .ptr 0 0), (2, _), (4, _), (5, _), (6, _), (7, _), (9, .int .i64 (imin x.waiting.length lk.capacity)), (10, _)] _
        generalize imin x.waiting.length lk.capacity = m at *
        refine awp_for m.toNat (fun j => [(1, .ptr 0 0), (2, .ptr 1 0), (4, .sl (some 12) (l57 (tok' q k ++ (fa (tnow q) x.flights x.flights.length).map (pk k)))), (5, .int .i64 (k : Int)), (6, .ptr 2 0),
            (7, .sl (some 12) (l121 (fb (tnow q) x.flights x.flights.length ++ (x.waiting.take j).map fun p => ⟨IntKind.i64.wrap (tnow q + dl), p⟩))), (9, .int .i64 m), (10, .int .i64 (j : Int))])
          (fun _ => [some (tqk q k).c, some zeroRQ, some (xat (tnow q) x x.flights.length).c]) (by simp) rfl ?_
        intro j hj
        by_cases hjm : j < m.toNat
        · obtain ⟨p, hp⟩ : ∃ p, x.waiting[j]? = some p := ⟨_, List.getElem?_eq_getElem (by omega)⟩
          have j0 : (0 : Int) ≤ (j : Int) := by omega
          have j1 : (j : Int) < m := by omega
          obtain ⟨e3, e4⟩ := sz2 (a := (fb (tnow q) x.flights x.flights.length).length + (x.waiting.take j).length) (Nat.le_trans (Nat.add_le_add (Nat.le_trans f2 hf) (Nat.le_trans (List.length_take_le' _ _) hw)) (by decide))
          simp only [go_sem, Nat.reduceEqDiff, Nat.reduceLT, ↓reduceIte, Nat.reduceAdd, Nat.reduceSub, Nat.reduceMul, Nat.reduceBEq, Nat.reduceLeDiff, Nat.reduceDvd, reduceCtorEq, Int.reduceToNat, Int.reduceLT, Int.reduceLE, Nat.le_refl, Int.le_refl, false_implies, implies_true, frzSlot, List.take_length, List.mem_cons, List.not_mem_nil, or_false, forall_eq_or_imp, forall_eq, List.range_succ, List.range_zero, exists_eq_left', Option.some.injEq, tqk_time, tqk_n, tqk_delays, xat_flights, xat_up, xat_waiting, j0, j1, h0, l3_get hdl, l45_get hp, List.length_append, List.length_map, e3, e4, l121_build, w64s (lt63 (Nat.lt_of_lt_of_le hjm (Int.toNat_le.2 m1)) hw)]
          exact ⟨hjm, by simp only [take_snoc hp, List.map_append, List.append_assoc]; rfl, rfl⟩
        · have j1 : ¬ (j : Int) < m := by omega
          have hje : j = m.toNat := by omega
          subst hje
          simp only [go_sem, Nat.reduceEqDiff, Nat.reduceLT, ↓reduceIte, Nat.reduceAdd, Nat.reduceSub, Nat.reduceMul, Nat.reduceBEq, Nat.reduceLeDiff, Nat.reduceDvd, reduceCtorEq, Int.reduceToNat, Int.reduceLT, Int.reduceLE, Nat.le_refl, Int.le_refl, false_implies, implies_true, frzSlot, List.take_length, List.mem_cons, List.not_mem_nil, or_false, forall_eq_or_imp, forall_eq, List.range_succ, List.range_zero, exists_eq_left', Option.some.injEq, tqk_time, tqk_n, tqk_delays, xat_flights, xat_up, xat_waiting, hu, j1, m0, m1]
          refine PCallK.intro (f54_c (tqk q k) (k : Int) _ h0 h1 hs) ?_
          simp only [go_sem, Nat.reduceEqDiff, Nat.reduceLT, ↓reduceIte, Nat.reduceAdd, Nat.reduceSub, Nat.reduceMul, Nat.reduceBEq, Nat.reduceLeDiff, Nat.reduceDvd, reduceCtorEq, Int.reduceToNat, Int.reduceLT, Int.reduceLE, Nat.le_refl, Int.le_refl, false_implies, implies_true, frzSlot, List.take_length, List.mem_cons, List.not_mem_nil, or_false, forall_eq_or_imp, forall_eq, List.range_succ, List.range_zero, exists_eq_left', Option.some.injEq, ew, w64s (lt63 hlt (Nat.le_trans hqs (by decide)))]
          exact ⟨hlt, by rw [tok_succ hx, tout_eq], rfl⟩
  · have h1 : ¬ (k : Int) < ((tqk q k).l.length : Int) := by rw [tqk_len q hk]; omega
    have hke : k = q.l.length := by omega
    subst hke
    have e1 : tqk q q.l.length = (rtick q).1 := by
      unfold tqk rtick
      simp [List.take_of_length_le]
    have e2 : tok' q q.l.length = (rtick q).2 := by
      unfold tok' rtick
      simp [List.take_of_length_le]
    rw [e1] at h1
    simp only [go_sem, Nat.reduceEqDiff, Nat.reduceLT, ↓reduceIte, Nat.reduceAdd, Nat.reduceSub, Nat.reduceMul, Nat.reduceBEq, Nat.reduceLeDiff, Nat.reduceDvd, reduceCtorEq, Int.reduceToNat, Int.reduceLT, Int.reduceLE, Nat.le_refl, Int.le_refl, false_implies, implies_true, frzSlot, List.take_length, List.mem_cons, List.not_mem_nil, or_false, forall_eq_or_imp, forall_eq, List.range_succ, List.range_zero, exists_eq_left', Option.some.injEq, h1, e1, e2]
end Go.AI
