/- A program without wires fits the fields, in plain Lean. -/
import Derived.Test.YtdgagjhjpffeaaaGreatDoorMr
import Derived.Test.YtdgagjhjpffeaaaGreatDoorMp
import Derived.Test.YtdgagjhjpffeaaaGreatDoorMi
import Derived.DeepKeys5
import Derived.Test.YtdgagjhjpffeaaaGreatDoorMf
set_option linter.unusedSimpArgs false
set_option linter.unusedVariables false
namespace Go.AI

def wiresOk (t : Tenant) : Prop := ∀ w ∈ t.wires, (0 ≤ w.src ∧ w.src ≤ 65535) ∧ (0 ≤ w.dst ∧ w.dst ≤ 65535)

theorem polGo_all (l : List Fld) : ∀ r : List Policy, polGo l r = 0 ↔ ∀ x ∈ r, polE l x = 0
  | [] => by simp [polGo]
  | x :: r => by
    rw [polGo]
    by_cases h : polE l x = 0
    · rw [if_pos h, polGo_all l r]; simp [h]
    · rw [if_neg h]; simp [h]
theorem fitGo_all (l : List Fld) : ∀ r : List Pred, fitGo l r = 0 ↔ ∀ x ∈ r, fitP l x = 0
  | [] => by simp [fitGo]
  | x :: r => by
    rw [fitGo]
    by_cases h : fitP l x = 0
    · rw [if_pos h, fitGo_all l r]; simp [h]
    · rw [if_neg h]; simp [h]

/-- A predicate that is formed and fits. -/
def goodP (l : List Fld) (x : Pred) : Prop := fmP x = true ∧ ∀ y ∈ ptsP x, fitP l y = 0
def goodO (l : List Fld) (x : Policy) : Prop := fmO x = true ∧ ∀ y ∈ ptsO x, polE l y = 0

theorem max_port : maxF fldPort = 65535 := by decide +kernel
theorem find_port (l : List Fld) : findF l portS = (fldPort, true) := by unfold findF; rw [if_pos rfl]
theorem fnB_port : fnB portS = true := by unfold fnB; simp

theorem good_at (l : List Fld) {n : Int} (h1 : 0 ≤ n) (h2 : n ≤ 65535) : goodP l (bAt n) := by
  constructor
  · rw [fmP_eq]
    unfold okP bAt
    rw [fmPs_nil]
    simp [fnB_port, w16, h1, h2]
  · intro y hy
    rw [ptsP_eq] at hy
    have : y = bAt n := by simpa [bAt, ptsPs_nil] using hy
    subst this
    have : ¬ (maxF fldPort < n) := by rw [max_port]; omega
    simp [fitP, bAt, find_port, this]
theorem good_false (l : List Fld) : goodP l bFalse := by
  constructor
  · rw [fmP_eq]
    unfold okP bFalse noneP
    rw [fmPs_nil]; simp
  · intro y hy
    rw [ptsP_eq] at hy
    have : y = bFalse := by simpa [bFalse, ptsPs_nil] using hy
    subst this
    simp [fitP, bFalse]
theorem good_or {l : List Fld} {x y : Pred} (hx : goodP l x) (hy : goodP l y) : goodP l (bOr x y) := by
  constructor
  · rw [fmP_eq]
    unfold okP bOr noneP
    dsimp only
    rw [fmPs_cons, fmPs_cons, fmPs_nil, hx.1, hy.1]; simp
  · intro z hz
    rw [ptsP_eq] at hz
    rcases List.mem_cons.1 hz with rfl | hz
    · simp [fitP, bOr]
    · have hz : z ∈ ptsPs [x, y] := hz
      rw [ptsPs_cons, ptsPs_cons, ptsPs_nil] at hz
      rcases List.mem_append.1 hz with hz | hz
      · exact hx.2 z hz
      · exact hy.2 z (by simpa using hz)
theorem good_not {l : List Fld} {x : Pred} (hx : goodP l x) : goodP l (bNot x) := by
  constructor
  · rw [fmP_eq]
    unfold okP bNot noneP
    dsimp only
    rw [fmPs_cons, fmPs_nil, hx.1]; simp
  · intro z hz
    rw [ptsP_eq] at hz
    rcases List.mem_cons.1 hz with rfl | hz
    · simp [fitP, bNot]
    · have hz : z ∈ ptsPs [x] := hz
      rw [ptsPs_cons, ptsPs_nil] at hz
      exact hx.2 z (by simpa using hz)
theorem good_filter {l : List Fld} {x : Pred} (hx : goodP l x) : goodO l (bFilter x) := by
  constructor
  · rw [fmO_eq]
    unfold okO bFilter
    dsimp only
    rw [fmOs_nil, hx.1]; simp
  · intro z hz
    rw [ptsO_eq] at hz
    have : z = bFilter x := by simpa [bFilter, ptsOs_nil] using hz
    subst this
    show (if (1 : Int) = 1 then fitA l x else _) = 0
    rw [if_pos rfl]
    exact (fitGo_all l _).2 hx.2
theorem empty_refl : eqP Pred.z emptyPred = true := eqP_refl _
theorem good_set (l : List Fld) {n : Int} (h1 : 0 ≤ n) (h2 : n ≤ 65535) : goodO l (bSet portS n) := by
  constructor
  · rw [fmO_eq]
    unfold okO bSet
    dsimp only
    rw [fmOs_nil, empty_refl]; simp [fnB_port, w16, h1, h2]
  · intro z hz
    rw [ptsO_eq] at hz
    have : z = bSet portS n := by simpa [bSet, ptsOs_nil] using hz
    subst this
    have : ¬ (maxF fldPort < n) := by rw [max_port]; omega
    simp [polE, bSet, find_port, this]
theorem good_two {l : List Fld} {x y : Policy} (hx : goodO l x) (hy : goodO l y) {k : Int} (hk : k = 3 ∨ k = 4) : goodO l ⟨k, Pred.z, ⟨#[]⟩, 0, [x, y]⟩ := by
  constructor
  · rw [fmO_eq]
    unfold okO
    dsimp only
    rw [fmOs_cons, fmOs_cons, fmOs_nil, hx.1, hy.1, empty_refl]
    rcases hk with rfl | rfl <;> simp
  · intro z hz
    rw [ptsO_eq] at hz
    rcases List.mem_cons.1 hz with rfl | hz
    · rcases hk with rfl | rfl <;> simp [polE]
    · have hz : z ∈ ptsOs [x, y] := hz
      rw [ptsOs_cons, ptsOs_cons, ptsOs_nil] at hz
      rcases List.mem_append.1 hz with hz | hz
      · exact hx.2 z hz
      · exact hy.2 z (by simpa using hz)
theorem good_union {l : List Fld} {x y : Policy} (hx : goodO l x) (hy : goodO l y) : goodO l (bUnion x y) := good_two hx hy (.inl rfl)
theorem good_seq {l : List Fld} {x y : Policy} (hx : goodO l x) (hy : goodO l y) : goodO l (bSeq x y) := good_two hx hy (.inr rfl)
theorem good_star {l : List Fld} {x : Policy} (hx : goodO l x) : goodO l (bStar x) := by
  constructor
  · rw [fmO_eq]
    unfold okO bStar
    dsimp only
    rw [fmOs_cons, fmOs_nil, hx.1, empty_refl]; simp
  · intro z hz
    rw [ptsO_eq] at hz
    rcases List.mem_cons.1 hz with rfl | hz
    · simp [polE, bStar]
    · have hz : z ∈ ptsOs [x] := hz
      rw [ptsOs_cons, ptsOs_nil] at hz
      exact hx.2 z (by simpa using hz)

theorem good_fold {α : Type} {p : α → Prop} {two : α → α → α} (h2 : ∀ x y, p x → p y → p (two x y)) : ∀ (l : List α) (x : α), p x → (∀ y ∈ l, p y) → p (l.foldl two x)
  | [], x, hx, _ => hx
  | y :: l, x, hx, h => good_fold h2 l (two x y) (h2 x y hx (h y (by simp))) fun z hz => h z (by simp [hz])
theorem good_join {α : Type} {p : α → Prop} {two : α → α → α} {z : α} (h2 : ∀ x y, p x → p y → p (two x y)) (hz : p z) {l : List α} (h : ∀ y ∈ l, p y) : p (joinL z two l) := by
  cases l with
  | nil => exact hz
  | cons x l => exact good_fold h2 l x (h x (by simp)) fun y hy => h y (by simp [hy])

theorem good_closed {l : List Fld} {t : Tenant} {p : Policy} (hw : wiresOk t) (hp : goodO l p) : goodO l (bClosed t p) := by
  unfold bClosed
  split
  · exact hp
  · have h1 : goodP l (bWired t) := good_join (p := goodP l) (two := bOr) (fun _ _ => good_or) (good_false l) fun y hy => by
      obtain ⟨w, hm, rfl⟩ := List.mem_map.1 hy
      exact good_at l (hw w hm).1.1 (hw w hm).1.2
    have h2 : goodO l (bWires t) := good_join (p := goodO l) (two := bUnion) (fun _ _ => good_union) (good_filter (good_false l)) fun y hy => by
      obtain ⟨w, hm, rfl⟩ := List.mem_map.1 hy
      exact good_seq (good_filter (good_at l (hw w hm).1.1 (hw w hm).1.2)) (good_set l (hw w hm).2.1 (hw w hm).2.2)
    exact good_seq (good_seq hp (good_star (good_seq h2 hp))) (good_filter (good_not h1))

theorem ckTO_good {l : List Fld} {x : Policy} (h : ckTO l x = 0) : ckO x = 0 ∧ goodO l x := by
  unfold ckTO at h
  split at h
  · rename_i h0
    refine ⟨h0, ?_, (polGo_all l _).1 h⟩
    unfold ckO fmE at h0
    split at h0
    · split at h0
      · assumption
      · cases h0
    · rename_i hl; exact absurd h0 hl
  · rename_i hn; exact absurd h hn

theorem ckTO_of_good {l : List Fld} {x : Policy} (hn : ckO x ≠ 2) (h : goodO l x) : ckTO l x = 0 := by
  have h0 : ckO x = 0 := by
    unfold ckO fmE limE at hn ⊢
    rw [h.1] at hn ⊢
    by_cases hz : (szO x).nodes > 200 ∨ (szO x).depth > 20
    · rw [if_pos hz] at hn; exact absurd rfl hn
    · rw [if_neg hz]; rfl
  rw [ckTO, if_pos h0]
  exact (polGo_all l _).2 h.2

/-! ## Programs by their steps -/

theorem vGo_steps (l : List Fld) : ∀ (p q : List Stage) (E : List VE), p.map (·.step) = q.map (·.step) → vGo l E p = vGo l E q
  | [], [], _, _ => rfl
  | [], _ :: _, _, h => by cases h
  | _ :: _, [], _, h => by cases h
  | x :: p, y :: q, E, h => by
    simp only [List.map_cons, List.cons.injEq] at h
    rw [vGo, vGo, h.1]
    cases vStep l E y.step with
    | none => rfl
    | some E' => exact vGo_steps l p q E' h.2

theorem stGo_all (l : List Fld) : ∀ r : List Stage, stGo l r = 0 ↔ ∀ x ∈ r, ckTO l x.policy = 0 ∧ ckTS l x.step = 0
  | [] => by simp [stGo]
  | x :: r => by
    rw [stGo]
    by_cases h : ckTO l x.policy = 0
    · rw [if_pos h]
      by_cases h2 : ckTS l x.step = 0
      · rw [if_pos h2, stGo_all l r]; simp [h, h2]
      · rw [if_neg h2]; simp [h2]
    · rw [if_neg h]; simp [h]
theorem ckGo_all : ∀ r : List Stage, ckGo r = 0 ↔ ∀ x ∈ r, ckO x.policy = 0 ∧ ckS x.step = 0
  | [] => by simp [ckGo]
  | x :: r => by
    rw [ckGo]
    by_cases h : ckO x.policy = 0
    · rw [if_pos h]
      by_cases h2 : ckS x.step = 0
      · rw [if_pos h2, ckGo_all r]; simp [h, h2]
      · rw [if_neg h2]; simp [h2]
    · rw [if_neg h]; simp [h]

theorem ckT_0 {l : List Fld} {p : List Stage} (h : ckT l p = 0) : p.length ≤ 8 ∧ (∀ x ∈ p, ckO x.policy = 0 ∧ ckS x.step = 0) ∧ (∀ x ∈ p, ckTO l x.policy = 0 ∧ ckTS l x.step = 0) ∧ (vGo l [] p).isSome = true := by
  unfold ckT at h
  split at h
  · rename_i hn; exact absurd h hn
  · rename_i h1
    split at h
    · rename_i hn; exact absurd h hn
    · rename_i h2
      split at h
      · rename_i h3
        have h1 : ckG p = 0 := by simpa using h1
        have h2 : stGo l p = 0 := by simpa using h2
        unfold ckG at h1
        split at h1
        · cases h1
        · rename_i hl
          exact ⟨by omega, (ckGo_all p).1 h1, (stGo_all l p).1 h2, by rw [vGo_typ]; exact h3⟩
      · cases h
theorem ckT_of {l : List Fld} {p : List Stage} (h1 : p.length ≤ 8) (h2 : ∀ x ∈ p, ckO x.policy = 0 ∧ ckS x.step = 0) (h3 : ∀ x ∈ p, ckTO l x.policy = 0 ∧ ckTS l x.step = 0) (h4 : (vGo l [] p).isSome = true) : ckT l p = 0 := by
  rw [vGo_typ] at h4
  have g1 : ckG p = 0 := by unfold ckG; rw [if_neg (by omega)]; exact (ckGo_all p).2 h2
  have g2 : stGo l p = 0 := (stGo_all l p).2 h3
  unfold ckT
  rw [if_neg (by simp [g1]), if_neg (by simp [g2]), if_pos h4]

theorem wholeGo_spec (t : Tenant) : ∀ (r o : List Stage), (wholeGo t o r).2 = 2 ∧ (wholeGo t o r).1 = [] ∨
    (wholeGo t o r).2 = 0 ∧ (wholeGo t o r).1 = o ++ r.map (fun x => { x with policy := bClosed t x.policy }) ∧ ∀ x ∈ r, ckO (bClosed t x.policy) ≠ 2
  | [], o => .inr ⟨rfl, by simp [wholeGo], fun _ h => by cases h⟩
  | x :: r, o => by
    rw [wholeGo]
    split
    · exact .inl ⟨rfl, rfl⟩
    · rename_i hn
      rcases wholeGo_spec t r (o ++ [{ x with policy := bClosed t x.policy }]) with h | ⟨h1, h2, h3⟩
      · exact .inl h
      · refine .inr ⟨h1, by rw [h2]; simp, fun y hy => ?_⟩
        rcases List.mem_cons.1 hy with rfl | hy
        · exact hn
        · exact h3 y hy

/-- Whole fits: either it is refused, and there are wires, or it fits, with the program's steps. -/
theorem whole_fits {l : List Fld} {t : Tenant} (hw : wiresOk t) (h : ckT l t.program = 0) :
    ((bWhole t).2 = 2 ∧ (bWhole t).1 = [] ∧ t.wires ≠ []) ∨ ((bWhole t).2 = 0 ∧ ckT l (bWhole t).1 = 0 ∧ (bWhole t).1.map (·.step) = t.program.map (·.step)) := by
  obtain ⟨h1, h2, h3, h4⟩ := ckT_0 h
  rcases wholeGo_spec t t.program [] with ⟨g1, g2⟩ | ⟨g1, g2, g3⟩
  · refine .inl ⟨g1, g2, fun he => ?_⟩
    have : ∀ (r o : List Stage), (∀ x ∈ r, ckO x.policy = 0) → (wholeGo t o r).2 = 0 := by
      intro r
      induction r with
      | nil => intro o _; rfl
      | cons x r ih =>
        intro o hx
        rw [wholeGo]
        have e : bClosed t x.policy = x.policy := by unfold bClosed; rw [if_pos he]
        rw [e, if_neg (by rw [hx x (by simp)]; decide)]
        exact ih _ fun y hy => hx y (by simp [hy])
    rw [this t.program [] fun x hx => (h2 x hx).1] at g1
    cases g1
  · have hst : (bWhole t).1.map (·.step) = t.program.map (·.step) := by
      show (wholeGo t [] t.program).1.map _ = _
      rw [g2]; simp [List.map_map, Function.comp_def]
    refine .inr ⟨g1, ?_, hst⟩
    have hm : ∀ x ∈ (bWhole t).1, ckTO l x.policy = 0 ∧ ckO x.policy = 0 ∧ ckS x.step = 0 ∧ ckTS l x.step = 0 := by
      intro x hx
      have hx : x ∈ (wholeGo t [] t.program).1 := hx
      rw [g2, List.nil_append] at hx
      obtain ⟨y, hy, rfl⟩ := List.mem_map.1 hx
      have hg := ckTO_of_good (g3 y hy) (good_closed hw (ckTO_good (h3 y hy).1).2)
      exact ⟨hg, (ckTO_good hg).1, (h2 y hy).2, (h3 y hy).2⟩
    refine ckT_of ?_ (fun x hx => ⟨(hm x hx).2.1, (hm x hx).2.2.1⟩) (fun x hx => ⟨(hm x hx).1, (hm x hx).2.2.2⟩) ?_
    · have := congrArg List.length hst
      simp only [List.length_map] at this
      omega
    · rw [vGo_steps l _ _ [] hst]; exact h4

theorem plain_whole {l : List Fld} {t : Tenant} (h : ckT l t.program = 0) : bWhole { t with wires := [] } = (t.program, 0) := by
  obtain ⟨h1, h2, h3, h4⟩ := ckT_0 h
  have : ∀ (r o : List Stage), (∀ x ∈ r, ckO x.policy = 0) → wholeGo { t with wires := [] } o r = (o ++ r, 0) := by
    intro r
    induction r with
    | nil => intro o _; simp [wholeGo]
    | cons x r ih =>
      intro o hx
      have e : bClosed { t with wires := [] } x.policy = x.policy := by unfold bClosed; rw [if_pos rfl]
      rw [wholeGo, e, if_neg (by rw [hx x (by simp)]; decide), ih _ fun y hy => hx y (by simp [hy])]
      simp
  exact this t.program [] fun x hx => (h2 x hx).1

theorem right_fits {s : Setup} {t : Tenant} (h : rightT s t = true) : wiresOk t ∧ ckT s.fields t.program = 0 := by
  unfold rightT at h
  simp only [Bool.and_eq_true, beq_iff_eq] at h
  obtain ⟨_, _, _, _, h1⟩ := h
  unfold ck18 at h1
  split at h1
  · cases h1
  · rename_i hlim
    split at h1
    · rename_i hne; exact absurd h1 hne
    · rename_i hpo
      split at h1
      · rename_i hne; exact absurd h1 hne
      · rename_i hpr
        have hpo : ckPo s t = 0 := by simpa using hpo
        have hpr : ckPr s t = 0 := by simpa using hpr
        constructor
        · intro w hw
          have hok : okAll (pwr t) qwr t.wires = true := by
            unfold ckPo at hpo
            split at hpo
            · cases hpo
            split at hpo
            · cases hpo
            split at hpo
            · cases hpo
            split at hpo
            · cases hpo
            · rename_i hne; simpa using hne
          obtain ⟨k, hk⟩ := List.getElem?_of_mem hw
          have := (okAll_spec hok k w hk).1
          unfold pwr innerB isPortB at this
          simp only [Bool.and_eq_true, decide_eq_true_eq] at this
          omega
        · unfold ckPr at hpr
          split at hpr
          · rename_i hne; exact absurd hpr hne
          · rename_i hne; simpa using hne

end Go.AI

namespace Go.AI
open Go.Proofs
set_option maxRecDepth 50000

/-! ## The ports of a policy -/

theorem putGo_mem (n m : Int) : ∀ (l : List Int) (d : Bool), m ∈ putGo n d l ↔ (if d then m ≠ n ∧ m ∈ l else m = n ∨ m ∈ l)
  | [], d => by cases d <;> simp [putGo]
  | x :: r, d => by
    rw [putGo, List.mem_append, List.mem_append, putGo_mem n m r]
    cases d with
    | true =>
      simp only [Bool.true_or, if_true, List.mem_cons]
      by_cases hx : x = n
      · subst hx; simp
        try exact fun h h2 => absurd h2 h
      · simp [hx]
        constructor
        · rintro (rfl | h)
          · exact ⟨hx, .inl rfl⟩
          · exact ⟨h.1, .inr h.2⟩
        · rintro ⟨h1, rfl | h2⟩
          · exact .inl rfl
          · exact .inr ⟨h1, h2⟩
    | false =>
      simp only [Bool.false_or, Bool.false_eq_true, if_false, and_true, List.mem_cons]
      by_cases hn : n ≤ x
      · simp only [hn, if_true, decide_true, List.mem_singleton]
        by_cases hx : x = n
        · subst hx
          simp only [ne_eq, not_true_eq_false, if_false, List.not_mem_nil, false_or]
          constructor
          · rintro (h | ⟨_, h⟩)
            · exact .inl h
            · exact .inr (.inr h)
          · rintro (h | h | h)
            · exact .inl h
            · exact .inl h
            · by_cases hm : m = x
              · exact .inl hm
              · exact .inr ⟨hm, h⟩
        · simp only [ne_eq, hx, not_false_eq_true, if_true, List.mem_singleton]
          constructor
          · rintro (h | h | ⟨_, h⟩)
            · exact .inl h
            · exact .inr (.inl h)
            · exact .inr (.inr h)
          · rintro (h | h | h)
            · exact .inl h
            · exact .inr (.inl h)
            · by_cases hm : m = n
              · exact .inl hm
              · exact .inr (.inr ⟨hm, h⟩)
      · have hx : x ≠ n := fun h => hn (by omega)
        simp only [hn, if_false, decide_false, List.not_mem_nil, false_or, ne_eq, hx, not_false_eq_true, if_true, List.mem_singleton, Bool.false_eq_true]
        constructor
        · rintro (h | h | h)
          · exact .inr (.inl h)
          · exact .inl h
          · exact .inr (.inr h)
        · rintro (h | h | h)
          · exact .inr (.inl h)
          · exact .inl h
          · exact .inr (.inr h)

theorem putI_mem (l : List Int) (n m : Int) : m ∈ putI l n ↔ m = n ∨ m ∈ l := by
  have := putGo_mem n m l false
  simpa [putI] using this

theorem portGo_mem : ∀ (r : List Policy) (o : List Int) (m : Int), m ∈ portGo o r ↔ m ∈ o ∨ ∃ y ∈ r, isPt y = true ∧ y.n = m
  | [], o, m => by simp [portGo]
  | y :: r, o, m => by
    rw [portGo, portGo_mem r]
    by_cases h : y.kind = 2 ∧ y.field = portS
    · rw [if_pos h, putI_mem]
      have hp : isPt y = true := by simp [isPt, h.1, h.2]
      constructor
      · rintro ((rfl | h1) | ⟨w, hw, h2⟩)
        · exact .inr ⟨y, by simp, hp, rfl⟩
        · exact .inl h1
        · exact .inr ⟨w, by simp [hw], h2⟩
      · rintro (h1 | ⟨w, hw, h2, h3⟩)
        · exact .inl (.inr h1)
        · rcases List.mem_cons.1 hw with rfl | hw
          · exact .inl (.inl h3.symm)
          · exact .inr ⟨w, hw, h2, h3⟩
    · rw [if_neg h]
      have hp : ¬ isPt y = true := by
        intro hp
        simp only [isPt, Bool.and_eq_true, beq_iff_eq, decide_eq_true_eq] at hp
        exact h hp
      constructor
      · rintro (h1 | ⟨w, hw, h2⟩)
        · exact .inl h1
        · exact .inr ⟨w, by simp [hw], h2⟩
      · rintro (h1 | ⟨w, hw, h2, h3⟩)
        · exact .inl h1
        · rcases List.mem_cons.1 hw with rfl | hw
          · exact absurd h2 hp
          · exact .inr ⟨w, hw, h2, h3⟩

theorem ports_ok {x : Policy} (t : Tenant) (hfm : fmO x = true) : (isortI (ksGo [] (ptsO x))).any (fun n => decide ((t.ports.length : Int) ≤ n)) = !(portsO x).all (isPortB t) := by
  have hm : ∀ m, m ∈ isortI (ksGo [] (ptsO x)) ↔ m ∈ portsO x := fun m => by
    rw [(isortI_perm _).mem_iff, ksGo_mem]
    unfold portsO
    rw [portGo_mem]
  have hz : ∀ m ∈ portsO x, 0 ≤ m := fun m hmem => by
    unfold portsO at hmem
    rw [portGo_mem] at hmem
    rcases hmem with h | ⟨y, hy, hp, rfl⟩
    · cases h
    · simp only [isPt, Bool.and_eq_true, beq_iff_eq] at hp
      exact (fm_n (fmO_pts x hfm y hy) hp.1).1
  rw [Bool.eq_iff_iff, List.any_eq_true]
  rw [Bool.not_eq_true', List.all_eq_false]
  constructor
  · rintro ⟨m, h1, h2⟩
    have h1 := (hm m).1 h1
    refine ⟨m, h1, ?_⟩
    have := hz m h1
    simp only [decide_eq_true_eq] at h2
    unfold isPortB
    simp
    omega
  · rintro ⟨m, h1, h2⟩
    refine ⟨m, (hm m).2 h1, ?_⟩
    have := hz m h1
    unfold isPortB at h2
    simp at h2
    simp
    exact h2 this

/-! ## Steps that are formed -/

theorem ckS_kind {s : Stp} (h : ckS s = 0) (hk : s.kind ≠ 0) : (1 ≤ s.kind ∧ s.kind ≤ 6) ∧ s.key.length ≤ 4 := by
  have hf : fmS s = true := by
    unfold ckS at h
    split at h
    · assumption
    · cases h
  unfold fmS at hf
  split at hf
  · rename_i he
    unfold eqS at he
    simp only [Bool.and_eq_true, beq_iff_eq] at he
    exact absurd he.1.1 hk
  · split at hf
    · cases hf
    · rename_i hn
      have hlen : s.key.length ≤ 4 := by omega
      refine ⟨?_, hlen⟩
      by_cases h1 : s.kind = 1
      · omega
      by_cases h2 : s.kind = 2
      · omega
      by_cases h3 : s.kind = 3
      · omega
      by_cases h4 : s.kind = 4
      · omega
      by_cases h5 : s.kind = 5
      · omega
      by_cases h6 : s.kind = 6
      · omega
      rw [if_neg h1, if_neg h2, if_neg h3, if_neg h4, if_neg h5, if_neg h6] at hf
      cases hf

theorem ckG_0 {p : List Stage} (h : ckG p = 0) : p.length ≤ 8 ∧ ∀ x ∈ p, ckO x.policy = 0 ∧ ckS x.step = 0 := by
  unfold ckG at h
  split at h
  · cases h
  · exact ⟨by omega, (ckGo_all p).1 h⟩

theorem p_tProgram (l : List Fld) (hl : l.length ≤ 9223372036854775807) (hok : ∀ f ∈ l, 0 ≤ f.width ∧ f.width ≤ 16) (p : List Stage) (hb : bulkL (lStage p) ≤ 1073741824) :
    PCall Tryz.prog 37 [.sl none (lFld l), .sl none (lStage p)] (.int .i64 (ckT l p)) := by
  have hpl : p.length ≤ 1073741824 := lStage_bn hb
  have hbx : ∀ x ∈ p, bulkL x.c ≤ 1073741824 := fun x hx => by have := lStage_bk hb hx; simpa only [AV.bulk] using this
  refine PCall.of h37 mixed h37_d Tryz.func37 rfl call37 (by simp [Tryz.f37]) (by simp [pureL, AV.pure, go_sem]) rfl ?_
  simp only [Tryz.f37, go_sem, ↓reduceIte]
  repeat' (first
    | ((first | refine PCallK.intro (p_CheckProgram p hb) ?_); simp only [go_sem, ↓reduceIte])
    | ((first | refine condK_split _ _ _ (fun hc => ?_) (fun hc => ?_) | refine gsel_split _ _ _ _ (fun hc => ?_) (fun hc => ?_)) <;> simp only [go_sem, ↓reduceIte, hc, Bool.not_true, Bool.not_false]))
  · rw [ckT, if_pos (by simpa using hc)]
  · have g0 : ckG p = 0 := by simpa using hc
    have hT : ckT l p = if stGo l p ≠ 0 then stGo l p else if typGo l p 0 p then 0 else 11 := by rw [ckT, if_neg (by simp [g0])]
    refine awp_lst p (fun (_ : Unit) r => stGo l r) (fun k _ => True) (fun k _ => [(0, .sl none (lFld l)), (1, .sl none (lStage p)), (17, .sl none (lStage p)), (18, .int .i64 p.length), (19, .int .i64 k)]) (fun k _ => []) () (by omega) trivial rfl rfl ?_ ?_
    · intro k _ x xs hd hx hI hF h0 h1 hw
      have hxm := List.mem_of_getElem? hx
      have hbp := Stage.bs_policy (hbx x hxm)
      have hbs := Stage.bs_step (hbx x hxm)
      simp only [go_sem, ↓reduceIte, h0, h1, hw, lStage_get hx]
      repeat' (first
        | ((first | refine PCallK.intro (p_tPolicy l hl hok x.policy hbp) ?_ | refine PCallK.intro (p_tStep l hl hok x.step hbs) ?_); simp only [go_sem, ↓reduceIte, h0, h1, hw, lStage_get hx])
        | ((first | refine condK_split _ _ _ (fun hc => ?_) (fun hc => ?_) | refine gsel_split _ _ _ _ (fun hc => ?_) (fun hc => ?_)) <;> simp only [go_sem, ↓reduceIte, hc, Bool.not_true, Bool.not_false, h0, h1, hw, lStage_get hx]))
      · have n : ckTO l x.policy ≠ 0 := by simpa using hc
        rw [hT, hF, stGo, if_neg n, if_pos n]
      · have n1 : ckTO l x.policy = 0 := by
          have h9 : (ckTO l x.policy != 0) = false := by assumption
          simpa using h9
        have n : ckTS l x.step ≠ 0 := by simpa using hc
        rw [hT, hF, stGo, if_pos n1, if_neg n, if_pos n]
      · have n1 : ckTO l x.policy = 0 := by
          have h9 : (ckTO l x.policy != 0) = false := by assumption
          simpa using h9
        have n : ckTS l x.step = 0 := by simpa using hc
        exact ⟨(), by rw [stGo, if_pos n1, if_pos n]⟩
    · intro _ _ hF
      have hF0 : stGo l p = 0 := hF
      simp only [go_sem, ↓reduceIte, Int.lt_irrefl, decide_false]
      refine ACallK.intro (p_variables l hl p (by omega) fun x hx hk => ?_) fun v H' hr => ?_
      · have := ckS_kind ((ckG_0 g0).2 x hx).2 hk
        exact ⟨this.1, by omega⟩
      rcases hr with ⟨hn, rfl⟩ | ⟨E, g, hE, _, rfl, rfl⟩
      · have ht : typGo l p 0 p = false := by rw [← vGo_typ, hn]; rfl
        simp only [go_sem, ↓reduceIte]
        rw [hT, hF0, ht]; rfl
      · have ht : typGo l p 0 p = true := by rw [← vGo_typ, hE]; rfl
        simp only [go_sem, ↓reduceIte]
        rw [hT, hF0, ht]; rfl

theorem p_kp1 {H : Heap} (t : Tenant) (n : Int) (o : Nat) (ho : H[o]? = some (some t.c)) : SCall Tryz.prog 133 [.int .i64 n, .ptr o 0] H (.bool (decide ((t.ports.length : Int) ≤ n))) := by
  refine ACall.drop rfl ?_
  refine ACall.of h133 rfl mixed h133_d Tryz.func133 rfl call133 (by simp [Tryz.f133]) ?_
  have ho' : ∀ z, (H ++ z)[o]? = some (some t.c) := fun z => by
    have := (List.getElem?_eq_some_iff.1 ho).1
    rw [List.getElem?_append_left this]; exact ho
  simp only [Tryz.f133, go_sem, ↓reduceIte, ho, ho']

theorem p_checkProgram (s : Setup) (t : Tenant) (hl : s.fields.length ≤ 9223372036854775807) (hok : ∀ f ∈ s.fields, 0 ≤ f.width ∧ f.width ≤ 16) (hb : bulkL t.c ≤ 1073741824) :
    PCall Tryz.prog 57 [.agg s.c, .agg t.c] (.int .i64 (ckPr s t)) := by
  have hbp := Tenant.bl_program hb
  have hpl : t.program.length ≤ 1073741824 := lStage_bn hbp
  have hbx : ∀ x ∈ t.program, bulkL x.c ≤ 1073741824 := fun x hx => by have := lStage_bk hbp hx; simpa only [AV.bulk] using this
  refine PCall.of h57 mixed h57_d Tryz.func57 rfl call57 (by simp [Tryz.f57]) (by simp [pureL, AV.pure, go_sem]) rfl ?_
  simp only [Tryz.f57, go_sem, ↓reduceIte, toList_beq]
  repeat' (first
    | ((first | refine PCallK.intro (p_tProgram s.fields hl hok t.program hbp) ?_); simp only [go_sem, ↓reduceIte])
    | ((first | refine condK_split _ _ _ (fun hc => ?_) (fun hc => ?_) | refine gsel_split _ _ _ _ (fun hc => ?_) (fun hc => ?_)) <;> simp only [go_sem, ↓reduceIte, hc, Bool.not_true, Bool.not_false]))
  · rw [ckPr, if_pos (by simpa using hc)]
  · have h0 : ckT s.fields t.program = 0 := by simpa using hc
    have hT : ckPr s t = ckPrGo t t.program := by rw [ckPr, if_neg (by simp [h0])]
    refine awp_lst t.program (fun (_ : Unit) r => ckPrGo t r) (fun k _ => True) (fun k _ => [(3, .ptr 1 0), (17, .sl none (lStage t.program)), (18, .int .i64 t.program.length), (19, .int .i64 k)]) (fun k _ => [some s.c, some t.c]) () (by omega) trivial rfl rfl ?_ ?_
    · intro k _ x xs hd hx hI hF h0 h1 hw
      have hxm := List.mem_of_getElem? hx
      have hbo := Stage.bs_policy (hbx x hxm)
      have hbs := Stage.bs_step (hbx x hxm)
      have hkl := lStr_bn (Stp.bl_key hbs)
      have hfm : fmO x.policy = true := (ckTO_good ((ckT_0 (by assumption)).2.2.1 x hxm).1).2.1
      have hlen : (isortI (ksGo [] (ptsO x.policy))).length ≤ 9223372036854775807 := by
        rw [(isortI_perm _).length_eq]
        have := ksGo_len (ptsO x.policy) []
        have := ptsO_len x.policy
        simp at *; omega
      have hcw := p_ContainsI64 (H := [some s.c, some t.c, some x.c]) (isortI (ksGo [] (ptsO x.policy))) hlen 133 [] [.ptr 1 0] (fun n => decide ((t.ports.length : Int) ≤ n)) (fun n _ => p_kp1 t n 1 rfl)
      rw [ports_ok t hfm] at hcw
      simp only [go_sem, ↓reduceIte, h0, h1, hw, lStage_get hx]
      repeat' (first
        | ((first | refine PCallK.intro (p_Ports x.policy hbo hfm) ?_ | refine ACallK.ofS (hcw) ?_ | refine PCallK.intro (p_ContS x.step.key (by omega) portS) ?_); simp only [go_sem, ↓reduceIte, h0, h1, hw, lStage_get hx, toList_beq])
        | ((first | refine condK_split _ _ _ (fun hc => ?_) (fun hc => ?_) | refine gsel_split _ _ _ _ (fun hc => ?_) (fun hc => ?_)) <;> simp only [go_sem, ↓reduceIte, hc, Bool.not_true, Bool.not_false, h0, h1, hw, lStage_get hx, toList_beq]))
      all_goals first
        | (rw [hT, hF, ckPrGo, if_pos (by simpa using hc)]; done)
        | skip
      all_goals have n1 : ¬ (portsO x.policy).all (isPortB t) = false := by simp_all
      all_goals first
        | (rw [hT, hF, ckPrGo, if_neg n1, if_pos (by unfold hasS; simp_all [portS])]; done)
        | exact ⟨(), by rw [ckPrGo, if_neg n1, if_neg (by unfold hasS; simp_all [portS])]⟩
        | skip
    · intro _ _ hF
      simp only [go_sem, ↓reduceIte, Int.lt_irrefl, decide_false]
      have hF : ckPrGo t t.program = 0 := hF
      rw [hT, hF]

end Go.AI

namespace Go.AI
open Go.Proofs
set_option maxRecDepth 50000

abbrev dKey (x : Demand) : AV := .agg [.int .i64 x.src, .int .i64 x.dst]

theorem p_cd1 (x : Demand) : PCall Tryz.prog 64 [.agg x.c] (dKey x) := by
  refine PCall.ofB h64 mixed h64_d Tryz.func64 rfl call64 (by simp [Tryz.f64]) (by simp [pureL, AV.pure, go_sem]) (by simp [pureL, AV.pure, go_sem]) ?_
  simp only [Tryz.f64, go_sem, ↓reduceIte]

theorem wf_small {n : Int} (h0 : 0 ≤ n) (h1 : n ≤ 1073741824) : (Lit.int .i64 n).wf = true := by
  have h2 : IntKind.i64.min = -9223372036854775808 := by decide
  have h3 : IntKind.i64.max = 9223372036854775807 := by decide
  simp only [Lit.wf, h2, h3, Bool.and_eq_true, decide_eq_true_eq]
  omega

theorem laid_here : laidOutB Tryz.prog = true := by kernel_rfl

theorem key_two {P : Program} {kt it : TypeId} (hu : P.underlying kt = some (.array 2 it)) (hi : P.underlying it = some (.int .i64)) (hc : P.cellsOf kt = 2) (hci : P.cellsOf it = 1) (hk : P.keyType kt = true) (hs : 0 < P.types.size) {a b : Int} (ha : (Lit.int .i64 a).wf = true) (hb : (Lit.int .i64 b).wf = true) :
    ∃ l, keyOf P kt (.agg #[.int .i64 a, .int .i64 b]) = some l := by
  obtain ⟨m, hm⟩ : ∃ m, P.types.size = m + 1 := ⟨P.types.size - 1, by omega⟩
  have h1 : ∀ n : Int, (Lit.int .i64 n).wf = true → ∀ d, P.keyLits (d + 1) it [.int .i64 n] = some [.int .i64 n] := fun n hn d => by
    unfold Program.keyLits
    rw [hi]
    simp [hn]
  have h2 : P.keyLits (P.types.size + 1) kt [.int .i64 a, .int .i64 b] = some [.int .i64 a, .int .i64 b] := by
    rw [hm]
    unfold Program.keyLits
    rw [hu]
    simp only [hc, hci, List.length_cons, List.length_nil]
    simp [List.range, List.range.loop, h1 a ha, h1 b hb]
  unfold keyOf
  rw [hu]
  simp only [hk, Value.formed, hu, hc]
  refine ⟨.string (keyBytes [.int .i64 a, .int .i64 b]), ?_⟩
  simp only [Value.cells, h2]
  rfl

theorem keysIn_dem {ks : List Demand} (hk : ∀ x ∈ ks, (0 ≤ x.src ∧ x.src ≤ 1073741824) ∧ (0 ≤ x.dst ∧ x.dst ≤ 1073741824)) : keysIn Tryz.prog 111 (ks.map dKey) := by
  refine ⟨_, KLaw.wide (deep_law_gate laid_here (by decide +kernel) (by decide +kernel) (by kernel_rfl) (by kernel_rfl)), fun a ha => ?_⟩
  obtain ⟨x, hx, rfl⟩ := List.mem_map.1 ha
  have := hk x hx
  exact ⟨_, rfl, key_two (it := 3) (by kernel_rfl) (by kernel_rfl) (by kernel_rfl) (by kernel_rfl) (by kernel_rfl) (by decide +kernel) (wf_small this.1.1 this.1.2) (wf_small this.2.1 this.2.2)⟩

theorem p_repDemand (l : List Demand) (hl : l.length ≤ 9223372036854775807) (hk : ∀ x ∈ l, (0 ≤ x.src ∧ x.src ≤ 1073741824) ∧ (0 ≤ x.dst ∧ x.dst ≤ 1073741824)) (g : FuncId) (hg : ∀ x, PCall Tryz.prog g [.agg (Demand.c x)] (dKey x)) :
    PCall Tryz.prog 63 [.sl none (lDemand l), .fn (.func g) [] []] (.bool (repB dKey l)) := by
  refine PCall.of h63 mixed h63_d Tryz.func63 rfl call63 (by simp [Tryz.f63]) (by simp [pureL, AV.pure, go_sem]) rfl ?_
  simp only [Tryz.f63, go_sem, ↓reduceIte]
  refine awp_lst l (fun (_ : Unit) r => repGo dKey l (l.length - r.length) r) (fun k _ => distL dKey (l.take k)) (fun k _ => [(1, .fn (.func g) [] []), (5, .mapr 0), (9, .sl none (lDemand l)), (10, .int .i64 l.length), (11, .int .i64 k)]) (fun k _ => [some (mapc (setE dKey (l.take k)))]) () hl trivial rfl rfl ?_ ?_
  · intro k _ x xs hd hx hI hF h0 h1 hw
    have hk2 := drop_len hd
    have e1 : l.length - (xs.length + 1) = k := by omega
    have e2 : l.length - xs.length = k + 1 := by omega
    simp only [List.length_cons, e1, Nat.sub_self, repGo] at hF
    simp only [go_sem, ↓reduceIte, h0, h1, lDemand_get hx]
    repeat' (first
      | ((first | refine ACallK.ofP (hg _) ?_); simp only [go_sem, ↓reduceIte, h0, h1, hw, lDemand_get hx])
      | ((first | refine condK_split _ _ _ (fun hc => ?_) (fun hc => ?_) | refine gsel_split _ _ _ _ (fun hc => ?_) (fun hc => ?_)) <;> simp only [go_sem, ↓reduceIte, hc, Bool.not_true, Bool.not_false, h0, h1, hw, lDemand_get hx]))
    have hkeys : keysIn Tryz.prog 111 (dKey x :: (l.take k).map dKey) := by
      have := keysIn_dem (ks := x :: l.take k) fun y hy => by
        rcases List.mem_cons.1 hy with rfl | hy
        · exact hk _ (List.mem_of_getElem? hx)
        · exact hk _ (List.mem_of_mem_take hy)
      simpa using this
    have hb : bndL 1 (mapc (setE dKey (l.take k ++ [x]))) = true := bnd_setE fun _ => rfl
    refine lkpK_set (kt := 111) (et := 4) dKey (l.take k) (dKey x) ?_ ?_ rfl hkeys hI ?_
    · first | simp only [go_sem] | kernel_rfl
    · first | simp only [go_sem] | kernel_rfl
    simp only [go_sem, ↓reduceIte]
    repeat' (first
      | ((first | refine ACallK.ofP (hg _) ?_); simp only [go_sem, ↓reduceIte, h0, h1, hw, lDemand_get hx])
      | ((first | refine condK_split _ _ _ (fun hc => ?_) (fun hc => ?_) | refine gsel_split _ _ _ _ (fun hc => ?_) (fun hc => ?_)) <;> simp only [go_sem, ↓reduceIte, hc, Bool.not_true, Bool.not_false, h0, h1, hw, lDemand_get hx]))
    · rw [repB, hF, hc, Bool.true_or]
    · refine updK_set (kt := 111) (et := 4) dKey (l.take k) x ?_ rfl hkeys hI hc ?_
      · first | simp only [go_sem] | kernel_rfl
      simp only [go_sem, ↓reduceIte, hw, hb]
      exact ⟨(), by rw [e1, e2, repGo, hc, Bool.false_or], by rw [take_snoc hx]; exact distL_snoc _ _ hI hc, rfl, by rw [take_snoc hx]⟩
  · intro _ _ hF
    simp only [go_sem, ↓reduceIte, Int.lt_irrefl, decide_false]
    rw [Nat.sub_self] at hF
    rw [repB, hF]; rfl

end Go.AI

namespace Go.AI
open Go.Proofs
set_option maxRecDepth 50000

def setB (s : Setup) : Bool := fewN s.network 20 40 20 && (ckNet s.network == 0 && ckF s.fields == 0)

theorem c_setup (s : Setup) (hs : bulkL s.c ≤ 1073741824) : PCall Tryz.prog 10 [.agg s.c] (.bool (setB s)) := by
  refine PCall.of h10 mixed h10_d Tryz.func10 rfl call10 (by simp [Tryz.f10]) (by simp [pureL, AV.pure, go_sem]) rfl ?_
  simp only [Tryz.f10, go_sem, ↓reduceIte]
  repeat' (first
    | ((first | refine PCallK.intro (c_fewN _ _ _ _) ?_ | refine PCallK.intro (c_ckNet _ (Setup.bs_network hs)) ?_ | refine PCallK.intro (c_ckF _ (Setup.bl_fields hs)) ?_); simp only [go_sem, ↓reduceIte])
    | ((first | refine condK_split _ _ _ (fun hc => ?_) (fun hc => ?_) | refine gsel_split _ _ _ _ (fun hc => ?_) (fun hc => ?_)) <;> simp only [go_sem, ↓reduceIte, hc, Bool.not_true, Bool.not_false]))
  all_goals first
    | rfl
    | (simp only [setB]; rfl)
    | grind [setB]
    | (simp only [setB]; grind)
    | (simp [setB, *]; done)
    | (simp_all [setB]; done)
    | skip

/-- What is asked of the program's Check: on right networks and fields it is the specification's. -/
theorem c_law3 (hsan : PCall Tryz.prog 9 [] (.bool true)) (s : Setup) (t : Tenant) (hs : bulkL s.c ≤ 1073741824) (hb : bulkL t.c ≤ 1073741824)
    (hck : setB s = true → PCall Tryz.prog 12 [.agg s.c, .agg t.c] (.int .i64 (ck18 s t))) : PCall Tryz.prog 3 [.agg s.c, .agg t.c] (.bool true) := by
  refine PCall.of h3 mixed h3_d Tryz.func3 rfl call3 (by simp [Tryz.f3]) (by simp [pureL, AV.pure, go_sem]) rfl ?_
  cases hb2 : setB s with
  | false =>
    simp only [Tryz.f3, go_sem, ↓reduceIte]
    repeat' (first
      | ((first | refine PCallK.intro (hsan) ?_ | refine PCallK.intro (c_setup _ hs) ?_); simp only [go_sem, ↓reduceIte, hb2])
      | ((first | refine condK_split _ _ _ (fun hc => ?_) (fun hc => ?_) | refine gsel_split _ _ _ _ (fun hc => ?_) (fun hc => ?_)) <;> simp only [go_sem, ↓reduceIte, hc, Bool.not_true, Bool.not_false, hb2]))
    all_goals first | rfl | exact absurd hc (by decide) | skip
  | true =>
    have hf : ckF s.fields = 0 := by simp only [setB, Bool.and_eq_true, beq_iff_eq] at hb2; exact hb2.2.2
    have hl : okF s.fields := fun f hf2 => Int.le_trans (ckF_width hf f hf2) (by decide)
    have hk := hck hb2
    simp only [Tryz.f3, go_sem, ↓reduceIte]
    repeat' (first
      | ((first | refine PCallK.intro (hsan) ?_ | refine PCallK.intro (c_setup _ hs) ?_ | refine PCallK.intro (c_fewT _) ?_ | refine PCallK.intro (hk) ?_ | refine PCallK.intro (c_ck18 _ _ hl hs hb) ?_); simp only [go_sem, ↓reduceIte, hb2])
      | ((first | refine condK_split _ _ _ (fun hc => ?_) (fun hc => ?_) | refine gsel_split _ _ _ _ (fun hc => ?_) (fun hc => ?_)) <;> simp only [go_sem, ↓reduceIte, hc, Bool.not_true, Bool.not_false, hb2]))
    all_goals first | rfl | exact absurd hc (by decide) | (simp; done) | skip

end Go.AI

namespace Go.AI
open Go.Proofs
set_option maxRecDepth 50000

theorem ckF_pos {l : List Fld} (h : ckF l = 0) : ∀ f ∈ l, 0 ≤ f.width ∧ f.width ≤ 16 := by
  have : ∀ (r : List Fld) (i : Nat), ckFGo l i r = 0 → ∀ f ∈ r, 0 ≤ f.width ∧ f.width ≤ 16 := by
    intro r
    induction r with
    | nil => intro i _ f hf; cases hf
    | cons x r ih =>
      intro i h f hf
      rw [ckFGo] at h
      split at h
      · cases h
      split at h
      · cases h
      split at h
      · cases h
      split at h
      · cases h
      rename_i hp _
      rcases List.mem_cons.1 hf with rfl | hf
      · simp only [placeB, Bool.not_eq_true', Bool.and_eq_false_iff, not_or, Bool.not_eq_false, decide_eq_true_eq] at hp
        omega
      · exact ih _ h f hf
  unfold ckF at h
  split at h
  · cases h
  · exact this l 0 h

theorem repDem_okAll (t : Tenant) : okAll (pdm t) qdm t.demands = (t.demands.all (pdm t) && !(repB dKey t.demands)) :=
  repGo_okGo (pdm t) qdm dKey (fun x y => by rw [Bool.eq_iff_iff]; simp [keyEq, keyEqL, keyEq1, qdm]) t.demands 0 t.demands

theorem pdm_src {t : Tenant} {d : Demand} (h : pdm t d = true) (hl : t.ports.length ≤ 1073741824) : (0 ≤ d.src ∧ d.src ≤ 1073741824) ∧ (0 ≤ d.dst ∧ d.dst ≤ 1073741824) := by
  unfold pdm outerB isPortB at h
  simp only [Bool.and_eq_true, decide_eq_true_eq] at h
  omega

/-- With right ports, to be outer is to have an edge that is not negative. -/
theorem outer_edge {s : Setup} {t : Tenant} (h : ckPo s t = 0) (n : Int) : decide (0 ≤ edgeOf t n) = outerB t n := by
  have hpeg : okAll (peg s.network.edges.length) qeg t.ports = true := by
    unfold ckPo at h
    split at h
    · cases h
    split at h
    · cases h
    split at h
    · cases h
    · rename_i hne; simpa using hne
  unfold outerB edgeOf
  by_cases hp : isPortB t n = true
  · rw [if_pos hp, hp, Bool.true_and]
    have hp2 := hp
    simp only [isPortB, Bool.and_eq_true, decide_eq_true_eq] at hp2
    obtain ⟨x, hx⟩ : ∃ x, t.ports[n.toNat]? = some x := ⟨_, List.getElem?_eq_getElem (by omega)⟩
    have he : edgeAt t n = x.edge := by simp [edgeAt, hx]
    have := (okAll_spec hpeg n.toNat x hx).1
    simp only [peg, Bool.and_eq_true, decide_eq_true_eq] at this
    rw [he, Bool.eq_iff_iff]
    simp
    omega
  · have hp2 : isPortB t n = false := by simpa using hp
    rw [if_neg hp, hp2]; rfl

set_option maxHeartbeats 4000000 in
theorem p_vCheck (s : Setup) (t : Tenant) (hs : bulkL s.c ≤ 1073741824) (hb : bulkL t.c ≤ 1073741824) (hset : setB s = true) : PCall Tryz.prog 12 [.agg s.c, .agg t.c] (.int .i64 (ck18 s t)) := by
  have hfl : s.fields.length ≤ 1073741824 := lFld_bn (Setup.bl_fields hs)
  have hsn := Setup.bs_network hs
  have hel : s.network.edges.length ≤ 1073741824 := lEdge_bn (Network.bl_edges hsn)
  have hnl : s.network.nodes.length ≤ 1073741824 := lNode_bn (Network.bl_nodes hsn)
  have hok : ∀ f ∈ s.fields, 0 ≤ f.width ∧ f.width ≤ 16 := by
    have hf : ckF s.fields = 0 := by simp only [setB, Bool.and_eq_true, beq_iff_eq] at hset; exact hset.2.2
    exact ckF_pos hf
  have hpl := lPort_bn (Tenant.bl_ports hb)
  have hrl := lRoute_bn (Tenant.bl_routes hb)
  have hdl := lDemand_bn (Tenant.bl_demands hb)
  by_cases hlim : 64 < t.ports.length ∨ 64 < t.wires.length ∨ 16 < t.routes.length ∨ 64 < t.demands.length
  · have hL : ck18 s t = 2 := by unfold ck18; rw [if_pos hlim]
    rw [hL]
    refine PCall.of h12 mixed h12_d Tryz.func12 rfl call12 (by simp [Tryz.f12]) (by simp [pureL, AV.pure, go_sem]) rfl ?_
    simp only [Tryz.f12, go_sem, ↓reduceIte]
    repeat' (first
      | ((first | refine condK_split _ _ _ (fun hc => ?_) (fun hc => ?_) | refine gsel_split _ _ _ _ (fun hc => ?_) (fun hc => ?_)) <;> simp only [go_sem, ↓reduceIte, hc, Bool.not_true, Bool.not_false]))
    all_goals first
      | rfl
      | (exfalso; simp only [decide_eq_false_iff_not] at *; omega)
  · have hL : ck18 s t = if ckPo s t ≠ 0 then ckPo s t else if ckPr s t ≠ 0 then ckPr s t else if rouGo s t.routes ≠ 0 then rouGo s t.routes else if okAll (pdm t) qdm t.demands = false then 1 else 0 := by
      unfold ck18; rw [if_neg hlim]
    have l1 : decide ((64 : Int) < t.ports.length) = false := by simp; omega
    have l2 : decide ((64 : Int) < t.wires.length) = false := by simp; omega
    have l3 : decide ((16 : Int) < t.routes.length) = false := by simp; omega
    have l4 : decide ((64 : Int) < t.demands.length) = false := by simp; omega
    refine PCall.of h12 mixed h12_d Tryz.func12 rfl call12 (by simp [Tryz.f12]) (by simp [pureL, AV.pure, go_sem]) rfl ?_
    simp only [Tryz.f12, go_sem, ↓reduceIte, l1, l2, l3, l4]
    repeat' (first
      | ((first | refine PCallK.intro (p_checkPorts s t hb hel) ?_ | refine PCallK.intro (p_checkProgram s t (by omega) hok hb) ?_); simp only [go_sem, ↓reduceIte])
      | ((first | refine condK_split _ _ _ (fun hc => ?_) (fun hc => ?_) | refine gsel_split _ _ _ _ (fun hc => ?_) (fun hc => ?_)) <;> simp only [go_sem, ↓reduceIte, hc, Bool.not_true, Bool.not_false]))
    · rw [hL, if_pos (by simpa using hc)]
    · have n1 : ckPo s t = 0 := by
        have h9 : (ckPo s t != 0) = false := by assumption
        simpa using h9
      rw [hL, if_neg (by simp [n1]), if_pos (by simpa using hc)]
    · have n1 : ckPo s t = 0 := by
        have h9 : (ckPo s t != 0) = false := by assumption
        simpa using h9
      have n2 : ckPr s t = 0 := by simpa using hc
      have hT : ck18 s t = if rouGo s t.routes ≠ 0 then rouGo s t.routes else if okAll (pdm t) qdm t.demands = false then 1 else 0 := by rw [hL, if_neg (by simp [n1]), if_neg (by simp [n2])]
      refine awp_lst t.routes (fun (_ : Unit) r => rouGo s r) (fun k _ => True) (fun k _ => [(2, .ptr 0 0), (3, .ptr 1 0), (48, .sl none (lRoute t.routes)), (49, .int .i64 t.routes.length), (50, .int .i64 k)]) (fun k _ => [some s.c, some t.c]) () (by omega) trivial rfl rfl ?_ ?_
      · intro k _ x xs hd hx hI hF h0 h1 hw
        have hxm := List.mem_of_getElem? hx
        have hbx : bulkL x.c ≤ 1073741824 := by have := lRoute_bk (Tenant.bl_routes hb) hxm; simpa only [AV.bulk] using this
        have hbp := Route.bs_pred hbx
        have hbr := Route.bs_path hbx
        have har : x.path.args.length ≤ 9223372036854775807 := Nat.le_trans (lRegex_bn (Regex.bl_args hbr)) (by decide)
        simp only [go_sem, ↓reduceIte, h0, h1, hw, lRoute_get hx]
        repeat' (first
          | ((first | refine PCallK.intro (p_tPred s.fields (by omega) hok x.pred hbp) ?_ | refine PCallK.intro (p_CheckRegex x.path hbr) ?_ | refine PCallK.intro (p_known s.network (by omega) x.path ⟨har, hbr⟩) ?_); simp only [go_sem, ↓reduceIte, h0, h1, hw, lRoute_get hx])
          | ((first | refine condK_split _ _ _ (fun hc => ?_) (fun hc => ?_) | refine gsel_split _ _ _ _ (fun hc => ?_) (fun hc => ?_)) <;> simp only [go_sem, ↓reduceIte, hc, Bool.not_true, Bool.not_false, h0, h1, hw, lRoute_get hx]))
        · have hne : ckTP s.fields x.pred ≠ 0 := by simpa using hc
          have he : rouE s x = ckTP s.fields x.pred := by unfold rouE; rw [if_pos hne]
          rw [hT, hF, rouGo, he, if_neg hne, if_pos hne]
        · have h9 : ckTP s.fields x.pred = 0 := by
            have h9 : (ckTP s.fields x.pred != 0) = false := by assumption
            simpa using h9
          have hne : ckR x.path ≠ 0 := by simpa using hc
          have he : rouE s x = ckR x.path := by unfold rouE; rw [if_neg (by simp [h9]), if_pos hne]
          rw [hT, hF, rouGo, he, if_neg hne, if_pos hne]
        · have h9 : ckTP s.fields x.pred = 0 := by
            have h9 : (ckTP s.fields x.pred != 0) = false := by assumption
            simpa using h9
          have h8 : ckR x.path = 0 := by
            have h8 : (ckR x.path != 0) = false := by assumption
            simpa using h8
          have he : rouE s x = 4 := by unfold rouE; rw [if_neg (by simp [h9]), if_neg (by simp [h8]), if_pos (by simpa using hc)]
          rw [hT, hF, rouGo, he, if_neg (show ¬ (4 : Int) = 0 by decide), if_pos (show (4 : Int) ≠ 0 by decide)]
        · have h9 : ckTP s.fields x.pred = 0 := by
            have h9 : (ckTP s.fields x.pred != 0) = false := by assumption
            simpa using h9
          have h8 : ckR x.path = 0 := by
            have h8 : (ckR x.path != 0) = false := by assumption
            simpa using h8
          have he : rouE s x = 0 := by unfold rouE; rw [if_neg (by simp [h9]), if_neg (by simp [h8]), if_neg (by simpa using hc)]
          exact ⟨(), by rw [rouGo, if_pos he]⟩
      · intro _ _ hF
        have hF0 : rouGo s t.routes = 0 := hF
        simp only [go_sem, ↓reduceIte, Int.lt_irrefl, decide_false]
        have hT2 : ck18 s t = if okAll (pdm t) qdm t.demands = false then 1 else 0 := by rw [hT, if_neg (by simp [hF0])]
        refine awp_lst t.demands (fun (_ : Unit) r => r.all (pdm t)) (fun k _ => True) (fun k _ => [(3, .ptr 1 0), (76, .sl none (lDemand t.demands)), (77, .int .i64 t.demands.length), (78, .int .i64 k)]) (fun k _ => [some s.c, some t.c]) () (by omega) trivial rfl rfl ?_ ?_
        · intro k _ x xs hd hx hI hG h0 h1 hw
          have e1 := outer_edge n1 x.src
          have e2 := outer_edge n1 x.dst
          simp only [go_sem, ↓reduceIte, h0, h1, hw, lDemand_get hx]
          have hno : pdm t x = false → ck18 s t = 1 := fun h => by
            rw [hT2, repDem_okAll, List.all_eq_false.2 ⟨x, List.mem_of_getElem? hx, by simp [h]⟩]; rfl
          repeat' (first
            | ((first | refine PCallK.intro (p_outer t _) ?_ | refine PCallK.intro (c_within _ _ _) ?_); simp only [go_sem, ↓reduceIte, h0, h1, hw, lDemand_get hx, e1, e2])
            | ((first | refine condK_split _ _ _ (fun hc => ?_) (fun hc => ?_) | refine gsel_split _ _ _ _ (fun hc => ?_) (fun hc => ?_)) <;> simp only [go_sem, ↓reduceIte, hc, Bool.not_true, Bool.not_false, h0, h1, hw, lDemand_get hx, e1, e2]))
          all_goals clear hG hF e1 e2 hok hset
          all_goals first
            | (rw [hno (by clear hno; unfold pdm; simp_all; try omega)]; done)
            | exact ⟨(), by
                have hp : pdm t x = true := by
                  clear hno
                  unfold pdm
                  simp_all
                  try omega
                rw [List.all_cons, hp, Bool.true_and]⟩
            | skip
        · intro _ _ hG
          simp only [go_sem, ↓reduceIte, Int.lt_irrefl, decide_false]
          have hG : t.demands.all (pdm t) = true := by simpa using hG
          repeat' (first
            | ((first | refine PCallK.intro (p_repDemand t.demands (by omega) (fun x hx => pdm_src (List.all_eq_true.1 hG x hx) hpl) 64 p_cd1) ?_); simp only [go_sem, ↓reduceIte])
            | ((first | refine condK_split _ _ _ (fun hc => ?_) (fun hc => ?_) | refine gsel_split _ _ _ _ (fun hc => ?_) (fun hc => ?_)) <;> simp only [go_sem, ↓reduceIte, hc, Bool.not_true, Bool.not_false]))
          all_goals rw [hT2, repDem_okAll, hG, hc]; rfl

theorem c_law3F (hsan : PCall Tryz.prog 9 [] (.bool true)) (s : Setup) (t : Tenant) (hs : bulkL s.c ≤ 1073741824) (hb : bulkL t.c ≤ 1073741824) : PCall Tryz.prog 3 [.agg s.c, .agg t.c] (.bool true) :=
  c_law3 hsan s t hs hb fun h => p_vCheck s t hs hb h

end Go.AI
