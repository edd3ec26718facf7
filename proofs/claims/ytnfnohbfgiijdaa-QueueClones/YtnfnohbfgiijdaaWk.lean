/- Helpers of the walks: loops by their state after k rounds, numbers that do not wrap, lengths that memory can hold. -/
import Derived.Test.YtnfnohbfgiijdaaFa
import Derived.Test.YtnfnohbfgiijdaaAizg
set_option linter.unusedSimpArgs false
set_option linter.unusedVariables false
namespace Go.AI

theorem w64 {n : Int} (h1 : -9223372036854775808 ≤ n) (h2 : n ≤ 9223372036854775807) : IntKind.i64.wrap n = n := IntWalk.i64_in _ ⟨h1, h2⟩

theorem w64s {k : Nat} (h : k < 9223372036854775807) : IntKind.i64.wrap ((k : Int) + 1) = ((k + 1 : Nat) : Int) := by
  rw [w64 (by omega) (by omega)]; rfl

section
variable {P : Program} {m : Nat} {h : Hint} {e : Env} {H : Heap} {Q : Exit → Kt} {ops : Array Oper}

theorem arun_mono' : ∀ (l : List Oper) (K K' : Env → Heap → Prop) (e : Env) (H : Heap), (∀ e H, K e H → K' e H) → arun P m h ops l K e H → arun P m h ops l K' e H
  | [], K, K', e, H, hk, ha => hk e H ha
  | o :: l, K, K', e, H, hk, ha => aop_mono (fun e H => arun_mono' l K K' e H hk) ha

theorem awp_mono : ∀ (c : Code) (Q Q' : Exit → Kt) (e : Env) (H : Heap), (∀ ex e H, Q ex e H → Q' ex e H) → awp P m h c Q e H → awp P m h c Q' e H
  | .skip, Q, Q', e, H, hq, ha => hq _ _ _ ha
  | .exit id, Q, Q', e, H, hq, ha => hq _ _ _ ha
  | .ret, Q, Q', e, H, hq, ha => hq _ _ _ ha
  | .region id ops draw, Q, Q', e, H, hq, ha => arun_mono' _ _ _ _ _ (fun _ _ h => hq _ _ _ h) ha
  | .seq a b, Q, Q', e, H, hq, ha => awp_mono a _ _ e H (fun ex e H h => by
      cases ex with
      | normal => exact awp_mono b Q Q' e H hq h
      | _ => exact hq _ _ _ h) ha
  | .cond c a b, Q, Q', e, H, hq, ha => by
    simp only [awp] at ha ⊢
    split at ha
    · rename_i t ht
      cases t with
      | true => exact awp_mono a Q Q' e H hq ha
      | false => exact awp_mono b Q Q' e H hq ha
    · exact ha.elim
  | .block id c, Q, Q', e, H, hq, ha => awp_mono c _ _ e H (fun ex e H h => by
      cases ex with
      | exit j =>
        dsimp only at h ⊢
        split at h
        · rename_i hj; rw [if_pos hj]; exact hq _ _ _ h
        · rename_i hj; rw [if_neg hj]; exact hq _ _ _ h
      | _ => exact hq _ _ _ h) ha
  | .loop c, Q, Q', e, H, hq, ha => by
    obtain ⟨I, μ, h0, hr⟩ := ha
    exact ⟨I, μ, h0, fun e H hi => awp_mono c _ _ e H (fun ex e H h => by
      cases ex with
      | normal => exact h
      | _ => exact hq _ _ _ h) (hr e H hi)⟩
  | .rangeFunc _ _ _ _, _, _, _, _, _, ha => ha.elim
  | .scope _, _, _, _, _, _, ha => ha.elim
  | .label _, _, _, _, _, _, ha => ha.elim
  | .goto _, _, _, _, _, _, ha => ha.elim
  | .refuse _, _, _, _, _, _, ha => ha.elim

def relK (J : Nat → Kt) (r : Nat) (Q : Exit → Kt) (ex : Exit) : Kt := fun e H =>
  match ex with
  | .normal => ∃ r', r' < r ∧ J r' e H
  | ex => Q ex e H

theorem awp_loop_rel {c : Code} (J : Nat → Kt) (h0 : ∃ r, J r e H) (round : ∀ r e H, J r e H → awp P m h c (relK J r Q) e H) : awp P m h (.loop c) Q e H := by
  have hl : ∀ (e : Env) (H : Heap), ∃ r, (∃ r, J r e H) → J r e H ∧ ∀ k, J k e H → r ≤ k := fun e H => by
    by_cases he : ∃ r, J r e H
    · obtain ⟨r, h1, h2⟩ := exists_least he
      exact ⟨r, fun _ => ⟨h1, h2⟩⟩
    · exact ⟨0, fun h => absurd h he⟩
  refine ⟨fun e H => ∃ r, J r e H, fun e H => Classical.choose (hl e H), h0, fun e H hI => ?_⟩
  obtain ⟨h1, h2⟩ := Classical.choose_spec (hl e H) hI
  refine awp_mono c _ _ e H (fun ex e' H' hq => ?_) (round _ e H h1)
  cases ex with
  | normal =>
    obtain ⟨r', hr, hJ⟩ := hq
    refine ⟨⟨r', hJ⟩, ?_⟩
    obtain ⟨_, h4⟩ := Classical.choose_spec (hl e' H') ⟨r', hJ⟩
    exact Nat.lt_of_le_of_lt (h4 r' hJ) hr
  | _ => exact hq

/-- Two states are the same. (A name for it, so that no rewriting looks into it.) -/
def At (e e' : Env) (H H' : Heap) : Prop := e = e' ∧ H = H'

def forK (n : Nat) (E : Nat → Env) (HH : Nat → Heap) (k : Nat) (Q : Exit → Kt) (ex : Exit) : Kt := fun e H =>
  match ex with
  | .normal => k < n ∧ At e (E (k + 1)) H (HH (k + 1))
  | ex => Q ex e H

@[go_sem] theorem forK_normal (n : Nat) (E : Nat → Env) (HH : Nat → Heap) (k : Nat) : forK n E HH k Q .normal e H = (k < n ∧ At e (E (k + 1)) H (HH (k + 1))) := rfl
@[go_sem] theorem forK_ret (n : Nat) (E : Nat → Env) (HH : Nat → Heap) (k : Nat) : forK n E HH k Q .ret = Q .ret := rfl
@[go_sem] theorem forK_exit (n : Nat) (E : Nat → Env) (HH : Nat → Heap) (k j : Nat) : forK n E HH k Q (.exit j) = Q (.exit j) := rfl

/-- A loop of at most n rounds, its frame and its objects known after each. -/
theorem awp_for {c : Code} (n : Nat) (E : Nat → Env) (HH : Nat → Heap) (he : e = E 0) (hH : H = HH 0) (round : ∀ k, k ≤ n → awp P m h c (forK n E HH k Q) (E k) (HH k)) : awp P m h (.loop c) Q e H := by
  subst he; subst hH
  refine awp_loop_rel (fun r e H => ∃ k, k + r = n ∧ e = E k ∧ H = HH k) ⟨n, 0, by omega, rfl, rfl⟩ fun r e H hJ => ?_
  obtain ⟨k, hk, rfl, rfl⟩ := hJ
  refine awp_mono c _ _ _ _ (fun ex e H hq => ?_) (round k (by omega))
  cases ex with
  | normal =>
    obtain ⟨h1, rfl, rfl⟩ := hq
    exact ⟨r - 1, by omega, k + 1, by omega, rfl, rfl⟩
  | _ => exact hq

def whK {σ : Type} (E : σ → Env) (HH : σ → Heap) (I : σ → Prop) (μ : σ → Nat) (s : σ) (Q : Exit → Kt) (ex : Exit) : Kt := fun e H =>
  match ex with
  | .normal => ∃ s', I s' ∧ μ s' < μ s ∧ At e (E s') H (HH s')
  | ex => Q ex e H

section
variable {σ : Type}
@[go_sem] theorem whK_normal (E : σ → Env) (HH : σ → Heap) (I : σ → Prop) (μ : σ → Nat) (s : σ) : whK E HH I μ s Q .normal e H = ∃ s', I s' ∧ μ s' < μ s ∧ At e (E s') H (HH s') := rfl
@[go_sem] theorem whK_ret (E : σ → Env) (HH : σ → Heap) (I : σ → Prop) (μ : σ → Nat) (s : σ) : whK E HH I μ s Q .ret = Q .ret := rfl
@[go_sem] theorem whK_exit (E : σ → Env) (HH : σ → Heap) (I : σ → Prop) (μ : σ → Nat) (s : σ) (j : Nat) : whK E HH I μ s Q (.exit j) = Q (.exit j) := rfl

/-- A loop whose state is s at the head of a round. -/
theorem awp_wh {c : Code} (E : σ → Env) (HH : σ → Heap) (I : σ → Prop) (μ : σ → Nat) (s : σ) (h0 : I s) (he : e = E s) (hH : H = HH s) (round : ∀ s, I s → awp P m h c (whK E HH I μ s Q) (E s) (HH s)) : awp P m h (.loop c) Q e H := by
  subst he; subst hH
  refine awp_loop_rel (fun r e H => ∃ s, I s ∧ μ s = r ∧ e = E s ∧ H = HH s) ⟨μ s, s, h0, rfl, rfl, rfl⟩ fun r e H hJ => ?_
  obtain ⟨s, hs, rfl, rfl, rfl⟩ := hJ
  refine awp_mono c _ _ _ _ (fun ex e H hq => ?_) (round s hs)
  cases ex with
  | normal =>
    obtain ⟨s', h1, h2, rfl, rfl⟩ := hq
    exact ⟨μ s', h2, s', h1, rfl, rfl, rfl⟩
  | _ => exact hq
end
end

section
variable {P : Program} {t : TypeId} {a b : AV} {r : Bool} {d : Tmp} {K : Kt} {e : Env} {H : Heap}
theorem binK_eqlA (ha : aeql P t a b = some r) : binK P .eql t a b d K e H = K ((d, .bool r) :: e) H := by simp [binK, abinop, ha]
theorem binK_neqA (ha : aeql P t a b = some r) : binK P .neq t a b d K e H = K ((d, .bool !r) :: e) H := by simp [binK, abinop, ha]
end

/-! ## Lengths -/

mutual
/-- Every list is short enough for a slice. -/
def AV.fit : AV → Prop
  | .sl _ es => es.length ≤ 9223372036854775807 ∧ fitL es
  | .agg cs => fitL cs
  | .tup vs => fitL vs
  | _ => True
def fitL : List AV → Prop
  | [] => True
  | v :: vs => v.fit ∧ fitL vs
end

theorem fitL_iff {vs : List AV} : fitL vs ↔ ∀ v ∈ vs, v.fit := by
  induction vs with
  | nil => simp [fitL]
  | cons x xs ih => simp [fitL, ih]

theorem fit_of_cells {a : AV} (h : ∀ c ∈ a.cells, c.fit) : a.fit := by
  cases a with
  | agg cs => exact fitL_iff.2 h
  | _ => exact h _ (by simp [AV.cells])

theorem VRel.fit {G : Gh} {w : World} {a : AV} {v : Value} (h : VRel G w a v) : a.fit := by
  induction h with
  | sl own es sz b q cap u hsz hown hl hm h hu ih =>
    refine ⟨Nat.le_trans hl hm, fitL_iff.2 fun x hx => fit_of_cells fun c hc => ?_⟩
    have : c ∈ cat es := List.mem_flatMap.2 ⟨x, hx, hc⟩
    obtain ⟨i, hi⟩ := List.getElem?_of_mem this
    exact ih i c hi
  | slnil own => exact ⟨by simp, trivial⟩
  | slany own a => exact ⟨by simp, trivial⟩
  | agg cs vs hl hs h ih =>
    refine fitL_iff.2 fun c hc => ?_
    obtain ⟨i, hi⟩ := List.getElem?_of_mem hc
    have hlt := (List.getElem?_eq_some_iff.1 hi).1
    exact ih i c _ hi (Array.getElem?_eq_getElem (by omega))
  | tup cs vs hl hs h ih =>
    refine fitL_iff.2 fun c hc => ?_
    obtain ⟨i, hi⟩ := List.getElem?_of_mem hc
    have hlt := (List.getElem?_eq_some_iff.1 hi).1
    exact ih i c _ hi (Array.getElem?_eq_getElem (by omega))
  | _ => exact trivial

def fitH (H : Heap) : Prop := ∀ (o : Nat) (cs : List AV), H[o]? = some (some cs) → fitL cs

theorem CRel.fit {F : Nat → Prop} {G : Gh} {w : World} {vs : List AV} {H : Heap} {us : List Value} (h : CRel F G vs H us w) : fitL vs ∧ fitH H := by
  refine ⟨fitL_iff.2 fun a ha => ?_, fun o cs ho => fitL_iff.2 fun c hc => ?_⟩
  · obtain ⟨i, hi⟩ := List.getElem?_of_mem ha
    have hlt := (List.getElem?_eq_some_iff.1 hi).1
    have := h.l.len
    exact (h.l.rel i a _ hi (List.getElem?_eq_getElem (by omega))).fit
  · have hlt := (List.getElem?_eq_some_iff.1 ho).1
    have := h.h.len
    obtain ⟨_, _, C, E, _, hl, hC⟩ := h.h.obj o cs _ ho (List.getElem?_eq_getElem (by omega))
    obtain ⟨i, hi⟩ := List.getElem?_of_mem hc
    have hlt := (List.getElem?_eq_some_iff.1 hi).1
    exact (hC i c _ hi (Array.getElem?_eq_getElem (by omega))).2.1.fit

/-- Lists among the arguments are short enough. -/
theorem ACall.fit {P : Program} {f : FuncId} {vs : List AV} {H : Heap} {R : AV → Heap → Prop} (hcal : callable P f = true) (h : fitL vs → fitH H → ACall P f vs H R) : ACall P f vs H R :=
  ⟨hcal, fun F G w us hc => (h hc.fit.1 hc.fit.2).2 F G w us hc⟩

theorem PCall.fit {P : Program} {f : FuncId} {vs : List AV} {v : AV} (hcal : callable P f = true) (h : fitL vs → PCall P f vs v) : PCall P f vs v := fun H =>
  ⟨hcal, fun F G w us hc => (h hc.fit.1 H).2 F G w us hc⟩

theorem QCall.fit {P : Program} {f : FuncId} {vs : List AV} {Q : AV → Prop} (hcal : callable P f = true) (h : fitL vs → QCall P f vs Q) : QCall P f vs Q := fun H =>
  ⟨hcal, fun F G w us hc => (h hc.fit.1 H).2 F G w us hc⟩

/-! ## Reading data -/

section
variable {P : Program} {t e : TypeId} {a : AV}

theorem Rd.int_of {k : IntKind} (hu : P.underlying t = some (.int k)) (h : Rd P t a) : ∃ n, a = .int k n ∧ (k.min ≤ n ∧ n ≤ k.max) := by
  cases h with
  | int h hw => rw [hu] at h; cases h; exact ⟨_, rfl, hw⟩
  | bool b h => rw [hu] at h; cases h
  | str h => rw [hu] at h; cases h
  | slice h => rw [hu] at h; cases h
  | struct h => rw [hu] at h; cases h
  | array h => rw [hu] at h; cases h

theorem Rd.bool_of (hu : P.underlying t = some .bool) (h : Rd P t a) : ∃ b, a = .bool b ∧ True := by
  cases h with
  | int h hw => rw [hu] at h; cases h
  | bool b h => exact ⟨_, rfl, trivial⟩
  | str h => rw [hu] at h; cases h
  | slice h => rw [hu] at h; cases h
  | struct h => rw [hu] at h; cases h
  | array h => rw [hu] at h; cases h

theorem Rd.str_of (hu : P.underlying t = some .string) (h : Rd P t a) : ∃ s, a = .str s ∧ s.size ≤ reachBytes := by
  cases h with
  | int h hw => rw [hu] at h; cases h
  | bool b h => rw [hu] at h; cases h
  | str h hs => exact ⟨_, rfl, hs⟩
  | slice h => rw [hu] at h; cases h
  | struct h => rw [hu] at h; cases h
  | array h => rw [hu] at h; cases h

theorem Rd.list {α : Type} {f : α → AV} {ok : α → Prop} (hu : P.underlying t = some (.slice e)) (hd : ∀ x, Rd P e x → ∃ y, x = f y ∧ ok y) (h : Rd P t a) :
    ∃ l : List α, a = .sl none (l.map f) ∧ l.length * P.bytesOf e ≤ reachBytes ∧ ∀ x ∈ l, ok x := by
  cases h with
  | slice h hl hb he =>
    rw [hu] at h; cases h
    rename_i es
    have : ∃ l : List α, es = l.map f ∧ ∀ x ∈ l, ok x := by
      clear hl hb
      induction es with
      | nil => exact ⟨[], rfl, fun x hx => by simp at hx⟩
      | cons x xs ih =>
        obtain ⟨y, rfl, hy⟩ := hd x (he x (by simp))
        obtain ⟨l, rfl, hl⟩ := ih fun x hx => he x (by simp [hx])
        exact ⟨y :: l, rfl, fun z hz => by
          rcases List.mem_cons.1 hz with rfl | hz
          · exact hy
          · exact hl z hz⟩
    obtain ⟨l, rfl, hok⟩ := this
    exact ⟨l, rfl, by simpa using hb, hok⟩
  | int h hw => rw [hu] at h; cases h
  | bool b h => rw [hu] at h; cases h
  | str h => rw [hu] at h; cases h
  | struct h => rw [hu] at h; cases h
  | array h => rw [hu] at h; cases h

/-- The types of the parts of a struct or an array. -/
def styps (P : Program) (t : TypeId) : Option (List TypeId) :=
  match P.underlying t with
  | some (.struct fs) => some (fs.toList.map (·.type))
  | some (.array n e) => some (List.replicate n e)
  | _ => none

theorem rdAll_get {ts : List TypeId} {ps : List AV} (hl : ps.length = ts.length) (h : ∀ (i : Nat) (t : TypeId) (x : AV), ts[i]? = some t → ps[i]? = some x → Rd P t x) : RdAll P ts ps := by
  induction ts generalizing ps with
  | nil => cases ps with
    | nil => trivial
    | cons => simp at hl
  | cons t ts ih => cases ps with
    | nil => simp at hl
    | cons p ps => exact ⟨h 0 t p rfl rfl, ih (by simpa using hl) fun i t x h1 h2 => h (i + 1) t x (by simpa using h1) (by simpa using h2)⟩

theorem Rd.unpack {ts : List TypeId} (hs : styps P t = some ts) (h : Rd P t a) : ∃ ps, a = .agg (cat ps) ∧ RdAll P ts ps := by
  unfold styps at hs
  cases h with
  | struct h hl hp =>
    rw [h] at hs; cases hs
    refine ⟨_, rfl, rdAll_get (by simpa using hl) fun i t x h1 h2 => ?_⟩
    rw [List.getElem?_map] at h1
    rename_i fs _
    cases hf : fs.toList[i]? with
    | none => rw [hf] at h1; cases h1
    | some f => rw [hf] at h1; cases h1; exact hp i f x (by simpa using hf) h2
  | array h hl hp =>
    rw [h] at hs; cases hs
    refine ⟨_, rfl, rdAll_get (by simpa using hl) fun i t x h1 h2 => ?_⟩
    have := List.eq_of_mem_replicate (List.mem_of_getElem? h1)
    subst this
    exact hp x (List.mem_of_getElem? h2)
  | int h hw => rw [h] at hs; cases hs
  | bool b h => rw [h] at hs; cases hs
  | str h => rw [h] at hs; cases hs
  | slice h => rw [h] at hs; cases hs
end

end Go.AI
