/- All operations together: what 'ares' says, the model does. -/
import Derived.Test.YtdgagjhjpffeaaaGreatDoorAiRe
set_option linter.unusedSimpArgs false
set_option linter.unusedVariables false
namespace Go.AI
section
variable {P : Program} {F : Nat -> Prop} {G : Gh} {w : World} {H : Heap} {R : AV -> Heap -> Prop}
theorem map_borrow_LRel {first : List AV} {fi : List Value} (hl : first.length = fi.length) (h : ∀ (i : Nat) (c : AV) (v : Value), first[i]? = some c -> fi[i]? = some v -> VRel G w c v) : LRel F G (first.map AV.borrow) fi w /\ ∀ b, tcnt b (first.map AV.borrow) fi = 0 := by
 refine ⟨⟨by simpa using hl, fun i a u h1 h2 => ?_, fun i a u h1 h2 => ?_⟩, fun b => ?_⟩
 ·rw [List.getElem?_map] at h1
  cases hc : first[i]? with
  | none => rw [hc] at h1; cases h1
  | some c => rw [hc] at h1; cases h1; exact (h i c u hc h2).borrow
 ·rw [List.getElem?_map] at h1
  cases hc : first[i]? with
  | none => rw [hc] at h1; cases h1
  | some c => rw [hc] at h1; cases h1; exact tok_nil_all (toks_borrow c u) F G w
 ·clear h
  induction first generalizing fi with
  | nil => simp [tcnt]
  | cons c cs ih =>
   match fi, hl with
   | u :: us, hl => rw [List.map_cons, tcnt_cons, toks_borrow, ih (by simpa using hl)]; simp
theorem ok_call {f : FuncId} {first captured args : List AV} {fv : Value} {uargs : Array Value} (hc : CRel F G (.fn (.func f) first captured :: args) H (fv :: uargs.toList) w)
  (hcall : ACall P f (first.map AV.borrow ++ args ++ captured.map AV.borrow) H R) :
  OpRes P ((do let d <- Deferred.ofValue fv uargs; invoke d.target d.args : Sem Next).run P w) (KOut F G w R) := by
 have hx := hc.l.rel 0 _ _ rfl rfl
 obtain ⟨_, _, hargs⟩ := hc.l.uncons
 cases hx with
 | fn _ _ _ fi ca h1 h2 h3 h4 =>
  obtain ⟨hcallable, hcall⟩ := hcall
  obtain ⟨l1, t1⟩ := map_borrow_LRel (F := F) (G := G) (w := w) (first := first) (fi := fi.toList) (by simpa using h1) (fun i c v a b => h3 i c v a (by simpa using b))
  obtain ⟨l2, t2⟩ := map_borrow_LRel (F := F) (G := G) (w := w) (first := captured) (fi := ca.toList) (by simpa using h2) (fun i c v a b => h4 i c v a (by simpa using b))
  have hcr : CRel F G (first.map AV.borrow ++ args ++ captured.map AV.borrow) H (fi.toList ++ uargs.toList ++ ca.toList) w := by
   refine ⟨(l1.append hargs).append l2, hc.h, fun b => ?_⟩
   rw [tcnt_append _ _ _ _ _ (l1.append hargs).len, tcnt_append _ _ _ _ _ l1.len, t1, t2]
   have := hc.cnt b
   rw [tcnt_cons] at this
   omega
  have hC := hcall F G w _ hcr
  have e : (do let d <- Deferred.ofValue (.func (.func f) fi ca) uargs; invoke d.target d.args : Sem Next).run P w = .ok (.enter f (fi ++ uargs ++ ca)) w := by
   unfold callable at hcallable
   split at hcallable
   ·rename_i fn hfn
    simp only [Bool.and_eq_true, Bool.not_eq_true', beq_eq_false_iff_ne, ne_eq] at hcallable
    obtain ⟨g1, g2⟩ := hcallable
    have g3 : fn.body.isNone = false := by cases hb : fn.body <;> simp_all
    simp only [Deferred.ofValue, Sem.run_bind, Sem.run_pure, Result.andThen_ok, invoke, callFunc, run_program, hfn, Sem.run_ite, beq_eq_false_iff_ne.2 g1, g3, Bool.false_eq_true, if_false]
   ·cases hcallable
  rw [e]
  have e2 : (fi.toList ++ uargs.toList ++ ca.toList).toArray = fi ++ uargs ++ ca := by
   apply Array.ext'
   simp
  rw [e2] at hC
  refine hC.mono fun en w'' hen => ?_
  obtain ⟨u, rfl, v, H', G', hr, g1, g2⟩ := hen
  exact ⟨u, rfl, v, H', G', hr, g1, g2⟩
theorem CRel.rest {v : AV} {L : List AV} {u : Value} {tm : List Value} (hc : CRel F G (v :: L) H (u :: tm) w) : CRel F G L H tm w :=
 ⟨hc.l.uncons.2.2, hc.h, fun b => by have := hc.cnt b; rw [tcnt_cons] at this; omega⟩
theorem ok_yield {o : Nat} {L : LoopRec} {args : List AV} {fv : Value} {uargs : Array Value} (hc : CRel F G (.yld o L :: args) H (fv :: uargs.toList) w) (hcall : YCall P o L args H R) :
  OpRes P ((do let d <- Deferred.ofValue fv uargs; invoke d.target d.args : Sem Next).run P w) (KOut F G w R) := by
 have hx := hc.l.rel 0 _ _ rfl rfl
 cases hx with
 | yld _ b _ h hb hk =>
  obtain ⟨r, h1, h2, h3⟩ := hcall F G w _ b hc.rest h hk
  have hs : uargs.size = r.params.size := by simpa using h2
  have e : (do let d <- Deferred.ofValue (.func (.yield b) #[] #[]) uargs; invoke d.target d.args : Sem Next).run P w = .ok (.round b r.fn ((r.params.zip uargs).foldl (fun tmps (t, a) => tmps.setIfInBounds t a) r.tmps) r.assign r.body) w := by
   simp only [Deferred.ofValue, Sem.run_bind, Sem.run_pure, Result.andThen_ok, invoke, Array.empty_append]
   exact run_yield h1 hs
  rw [e]
  have e2 : uargs.toList.toArray = uargs := by simp
  rw [e2] at h3
  exact h3
theorem optB_of {lo hi mx : Option Operand} {ρ : Operand -> Value} {rest : List AV} {l h m : Option Int} (hb : bounds3 lo.isSome hi.isSome mx.isSome rest = some (l, h, m))
  (hl : LRel F G rest ((lo.toArray ++ hi.toArray ++ mx.toArray).toList.map ρ) w) :
  OptB (lo.map ρ) l /\ OptB (hi.map ρ) h /\ OptB (mx.map ρ) m /\ (m.isSome = true -> h.isSome = true) := by
 have int : ∀ {k : IntKind} {i : Int} {u : Value}, VRel G w (.int k i) u -> u = .int k i := fun h => by cases h; rfl
 unfold bounds3 at hb
 split at hb <;> first | cases hb | skip
 all_goals
  rename_i e1 e2 e3
  cases lo <;> first | cases e1 | skip
  all_goals cases hi <;> first | cases e2 | skip
  all_goals cases mx <;> first | cases e3 | skip
  all_goals simp only [Option.toArray, Array.toList_append, List.map_append, List.map_cons, List.map_nil, List.nil_append, List.singleton_append, List.append_nil] at hl
  all_goals simp only [Option.map_none, Option.map_some]
 ·exact ⟨.none, .none, .none, by simp⟩
 ·have g1 := int (hl.rel 0 _ _ rfl rfl)
  rw [g1]; exact ⟨.some _ _, .none, .none, by simp⟩
 ·have g1 := int (hl.rel 0 _ _ rfl rfl)
  rw [g1]; exact ⟨.none, .some _ _, .none, by simp⟩
 ·have g1 := int (hl.rel 0 _ _ rfl rfl)
  have g2 := int (hl.rel 1 _ _ rfl rfl)
  rw [g1, g2]; exact ⟨.some _ _, .some _ _, .none, by simp⟩
 ·have g1 := int (hl.rel 0 _ _ rfl rfl)
  have g2 := int (hl.rel 1 _ _ rfl rfl)
  rw [g1, g2]; exact ⟨.none, .some _ _, .some _ _, by simp⟩
 ·have g1 := int (hl.rel 0 _ _ rfl rfl)
  have g2 := int (hl.rel 1 _ _ rfl rfl)
  have g3 := int (hl.rel 2 _ _ rfl rfl)
  rw [g1, g2, g3]; exact ⟨.some _ _, .some _ _, .some _ _, by simp⟩
theorem arr_one {us : Array Value} (h : us.toList.length = 1) : ∃ u, us = #[u] := by
 obtain ⟨l⟩ := us
 match l, h with
 | [u], _ => exact ⟨u, rfl⟩
theorem arr_two {us : Array Value} (h : us.toList.length = 2) : ∃ u v, us = #[u, v] := by
 obtain ⟨l⟩ := us
 match l, h with
 | [u, v], _ => exact ⟨u, v, rfl⟩
set_option maxHeartbeats 1000000 in
theorem crel_lend1 {v : AV} {u : Value} (h : CRel F G [v] H [u] w) : CRel F G [v.borrow] H [u] w := by
 obtain ⟨h1, h2, _⟩ := h.l.uncons
 refine ⟨.cons h1.borrow (tok_nil_all (toks_borrow _ _) F G w) (.nil F G w), h.h, fun b => ?_⟩
 rw [tcnt_cons, tcnt_nil, toks_borrow]
 have := h.cnt b
 simp only [List.count_nil]
 omega
theorem opRes_lend {r : Result Next} (h : OpRes P r (KOut F G w fun v H' => R v.borrow H')) : OpRes P r (KOut F G w R) := by
 have key : ∀ u w', KOut F G w (fun v H' => R v.borrow H') u w' -> KOut F G w R u w' := by
  rintro u w' ⟨v, H', G', hR, hc, he⟩
  exact ⟨v.borrow, H', G', hR, crel_lend1 hc, he⟩
 unfold OpRes at h ⊢
 cases r with
 | ok nx w' =>
  cases nx <;> simp only at h ⊢
  ·exact key _ _ h
  ·exact key _ _ h
  ·refine Calls.mono h fun e w'' he => ?_
   obtain ⟨u, rfl, hk⟩ := he
   exact ⟨u, rfl, key _ _ hk⟩
  ·refine RoundIn.mono h fun e w'' he => ?_
   obtain ⟨u, rfl, hk⟩ := he
   exact ⟨u, rfl, key _ _ hk⟩
 | halt x w' => exact h
theorem ares_ok (h : Hint) (o : Oper) (ρ : Operand -> Value) (hρ : ∀ v, ρ (.const v) = v) (vals : List AV) (hc : CRel F G vals H (o.op.operands.toList.map ρ) w) (hr : ares P h o vals H R) :
  OpRes P ((execOp ρ o).run P w) (KOut F G w R) := by
 unfold ares at hr
 split at hr <;> rename_i heq <;> simp only [heq, Op.operands] at hc <;> simp only [execOp, heq]
 ·exact .value rfl (KOut.same hc hr)
 ·exact .value rfl (KOut.same hc hr)
 ·exact ok_pick hc hr
 ·exact ok_box hc hr.1 hr.2
 ·obtain ⟨z, hz, hr⟩ := hr
  exact ok_alloc hc hz hr
 · -- build
  rename_i t ps
  rw [show (Array.map (fun x : Nat × Operand => (x.1, ρ x.2)) ps) = (ps.toList.map fun p => (p.1, ρ p.2)).toArray by apply Array.ext'; simp]
  rw [show ((ps.toList.map (·.2)).toArray.toList.map ρ) = ps.toList.map fun p => ρ p.2 by simp] at hc
  split at hr
  ·rename_i fs hu
   obtain ⟨z, cs, h1, h2, h3, h4⟩ := hr
   exact ok_build_struct hc hu h1 h2 h3 h4
  ·rename_i n e hu
   obtain ⟨z, cs, h1, h2, h3, h4⟩ := hr
   exact ok_build_array hc hu h1 h2 h3 h4
  ·exact hr.elim
 ·rename_i t len ps
  rw [show (Array.map (fun x : Nat × Operand => (x.1, ρ x.2)) ps) = (ps.toList.map fun p => (p.1, ρ p.2)).toArray by apply Array.ext'; simp]
  rw [show ((ps.toList.map (·.2)).toArray.toList.map ρ) = ps.toList.map fun p => ρ p.2 by simp] at hc
  split at hr
  ·rename_i e hu
   obtain ⟨h1, h2, h3, h4, h5, h6⟩ := hr
   split at h6
   ·exact ok_buildSlice_mut hc hu h1 h2 h3 h4 h5 h6
   ·exact ok_buildSlice hc hu h1 h2 h3 h4 h5 h6
  ·exact hr.elim
 ·split at hr
  ·rename_i e hu
   obtain ⟨h1, h2, h3, h4, h5, z, h6, h7, h8, h9⟩ := hr
   exact ok_makeSlice hc hu h1 h2 h3 h4 h5 h6 h7 h8 h9
  ·exact hr.elim
 · -- load from an object
  split at hr
  ·rename_i cs ho
   split at hr
   ·rename_i v hl
    split at hr
    ·exact ok_load_ptr hc ho hl (.inr hr.2.2)
    ·exact ok_load_ptr hc ho hl (.inl hr)
   ·exact hr.elim
  ·exact hr.elim
 ·split at hr
  ·rename_i v hl
   exact ok_load_cptr hc hl hr
  ·exact hr.elim
 ·split at hr
  ·rename_i cs ho
   obtain ⟨h1, h2, h3, h4, h5⟩ := hr
   exact ok_store hc ho h1 h2 h3 h4 h5
  ·exact hr.elim
 ·obtain ⟨a, ha, hk⟩ := ok_nilCheck_ptr hc hr
  rw [ha] at hk ⊢
  exact .value rfl hk
 ·obtain ⟨a, ha, hk⟩ := ok_nilCheck_cptr hc hr
  rw [ha] at hk ⊢
  exact .value rfl hk
 ·rename_i x f a b
  simp only [List.map_cons, List.map_nil] at hc
  have hx := hc.l.rel 0 _ _ rfl rfl
  generalize ρ x = fx at hx hc ⊢
  cases hx
  exact .value rfl (KOut.same hc hr)
 ·rename_i x o' L
  simp only [List.map_cons, List.map_nil] at hc
  have hx := hc.l.rel 0 _ _ rfl rfl
  generalize ρ x = fx at hx hc ⊢
  cases hx
  exact .value rfl (KOut.same hc hr)
 ·split at hr
  ·rename_i y _ _ _ hy
   refine ok_nilcmp hc ?_ hr
   unfold nilSide at hy
   split at hy
   ·exact hρ _
   ·cases hy
  ·exact ok_binOp hc hr
 ·split at hr
  ·exact ok_unOp_neg hc hr
  ·exact ok_unOp_not hc hr
  ·exact hr.elim
 ·split at hr
  ·exact ok_convert_int hc ‹_› ‹_› hr
  ·exact ok_convert_str hc ‹_› ‹_› hr
  ·exact ok_convert_bytes hc ‹_› ‹_› hr.1 hr.2.1 hr.2.2
  ·exact hr.elim
 ·rename_i fn first captured
  have := ok_makeFunc (P := P) (fn := fn) (first := first.toList) (captured := captured.toList) (ρ := ρ) (R := R) (by simpa using hc) (by simpa using hr)
  rw [show (first.toList.map ρ).toArray = first.map ρ by apply Array.ext'; simp, show (captured.toList.map ρ).toArray = captured.map ρ by apply Array.ext'; simp] at this
  exact this
 ·rename_i t x lo hi mx a rest
  simp only [Array.toList_append, List.map_append, List.map_cons, List.map_nil, List.singleton_append, List.cons_append, List.nil_append] at hc
  split at hr
  ·rename_i l hh m hb
   obtain ⟨hx, htx, hrest⟩ := hc.l.uncons
   obtain ⟨o1, o2, o3, o4⟩ := optB_of (ρ := ρ) hb (by simpa using hrest)
   unfold aslice at hr
   split at hr
   ·rename_i s hu
    obtain ⟨h1, h2, h3, h4, h5⟩ := hr
    subst h1
    have : mx.map ρ = none := by cases o3' : mx.map ρ with
     | none => rfl
     | some z => rw [o3'] at o3; cases o3
    exact ok_slice_str hc hu o1 o2 this h2 h3 h4 h5
   ·rename_i e own es hu
    obtain ⟨h1, h2, h3, h4, hz, h5⟩ := hr
    refine ok_slice_sl hc hu o1 o2 o3 o4 h1 h2 h3 h4 ?_ ?_
    ·cases m with
     | none => exact h5
     | some mm => exact h5
    ·cases hi : P.info? e with
     | none => rw [hi] at hz; cases hz
     | some i => exact ⟨i, rfl⟩
   ·rename_i ta cs off hu
    obtain ⟨rfl, rfl, rfl, hr⟩ := hr
    have nn : ∀ {x : Option Value}, OptB x none -> x = none := fun {x} h => by
     cases x with
     | none => rfl
     | some z => cases h
    split at hr
    ·rename_i n e ha
     obtain ⟨g1, g2, g3, g4⟩ := hr
     rw [nn o1, nn o2, nn o3]
     exact ok_slice_carr hc hu ha g1 g2 g3 g4
    ·exact hr.elim
   ·rename_i n e cs off hu
    obtain ⟨⟨rfl, rfl, rfl⟩, g1, g2, g3, g4⟩ := hr
    have nn : ∀ {x : Option Value}, OptB x none -> x = none := fun {x} h => by
     cases x with
     | none => rfl
     | some z => cases h
    rw [nn o1, nn o2, nn o3]
    exact ok_slice_carr2 hc hu g1 g2 g3 g4
   ·exact hr.elim
  ·exact hr.elim
 · -- fieldAddr
  split at hr
  ·rename_i fs hu
   split at hr
   ·rename_i fd hf
    exact ok_fieldAddr hc hu hf hr.1 hr.2
   ·exact hr.elim
  ·exact hr.elim
 ·split at hr
  ·rename_i fs hu
   split at hr
   ·rename_i fd hf
    split at hr
    ·rename_i v hl
     exact ok_field hc hu hf hl hr
    ·exact hr.elim
   ·exact hr.elim
  ·exact hr.elim
 ·obtain ⟨v, hv, hr⟩ := hr
  exact ok_extract hc hv hr
 · -- indexAddr
  split at hr
  ·rename_i e own es hu
   obtain ⟨h0, v, h1, h2, h3, h4⟩ := hr
   exact ok_indexAddr_sl hc hu h0 h1 h2 h3 h4
  ·rename_i e ob off len sz hu
   obtain ⟨h0, h1, h2, h3, h4⟩ := hr
   exact ok_indexAddr_msl hc hu h0 h1 h2 h3 h4
  ·rename_i n e ob off hu
   obtain ⟨h0, h1, h2, h3⟩ := hr
   exact ok_indexAddr_arr hc hu h0 h1 h2 h3
  ·rename_i n e cs off hu
   obtain ⟨h0, h1, h2, h3⟩ := hr
   exact ok_indexAddr_arr hc hu h0 h1 h2 h3
  ·exact hr.elim
 ·split at hr
  ·rename_i s hu
   obtain ⟨h0, h1, h2⟩ := hr
   exact ok_index_str hc hu h0 h1 h2
  ·rename_i n e cs hu
   obtain ⟨h0, h1, h2, v, h3, h4⟩ := hr
   exact ok_index_agg hc hu h0 h1 h2 h3 h4
  ·exact hr.elim
 ·simp only [Option.toArray_none, List.map_nil] at hc
  exact ok_makeMap hc hr
 ·obtain ⟨hu, hr⟩ := hr
  split at hu
  ·rename_i kt et hu'
   simp only [Option.toArray_some, List.map_cons, List.map_nil] at hc
   exact ok_makeMap_hint hc hu' hr
  ·cases hu
 ·simp only [List.map_cons, List.map_nil] at hc
  split at hr
  ·rename_i kt et hu
   split at hr
   ·rename_i es he
    obtain ⟨g1, g2, z, g3, g4⟩ := hr
    exact ok_lookup hc hu he g1 g2 g3 g4
   ·exact hr.elim
  ·exact hr.elim
 ·simp only [List.map_cons, List.map_nil] at hc
  split at hr
  ·rename_i kt et hu
   split at hr
   ·rename_i es he
    obtain ⟨g1, g2, g3, g4⟩ := hr
    exact ok_mapUpdate hc hu he g1 g2 g3 g4
   ·exact hr.elim
  ·exact hr.elim
 ·simp only [List.map_cons, List.map_nil] at hc
  exact ok_range hc hr
 ·simp only [List.map_cons, List.map_nil] at hc
  exact ok_next hc hr
 ·simp only [List.map_cons, List.map_nil] at hc
  exact ok_entry hc hr
 · -- calls
  rename_i c
  obtain ⟨callee, args, argTypes⟩ := c
  cases callee with
  | invoke r m => exact hr.elim
  | value fo =>
   simp only at hr
   split at hr
   ·simp only [Call.operands] at hc
    split at hr
    ·split at hr
     ·obtain ⟨v, hcall, hr⟩ := hr
      have := ok_call (P := P) (fv := ρ fo) (uargs := args.map ρ) (R := R) (by simpa using hc) ((hcall H rfl).mono fun v' H' hq => by obtain ⟨rfl, rfl⟩ := hq; exact hr)
      simpa [resolve] using this
     ·obtain ⟨v, hcall, hr⟩ := hr
      have := ok_call (P := P) (fv := ρ fo) (uargs := args.map ρ) (R := R) (by simpa using hc) ((hcall H).mono fun v' H' hq => by obtain ⟨rfl, rfl⟩ := hq; exact hr)
      simpa [resolve] using this
    ·split at hr
     ·obtain ⟨v, ext, hcall, hr⟩ := hr
      have := ok_call (P := P) (fv := ρ fo) (uargs := args.map ρ) (R := R) (by simpa using hc) (hcall.mono fun v2 H2 hq => by obtain ⟨rfl, rfl⟩ := hq; exact hr)
      simpa [resolve] using this
     ·have hcall := hr
      have := ok_call (P := P) (fv := ρ fo) (uargs := args.map ρ) (R := R) (by simpa using hc) hcall
      simpa [resolve] using this
   ·simp only [Call.operands] at hc
    have := ok_yield (P := P) (fv := ρ fo) (uargs := args.map ρ) (R := R) (by simpa using hc) hr.2
    simpa [resolve] using this
   ·exact hr.elim
  | builtin b =>
   simp only [Call.operands] at hc
   have e0 : ∀ (as : Array Operand), List.map ρ ((#[] : Array Operand) ++ as).toList = (as.map ρ).toList := by intro as; simp
   cases b <;> simp only at hr <;> first | exact hr.elim | skip
   case append =>
    split at hr
    ·rename_i a b t t' hat
     obtain ⟨rfl, hr⟩ := hr
     split at hr
     ·rename_i e hu
      obtain ⟨h1, h3, hr⟩ := hr
      have hat' : argTypes = #[t, t] := by rw [<- Array.toArray_toList (xs := argTypes), hat]
      subst hat'
      obtain ⟨u, v, huv⟩ := arr_two (us := args.map ρ) (by have := hc.l.len; simp at this; simp; omega)
      rw [e0, huv] at hc
      simp only [resolve, huv, Sem.run_bind, Sem.run_pure, Result.andThen_ok, invoke, builtin]
      split at hr
      ·rename_i xs hs
       obtain ⟨h2, hr⟩ := hr
       have hsrc := src_ok hc hs h2
       split at hr
       ·obtain ⟨rfl, h4, h5, h6⟩ := hr
        cases hln : o.dst.any h.pc.contains
        ·rw [hln] at h6
         simpa only [Sem.run_bind, Sem.run_pure] using ok_append (ty := o.type) hc hsrc hu h1 h2 h3 h4 h5 h6
        ·rw [hln] at h6
         have h7 := ok_append (ty := o.type) (R := fun v H' => R v.borrow H') hc hsrc hu h1 h2 h3 h4 h5 h6
         have h8 := opRes_lend h7
         simpa only [Sem.run_bind, Sem.run_pure] using h8
       ·obtain ⟨rfl, rfl, h4, h5, h6, h7, h8⟩ := hr
        simpa only [Sem.run_bind, Sem.run_pure] using ok_append_row (ty := o.type) hc hsrc h5 hu h1 h4 h2 h3 h6 h7 h8
       ·exact hr.elim
      ·exact hr.elim
     ·exact hr.elim
    ·exact hr.elim
   case len =>
    split at hr
    ·rename_i x
     obtain ⟨u, hu1⟩ := arr_one (us := args.map ρ) (by have := hc.l.len; simp at this; simp; omega)
     rw [e0, hu1] at hc
     simp only [resolve, hu1, Sem.run_bind, Sem.run_pure, Result.andThen_ok, invoke, builtin]
     split at hr
     ·rename_i e own es hb
      obtain ⟨t, h1, h2⟩ := Option.bind_eq_some_iff.1 hb
      simpa only [Sem.run_bind, Sem.run_pure] using ok_len_sl (ty := o.type) hc h1 h2 hr
     ·rename_i e ob off len sz hb
      obtain ⟨t, h1, h2⟩ := Option.bind_eq_some_iff.1 hb
      simpa only [Sem.run_bind, Sem.run_pure] using ok_len_msl (ty := o.type) hc h1 h2 hr
     ·rename_i s hb
      obtain ⟨t, h1, h2⟩ := Option.bind_eq_some_iff.1 hb
      simpa only [Sem.run_bind, Sem.run_pure] using ok_len_str (ty := o.type) hc h1 h2 hr
     ·rename_i n e hb
      obtain ⟨t, h1, h2⟩ := Option.bind_eq_some_iff.1 hb
      simpa only [Sem.run_bind, Sem.run_pure] using ok_len_arr (ty := o.type) hc h1 h2 hr
     ·exact hr.elim
    ·exact hr.elim
   case max =>
    split at hr
    ·obtain ⟨rfl, hr⟩ := hr
     obtain ⟨u, v, huv⟩ := arr_two (us := args.map ρ) (by have := hc.l.len; simp at this; simp; omega)
     rw [e0, huv] at hc
     simp only [resolve, huv, Sem.run_bind, Sem.run_pure, Result.andThen_ok, invoke, builtin]
     simpa only [Sem.run_bind, Sem.run_pure] using ok_max (P := P) (ts := argTypes) (ty := o.type) hc hr
    ·exact hr.elim
   case min =>
    split at hr
    ·obtain ⟨rfl, hr⟩ := hr
     obtain ⟨u, v, huv⟩ := arr_two (us := args.map ρ) (by have := hc.l.len; simp at this; simp; omega)
     rw [e0, huv] at hc
     simp only [resolve, huv, Sem.run_bind, Sem.run_pure, Result.andThen_ok, invoke, builtin]
     simpa only [Sem.run_bind, Sem.run_pure] using ok_min (P := P) (ts := argTypes) (ty := o.type) hc hr
    ·exact hr.elim
 ·exact hr.elim
end
end Go.AI
