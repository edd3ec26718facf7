/- Operations that may be done in either order; a region whose order is left open. -/
import Derived.Test.YtdgagjhjpffeaaaGreatDoorAiU
set_option linter.unusedSimpArgs false
set_option linter.unusedVariables false
namespace Go.AI
def opTmps (xs : List Operand) : List Tmp := xs.filterMap fun | .tmp t => some t | _ => none
def takesT (h : Hint) (o : Oper) : List Tmp := if taking h o then opTmps o.op.operands.toList else []
def clsOk (a b : Nat) : Bool := (a <= 3 && b <= 3 && (a == 0 || b == 0 || (a <= 2 && b <= 2))) || (a == 0 && b == 5) || (a == 5 && b == 0)
def indep (h : Hint) (ops : Array Oper) (x y : Oper) : Bool :=
 x.apart ops y && (takesT h x).all (fun t => !(y.looksAt ops).contains t) && (takesT h y).all (fun t => !(x.looksAt ops).contains t) && (clsOk (cls h x) (cls h y) || (isLd h x && cls h y == 5))
def Resp (K : Env -> Heap -> Prop) : Prop := ∀ e e' H, (∀ t, look e t = look e' t) -> K e H -> K e' H
section
variable {P : Program} {n : Nat} {h : Hint} {ops : Array Oper}
theorem evo_congr {ty : Option TypeId} {x : Operand} {e e' : Env} (hx : ∀ t, x = .tmp t -> look e t = look e' t) : evo P ty e x = evo P ty e' x := by
 cases x <;> first | exact hx _ rfl | rfl
theorem ev1_look {ty : Option TypeId} {take : Bool} {x : Operand} {e : Env} {t : Tmp} (ht : take = true -> x ≠ .tmp t) : look (ev1 P ty take x e).2 t = look e t := by
 cases take with
 | false => rfl
 | true =>
  simp only [ev1]
  split
  ·rename_i t' _
   simp only [look]
   rw [if_neg (fun e => ht rfl (by rw [e]))]
  ·rfl
theorem ev1_congr {ty : Option TypeId} {take : Bool} {x : Operand} {e e' : Env} (hx : ∀ t, x = .tmp t -> look e t = look e' t) :
  (ev1 P ty take x e).1 = (ev1 P ty take x e').1 /\ ∀ t, look e t = look e' t -> look (ev1 P ty take x e).2 t = look (ev1 P ty take x e').2 t := by
 have he := evo_congr (P := P) (ty := ty) hx
 cases take with
 | false => exact ⟨by simp only [ev1, he], fun t ht => ht⟩
 | true =>
  refine ⟨by simp only [ev1, he], fun t ht => ?_⟩
  simp only [ev1, he]
  cases x with
  | tmp t' =>
   cases (evo P ty e' (.tmp t')).owned
   ·exact ht
   ·simp only [look]
    split
    ·rw [hx t' rfl]
    ·exact ht
  | _ => cases (evo P ty e' _).owned <;> exact ht
theorem evs_congr {ty : Option TypeId} {take : Bool} : ∀ (xs : List Operand) (e e' : Env), (∀ t ∈ opTmps xs, look e t = look e' t) ->
  (evs P ty take xs e).1 = (evs P ty take xs e').1 /\ ∀ t, look e t = look e' t -> look (evs P ty take xs e).2 t = look (evs P ty take xs e').2 t
 | [], e, e', _ => ⟨rfl, fun t ht => ht⟩
 | x :: xs, e, e', hx => by
  have h1 := ev1_congr (P := P) (ty := ty) (take := take) (x := x) (e := e) (e' := e') (fun t ht => hx t (by subst ht; simp [opTmps]))
  have h2 := evs_congr (ty := ty) (take := take) xs (ev1 P ty take x e).2 (ev1 P ty take x e').2 (fun t ht => h1.2 t (hx t (by
   cases x <;> simp [opTmps] at ht ⊢ <;> first | exact .inr ht | exact ht)))
  simp only [evs]
  exact ⟨by rw [h1.1, h2.1], fun t ht => h2.2 t (h1.2 t ht)⟩
theorem evs_look {ty : Option TypeId} {take : Bool} : ∀ (xs : List Operand) (e : Env) (t : Tmp), (take = true -> t ∉ opTmps xs) -> look (evs P ty take xs e).2 t = look e t
 | [], e, t, _ => rfl
 | x :: xs, e, t, ht => by
  simp only [evs]
  rw [evs_look xs _ t (fun h0 hm => ht h0 (by cases x <;> simp [opTmps] at hm ⊢ <;> first | exact .inr hm | exact hm)), ev1_look (fun h0 hx => ht h0 (by subst hx; simp [opTmps]))]
def upd (P : Program) (h : Hint) (ops : Array Oper) (o : Oper) (e : Env) (v : AV) : Env :=
 match agd ops e o with
 | some true => put o.dst v (evs P (opTy o) (taking h o) o.op.operands.toList e).2
 | _ => put o.dst v e
def Out (P : Program) (n : Nat) (h : Hint) (ops : Array Oper) (o : Oper) (e : Env) (H : Heap) (v : AV) (H' : Heap) : Prop :=
 match agd ops e o with
 | some true => dstOk n o.dst /\ Fact P h o (evs P (opTy o) (taking h o) o.op.operands.toList e).1 H v H'
 | some false => dstOk n o.dst /\ v = .tup [] /\ H' = H
 | none => False
theorem aop_out {o : Oper} {K : Env -> Heap -> Prop} {e : Env} {H : Heap} (hc4 : cls h o ≠ 4) (ha : aop P n h ops o K e H) : ∃ v H', Out P n h ops o e H v H' /\ K (upd P h ops o e v) H' := by
 unfold aop at ha
 split at ha
 ·rename_i hg
  obtain ⟨v, H', hK, hf⟩ := ares_fact hc4 ha.2
  refine ⟨v, H', ?_, ?_⟩
  ·unfold Out; rw [hg]; exact ⟨ha.1, hf⟩
  ·simp only [upd, hg]; exact hK
 ·rename_i hg
  refine ⟨.tup [], H, ?_, ?_⟩
  ·unfold Out; rw [hg]; exact ⟨ha.1, rfl, rfl⟩
  ·simp only [upd, hg]; exact ha.2
 ·exact ha.elim
theorem out_aop {o : Oper} {K : Env -> Heap -> Prop} {e : Env} {H H' : Heap} {v : AV} (ho : Out P n h ops o e H v H') (hK : K (upd P h ops o e v) H') : aop P n h ops o K e H := by
 unfold Out at ho
 unfold aop
 split at ho
 ·rename_i hg
  simp only [upd, hg] at hK
  rw [hg]
  exact ⟨ho.1, ho.2.again _ hK⟩
 ·rename_i hg
  simp only [upd, hg] at hK
  obtain ⟨h1, rfl, rfl⟩ := ho
  rw [hg]
  exact ⟨h1, hK⟩
 ·exact ho.elim
theorem agd_congr {o : Oper} {e e' : Env} (hx : ∀ t ∈ o.looksAt ops, look e t = look e' t) : agd ops e o = agd ops e' o := by
 unfold agd
 cases hg : o.guard with
 | none => rfl
 | some p =>
  obtain ⟨j, want⟩ := p
  simp only
  cases hd : (ops[j]?).bind (·.dst) with
  | none => rfl
  | some d =>
   simp only
   rw [hx d (by simp [Oper.looksAt, hg, hd])]
theorem opTmps_looks {o : Oper} {t : Tmp} (ht : t ∈ opTmps o.op.operands.toList) : t ∈ o.looksAt ops := by
 unfold Oper.looksAt
 exact List.mem_append_left _ ht
theorem Out.env {o : Oper} {e e' : Env} {H H' : Heap} {v : AV} (ho : Out P n h ops o e H v H') (hx : ∀ t ∈ o.looksAt ops, look e t = look e' t) : Out P n h ops o e' H v H' := by
 unfold Out at ho ⊢
 rw [<- agd_congr hx, <- (evs_congr (P := P) (ty := opTy o) (take := taking h o) o.op.operands.toList e e' fun t ht => hx t (opTmps_looks ht)).1]
 exact ho
theorem Out.heap0 {o : Oper} {e : Env} {H H' : Heap} {v : AV} (ho : Out P n h ops o e H v H') (hc : cls h o = 0) : H' = H /\ ∀ H2, Out P n h ops o e H2 v H2 := by
 unfold Out at ho ⊢
 split at ho
 ·obtain ⟨h1, h2⟩ := ho.2.c0 hc
  refine ⟨h1, fun H2 => ⟨ho.1, Fact.pure hc fun H3 R' hr => h2 H3 R' hr⟩⟩
 ·exact ⟨ho.2.2, fun H2 => ⟨ho.1, ho.2.1, rfl⟩⟩
 ·exact ho.elim
theorem Out.heap1 {o : Oper} {e : Env} {H H' : Heap} {v : AV} (ho : Out P n h ops o e H v H') (hc : cls h o = 1) : H' = H /\ ∀ H2, hview H2 = hview H -> Out P n h ops o e H2 v H2 := by
 unfold Out at ho ⊢
 split at ho
 ·obtain ⟨h1, h2⟩ := ho.2.c1 hc
  exact ⟨h1, fun H2 hv => ⟨ho.1, fun R' hr => h2 H2 R' hv hr, fun e => by omega, fun _ => ⟨rfl, fun H3 R' hv3 hr => h2 H3 R' (hv3.trans hv) hr⟩, fun e => by omega, fun hl H3 R' hv3 hr => ho.2.ld hl H3 R' (by rw [<- hv]; exact hv3) hr, fun e => by omega⟩⟩
 ·exact ⟨ho.2.2, fun H2 _ => ⟨ho.1, ho.2.1, rfl⟩⟩
 ·exact ho.elim
theorem Out.ld {o : Oper} {e : Env} {H H' : Heap} {v : AV} (ho : Out P n h ops o e H v H') (hl : isLd h o = true) {H2 : Heap} (hv : ∃ ext, hview H2 = hview H ++ ext) : Out P n h ops o e H2 v H2 := by
 have hc := isLd_cls hl
 unfold Out at ho ⊢
 split at ho
 ·exact ⟨ho.1, fun R' hr => ho.2.ld hl H2 R' hv hr, fun e => by omega, fun _ => ⟨rfl, fun H3 R' hv3 hr => ho.2.ld hl H3 R' (by rw [hv3]; exact hv) hr⟩, fun e => by omega, fun _ H3 R' hv3 hr => ho.2.ld hl H3 R' (by
   obtain ⟨e1, h1⟩ := hv
   obtain ⟨e2, h2⟩ := hv3
   exact ⟨e1 ++ e2, by rw [h2, h1, List.append_assoc]⟩) hr, fun e => by omega⟩
 ·exact ⟨ho.1, ho.2.1, rfl⟩
 ·exact ho.elim
theorem Out.c5 {o : Oper} {e : Env} {H H' : Heap} {v : AV} (ho : Out P n h ops o e H v H') (hc : cls h o = 5) : ∃ ext, H' = H ++ ext := by
 unfold Out at ho
 split at ho
 ·exact ho.2.c5 hc
 ·exact ⟨[], by simp [ho.2.2]⟩
 ·exact ho.elim
theorem Out.heap2 {o : Oper} {e : Env} {H H' : Heap} {v : AV} (ho : Out P n h ops o e H v H') (hc : cls h o = 2) : hview H' = hview H := by
 unfold Out at ho
 split at ho
 ·exact (ho.2.c2 hc).1
 ·rw [ho.2.2]
 ·exact ho.elim
theorem Out.heap2' {o : Oper} {e : Env} {H H' : Heap} {v : AV} (ho : Out P n h ops o e H v H') (hc : cls h o = 2) : (H' = H /\ ∀ H2, Out P n h ops o e H2 v H2) \/
  ∃ (ob off : Nat) (cs : List AV), H[ob]? = some (some cs) /\ cs[off]? = some v /\ owned1 v = true /\ H' = H.set ob (some (cs.set off (borrow1 v))) /\
   ∀ (H2 : Heap) (cs2 : List AV), H2[ob]? = some (some cs2) -> cs2[off]? = some v -> Out P n h ops o e H2 v (H2.set ob (some (cs2.set off (borrow1 v)))) := by
 have hvs : ∀ {ob off : Nat} {H2 : Heap} {cs2 : List AV}, H2[ob]? = some (some cs2) -> cs2[off]? = some v -> hview (H2.set ob (some (cs2.set off (borrow1 v)))) = hview H2 := fun {ob off H2 cs2} h1 h2 => hview_set h1 (by
  apply List.ext_getElem?
  intro i
  simp only [List.getElem?_map, List.getElem?_set]
  split
  ·rename_i hi
   subst hi
   rw [if_pos (List.getElem?_eq_some_iff.1 h2).1, h2]
   simp [borrow1_idem]
  ·rfl)
 unfold Out at ho ⊢
 split at ho
 ·rcases (ho.2.c2 hc).2 with ⟨h1, h2⟩ | ⟨ob, off, cs, g1, g2, g3, g4, g5⟩
  ·exact .inl ⟨h1, fun H2 => ⟨ho.1, fun R' hr => h2 H2 R' hr, fun e => by omega, fun e => by omega, fun _ => ⟨rfl, .inl ⟨rfl, h2⟩⟩, fun hl => by have := isLd_cls hl; omega, fun e => by omega⟩⟩
  ·exact .inr ⟨ob, off, cs, g1, g2, g3, g4, fun H2 cs2 k1 k2 => ⟨ho.1, fun R' hr => g5 H2 cs2 R' k1 k2 hr, fun e => by omega, fun e => by omega, fun _ => ⟨hvs k1 k2, .inr ⟨ob, off, cs2, k1, k2, g3, rfl, g5⟩⟩, fun hl => by have := isLd_cls hl; omega, fun e => by omega⟩⟩
 ·exact .inl ⟨ho.2.2, fun H2 => ⟨ho.1, ho.2.1, rfl⟩⟩
 ·exact ho.elim
theorem owned_borrow1 (a : AV) : owned1 (borrow1 a) = false := by cases a <;> rfl
theorem Out.swap {x y : Oper} {e e' : Env} {H H1 H2 : Heap} {v u : AV} (hx : Out P n h ops x e H v H1) (hy : Out P n h ops y e' H1 u H2) (hc : clsOk (cls h x) (cls h y) = true \/ (isLd h x = true /\ cls h y = 5)) :
  ∃ H1', Out P n h ops y e' H u H1' /\ Out P n h ops x e H1' v H2 := by
 by_cases h0 : cls h x = 0
 ·obtain ⟨rfl, hx'⟩ := hx.heap0 h0
  exact ⟨H2, hy, hx' H2⟩
 by_cases h1 : cls h y = 0
 ·obtain ⟨rfl, hy'⟩ := hy.heap0 h1
  exact ⟨H, hy' H, hx⟩
 rcases hc with hc | ⟨hl, h5⟩
 case inr =>
  obtain ⟨rfl, _⟩ := hx.heap1 (isLd_cls hl)
  obtain ⟨ext, rfl⟩ := hy.c5 h5
  exact ⟨_, hy, hx.ld hl ⟨hview ext, by simp [hview]⟩⟩
 have hb : cls h x <= 2 /\ cls h y <= 2 := by
  simp [clsOk, h0, h1] at hc
  exact ⟨hc.2.1, hc.2.2⟩
 by_cases hx1 : cls h x = 1
 ·obtain ⟨rfl, hx'⟩ := hx.heap1 hx1
  have hv : hview H2 = hview H1 := by
   by_cases hy1 : cls h y = 1
   ·rw [(hy.heap1 hy1).1]
   ·exact hy.heap2 (by omega)
  exact ⟨H2, hy, hx' H2 hv⟩
 have hx2 : cls h x = 2 := by omega
 by_cases hy1 : cls h y = 1
 ·obtain ⟨rfl, hy'⟩ := hy.heap1 hy1
  exact ⟨H, hy' H (hx.heap2 hx2).symm, hx⟩
 have hy2 : cls h y = 2 := by omega
 rcases hx.heap2' hx2 with ⟨rfl, hx'⟩ | ⟨ob, off, cs, g1, g2, g3, rfl, g5⟩
 ·exact ⟨H2, hy, hx' H2⟩
 rcases hy.heap2' hy2 with ⟨rfl, hy'⟩ | ⟨ob', off', cs', k1, k2, k3, rfl, k5⟩
 ·exact ⟨H, hy' H, hx⟩
 have hlt := (List.getElem?_eq_some_iff.1 g1).1
 by_cases ho : ob' = ob
 ·subst ho
  rw [List.getElem?_set_self hlt] at k1
  cases k1
  have hne : off' ≠ off := by
   rintro rfl
   rw [List.getElem?_set_self (List.getElem?_eq_some_iff.1 g2).1] at k2
   cases k2
   rw [owned_borrow1] at k3; cases k3
  rw [List.getElem?_set_ne (Ne.symm hne)] at k2
  refine ⟨_, k5 H cs g1 k2, ?_⟩
  have := g5 (H.set ob' (some (cs.set off' (borrow1 u)))) (cs.set off' (borrow1 u)) (List.getElem?_set_self hlt) (by rw [List.getElem?_set_ne hne]; exact g2)
  rw [List.set_set] at this ⊢
  rw [List.set_comm _ _ hne] at this
  exact this
 ·rw [List.getElem?_set_ne (Ne.symm ho)] at k1
  refine ⟨_, k5 H cs' k1 k2, ?_⟩
  have := g5 (H.set ob' (some (cs'.set off' (borrow1 u)))) cs (by rw [List.getElem?_set_ne ho]; exact g1) g2
  rw [List.set_comm _ _ ho] at this
  exact this
theorem look_put (d : Option Tmp) (v : AV) (e : Env) (t : Tmp) : look (put d v e) t = if d = some t then v else look e t := by
 cases d with
 | none => simp [put]
 | some d => simp [put, look]
theorem upd_look {o : Oper} {e : Env} {v : AV} {t : Tmp} (h1 : o.dst ≠ some t) (h2 : t ∉ takesT h o) : look (upd P h ops o e v) t = look e t := by
 have hev : look (evs P (opTy o) (taking h o) o.op.operands.toList e).2 t = look e t := evs_look _ e t fun htk => by
  simpa [takesT, htk] using h2
 unfold upd
 split <;> rw [look_put, if_neg h1]
 exact hev
theorem upd_congr {o : Oper} {e e' : Env} {v : AV} (hx : ∀ t ∈ o.looksAt ops, look e t = look e' t) {t : Tmp} (ht : o.dst = some t \/ look e t = look e' t) : look (upd P h ops o e v) t = look (upd P h ops o e' v) t := by
 have hev := (evs_congr (P := P) (ty := opTy o) (take := taking h o) o.op.operands.toList e e' fun t ht => hx t (opTmps_looks ht)).2
 unfold upd
 rw [<- agd_congr hx]
 split <;> rw [look_put, look_put] <;> split
 ·rfl
 ·rcases ht with h1 | h1
  ·exact absurd h1 ‹_›
  ·exact hev t h1
 ·rfl
 ·rcases ht with h1 | h1
  ·exact absurd h1 ‹_›
  ·exact h1
theorem indep_spec {x y : Oper} (hi : indep h ops x y = true) : (∀ d, x.dst = some d -> d ∉ y.looksAt ops) /\ (∀ d, x.dst = some d -> y.dst ≠ some d) /\ (∀ d, y.dst = some d -> d ∉ x.looksAt ops) /\
  (∀ t ∈ takesT h x, t ∉ y.looksAt ops) /\ (∀ t ∈ takesT h y, t ∉ x.looksAt ops) /\ (clsOk (cls h x) (cls h y) = true \/ (isLd h x = true /\ cls h y = 5)) := by
 simp only [indep, Bool.and_eq_true] at hi
 obtain ⟨⟨⟨h1, h2⟩, h3⟩, h4⟩ := hi
 obtain ⟨g1, g2, g3⟩ := Oper.apart_spec h1
 exact ⟨g1, g2, g3, fun t ht => by simpa using List.all_eq_true.1 h2 t ht, fun t ht => by simpa using List.all_eq_true.1 h3 t ht, by simpa using h4⟩
theorem takesT_looks {o : Oper} {t : Tmp} (ht : t ∈ takesT h o) : t ∈ o.looksAt ops := by
 unfold takesT at ht
 split at ht
 ·exact opTmps_looks ht
 ·cases ht
theorem aop_swap {x y : Oper} {K : Env -> Heap -> Prop} {e : Env} {H : Heap} (hi : indep h ops x y = true) (hK : Resp K) (ha : aop P n h ops x (aop P n h ops y K) e H) : aop P n h ops y (aop P n h ops x K) e H := by
 obtain ⟨i1, i2, i3, i4, i5, i6⟩ := indep_spec hi
 have hx4 : cls h x ≠ 4 := by
  intro h4
  rcases i6 with i6 | i6
  ·rw [h4] at i6; simp [clsOk] at i6
  ·have := isLd_cls i6.1; omega
 have hy4 : cls h y ≠ 4 := by
  intro h4
  rcases i6 with i6 | i6
  ·rw [h4] at i6; simp [clsOk] at i6
  ·omega
 obtain ⟨v, H1, hx, hya⟩ := aop_out hx4 ha
 obtain ⟨u, H2, hy, hk⟩ := aop_out hy4 hya
 have hye : ∀ t ∈ y.looksAt ops, look (upd P h ops x e v) t = look e t := fun t ht => upd_look (fun hd => i1 t hd ht) (fun hm => i4 t hm ht)
 have hy' := hy.env hye
 obtain ⟨H1', hy2, hx2⟩ := hx.swap hy' i6
 have hxe : ∀ t ∈ x.looksAt ops, look e t = look (upd P h ops y e u) t := fun t ht => (upd_look (fun hd => i3 t hd ht) (fun hm => i5 t hm ht)).symm
 have hx3 := hx2.env hxe
 refine out_aop hy2 (out_aop hx3 (hK _ _ _ (fun t => ?_) hk))
 by_cases hyd : y.dst = some t
 · -- t is y's
  have hxd : x.dst ≠ some t := fun hd => i2 t hd hyd
  have hxt : t ∉ takesT h x := fun hm => i3 t hyd (takesT_looks hm)
  rw [upd_look (o := x) (e := upd P h ops y e u) hxd hxt]
  exact upd_congr hye (.inl hyd)
 ·by_cases hyt : t ∈ takesT h y
  ·have hxd : x.dst ≠ some t := fun hd => i1 t hd (takesT_looks hyt)
   have hxt : t ∉ takesT h x := fun hm => i4 t hm (takesT_looks hyt)
   rw [upd_look (o := x) (e := upd P h ops y e u) hxd hxt]
   exact upd_congr hye (.inr (upd_look hxd hxt))
  ·rw [upd_look (o := y) hyd hyt]
   refine upd_congr hxe ?_
   by_cases hxd : x.dst = some t
   ·exact .inl hxd
   ·exact .inr (upd_look hyd hyt).symm
theorem ares_mono {o : Oper} {vals : List AV} {H : Heap} {R R' : AV -> Heap -> Prop} (hk : ∀ v H', R v H' -> R' v H') (ha : ares P h o vals H R) : ares P h o vals H R' := by
 by_cases hc : cls h o = 4
 ·obtain ⟨dst, op, ty, pos, after, guard⟩ := o
  cases op with
  | call c =>
   obtain ⟨callee, args, ts⟩ := c
   cases callee with
   | value fo =>
    simp only [cls] at hc
    split at hc
    ·split at hc <;> omega
    ·rename_i hp
     split at hc
     ·omega
     ·rename_i hq
      simp only [Bool.not_eq_true] at hp hq
      unfold ares at ha ⊢
      simp only [hp, hq] at ha ⊢
      split at ha
      ·exact ha.mono hk
      ·exact ⟨ha.1, ha.2.mono hk⟩
      ·exact ha.elim
   | builtin b => cases b <;> simp only [cls] at hc <;> first | omega | (split at hc <;> omega)
   | invoke r m => simp [cls] at hc
  | load t a => simp only [cls] at hc; split at hc <;> omega
  | binOp op t x y t' =>
   simp only [cls] at hc
   split at hc
   ·rename_i hy
    unfold ares at ha ⊢
    cases vals with
    | nil => exact ha
    | cons a vs => cases vs with
     | nil => exact ha
     | cons b vs => cases vs with
      | nil =>
       simp only [hy] at ha ⊢
       unfold nilcmp at ha ⊢
       split at ha
       ·split at ha
        ·exact ⟨hk _ _ ha.1, hk _ _ ha.2⟩
        ·exact ⟨hk _ _ ha.1, hk _ _ ha.2⟩
        ·exact hk _ _ ha
        ·exact hk _ _ ha
        ·exact hk _ _ ha
        ·exact hk _ _ ha
        ·exact ha.elim
       ·exact ha.elim
      | cons c vs => exact ha
   ·omega
  | buildSlice t l ps => simp only [cls] at hc; split at hc <;> omega
  | range t x =>
   unfold ares at ha ⊢
   match vals, ha with
   | [a], ha =>
    simp only [arange] at ha ⊢
    split at ha
    ·exact hk _ _ ha
    ·exact hk _ _ ha
    ·split at ha
     ·exact hk _ _ ha
     ·exact ha.elim
    ·exact ha.elim
  | next x str =>
   unfold ares at ha ⊢
   match vals, ha with
   | [.it o'], ha =>
    simp only [anext] at ha ⊢
    split at ha
    ·split at ha
     ·rename_i hp; rw [if_pos hp]; exact hk _ _ ha
     ·rename_i hp; rw [if_neg hp]; exact hk _ _ ha
    ·exact hk _ _ ha
    ·split at ha
     ·exact ⟨ha.1, fun h => hk _ _ (ha.2.1 h), fun i p h1 h2 => hk _ _ (ha.2.2 i p h1 h2)⟩
     ·exact ha.elim
    ·exact ha.elim
  | entry x =>
   unfold ares at ha ⊢
   match vals, ha with
   | [.it o'], ha =>
    simp only [aentry] at ha ⊢
    split at ha
    ·split at ha
     ·obtain ⟨h1, p, h2, h3⟩ := ha
      exact ⟨h1, p, h2, hk _ _ h3⟩
     ·exact ha.elim
    ·exact ha.elim
  | _ => simp [cls] at hc
 ·obtain ⟨v, H', hr, hf⟩ := ares_fact hc ha
  exact hf.again _ (hk _ _ hr)
theorem aop_mono {o : Oper} {K K' : Env -> Heap -> Prop} {e : Env} {H : Heap} (hk : ∀ e H, K e H -> K' e H) (ha : aop P n h ops o K e H) : aop P n h ops o K' e H := by
 unfold aop at ha ⊢
 split at ha
 ·rename_i hg
  exact ⟨ha.1, ares_mono (fun v H' hh => hk _ _ hh) ha.2⟩
 ·rename_i hg
  exact ⟨ha.1, hk _ _ ha.2⟩
 ·exact ha.elim
theorem aop_resp {o : Oper} {K : Env -> Heap -> Prop} (hK : Resp K) : Resp (aop P n h ops o K) := by
 intro e e' H he ha
 have hag : agd ops e o = agd ops e' o := agd_congr fun t _ => he t
 have hup : ∀ (v : AV) t, look (upd P h ops o e v) t = look (upd P h ops o e' v) t := fun v t => upd_congr (fun t _ => he t) (.inr (he t))
 unfold aop at ha ⊢
 split at ha
 ·rename_i hg
  rw [<- hag, hg]
  have hev := (evs_congr (P := P) (ty := opTy o) (take := taking h o) o.op.operands.toList e e' fun t _ => he t).1
  refine ⟨ha.1, ?_⟩
  rw [<- hev]
  refine ares_mono (fun v H' hh => hK _ _ _ (fun t => ?_) hh) ha.2
  have := hup v t
  simpa only [upd, hg, <- hag] using this
 ·rename_i hg
  rw [<- hag, hg]
  refine ⟨ha.1, hK _ _ _ (fun t => ?_) ha.2⟩
  have := hup (.tup []) t
  simpa only [upd, hg, <- hag] using this
 ·exact ha.elim
end
end Go.AI
