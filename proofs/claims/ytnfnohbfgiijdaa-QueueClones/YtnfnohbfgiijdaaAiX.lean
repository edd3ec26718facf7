/- The code of a function, walked at the abstract side. -/
import Derived.Test.YtnfnohbfgiijdaaAiXa
set_option linter.unusedSimpArgs false
set_option linter.unusedVariables false
namespace Go.AI

/-! ## Objects that become fixed behind a region, as a hint says -/

def frzSlot (ag : Bool) (v : AV) (H : Heap) : Option (AV × Heap) :=
  match v with
  | .msl ob off len sz => match H[ob]? with
    | some (some cs) => if off + len * sz ≤ cs.length ∧ (ag = true ∨ sz = 1) then some (.sl none (chunk ag sz len ((cs.drop off).map borrow1)), H.set ob none) else none
    | _ => none
  | _ => none

def frz1 (z : Tmp × Option Nat × Bool) (e : Env) (H : Heap) : Env × Heap :=
  match z.2.1 with
  | none => match frzSlot z.2.2 (look e z.1) H with
    | some (v, H') => ((z.1, v) :: e, H')
    | none => (e, H)
  | some k => match look e z.1 with
    | .ptr o off => match H[o]? with
      | some (some cs) => match cs[off + k]? with
        | some c => match frzSlot z.2.2 c H with
          | some (v, H') => match H'[o]? with
            | some (some _) => (e, H'.set o (some (cs.set (off + k) v)))
            | _ => (e, H)
          | none => (e, H)
        | none => (e, H)
      | _ => (e, H)
    | _ => (e, H)

def frzs : List (Tmp × Option Nat × Bool) → Env → Heap → Env × Heap
  | [], e, H => (e, H)
  | z :: zs, e, H => frzs zs (frz1 z e H).1 (frz1 z e H).2

def Hint.lv (h : Hint) (id : Nat) : List Tmp := (h.live.lookup id).getD []

def Hint.ct (h : Hint) (id : Nat) : Option Nat := h.gc.lookup id

def Hint.at (h : Hint) (id : Nat) : List (Tmp × Option Nat × Bool) := (h.fz.lookup id).getD []

section
variable {F : Nat → Prop} {G : Gh} {w : World} {H : Heap} {n : Nat} {env : Env} {a : Act}

theorem frzSlot_ok {ag : Bool} {v v' : AV} {H' : Heap} (hf : frzSlot ag v H = some (v', H')) {vals : List AV} {us : List Value} (h : CRel F G vals H us w) {u : Value} (hv : VRel G w v u) :
    ∃ ob b es, H' = H.set ob none ∧ v' = .sl none es ∧ (∃ cs, H[ob]? = some (some cs)) ∧ CRel F (G.setKind b .imm) vals H' us w ∧ Ext F G w (G.setKind b .imm) w ∧ VRel (G.setKind b .imm) w v' u ∧ (∃ o f l s, v = .msl o f l s) := by
  unfold frzSlot at hf
  split at hf
  · rename_i ob off len sz
    split at hf
    · rename_i cs hob
      split at hf
      · rename_i hc
        cases hf
        have hb : ∃ b, G.obs[ob]? = some b := by
          have := h.h.len
          exact ⟨_, List.getElem?_eq_getElem (by rw [this]; exact (List.getElem?_eq_some_iff.1 hob).1)⟩
        obtain ⟨b, hb⟩ := hb
        obtain ⟨h1, h2⟩ := h.freeze hob hb
        exact ⟨ob, b, _, rfl, rfl, ⟨cs, hob⟩, h1, h2, VRel.frozen h hob hb hv hc.1 ag hc.2, _, _, _, _, rfl⟩
      · cases hf
    · cases hf
  · cases hf

theorem frz1_ok (z : Tmp × Option Nat × Bool) (hs : SRel F G n env H a w) : ∃ G', SRel F G' n (frz1 z env H).1 (frz1 z env H).2 a w ∧ Ext F G w G' w := by
  have same : ∃ G', SRel F G' n env H a w ∧ Ext F G w G' w := ⟨G, hs, .refl F G w⟩
  obtain ⟨t, k, ag⟩ := z
  have slot : ∀ v, look env t = v → v ≠ .undef → t < n ∧ ∃ u, a.tmps[t]? = some u ∧ VRel G w v u := fun v hv hne => by
    have hdn : t < n := by
      by_cases hdn : t < n
      · exact hdn
      · rw [hs.out t (Nat.le_of_not_lt hdn)] at hv; exact absurd hv.symm hne
    obtain ⟨x, hx⟩ : ∃ x, a.tmps[t]? = some x := ⟨_, Array.getElem?_eq_getElem (by rw [hs.size]; exact hdn)⟩
    have hr := hs.c.l.rel t (look env t) x (elist_get env hdn) (by rw [Array.getElem?_toList]; exact hx)
    rw [hv] at hr
    exact ⟨hdn, x, hx, hr⟩
  unfold frz1
  cases k with
  | none =>
    dsimp only
    split
    · rename_i v' H' hf
      obtain ⟨hdn, u, hu, hvr⟩ := slot (look env t) rfl (by intro e; rw [e] at hf; simp [frzSlot] at hf)
      obtain ⟨ob, b, es, rfl, rfl, _, h1, h2, h3, _⟩ := frzSlot_ok hf hs.c hvr
      refine ⟨_, ?_, h2⟩
      have hput := srel_put (v := .sl none es) (u := u) hs.size hs.defers hs.out ⟨.cons h3 (tok_nil_all (toks_owned rfl u) _ _ _) h1.l, h1.h, fun x => by rw [tcnt_cons, toks_owned rfl u]; simpa using h1.cnt x⟩ (some t) hdn
      have ea : a.put (some t) u = a := by
        obtain ⟨tm, df⟩ := a
        simp only [Act.put, Act.mk.injEq, and_true]
        apply Array.ext'
        rw [Array.toList_setIfInBounds]
        exact set_same (by rw [Array.getElem?_toList]; exact hu)
      rw [ea] at hput
      exact hput
    · exact same
  | some k =>
    dsimp only
    split
    · rename_i o off hlk
      split
      · rename_i cs hob
        split
        · rename_i c hc
          split
          · rename_i v' H' hf
            split
            · rename_i cs' hob'
              obtain ⟨hdn, u, hu, hvr⟩ := slot _ hlk (by intro e; cases e)
              have hlen := hs.c.h.len
              have hb : ∃ b, G.obs[o]? = some b := ⟨_, List.getElem?_eq_getElem (by rw [hlen]; exact (List.getElem?_eq_some_iff.1 hob).1)⟩
              obtain ⟨b, hb⟩ := hb
              obtain ⟨g0, g1, C, E, g2, g3, g4⟩ := hs.c.h.obj o cs b hob hb
              have hlt : off + k < C.size := Nat.lt_of_lt_of_le (List.getElem?_eq_some_iff.1 hc).1 g3
              obtain ⟨s1, s2, s3⟩ := g4 _ _ _ hc (Array.getElem?_eq_getElem hlt)
              obtain ⟨ob, b', es, rfl, rfl, _, h1, h2, h3, ⟨o5, f5, l5, z5, hmsl⟩⟩ := frzSlot_ok hf hs.c s2
              have hne : ob ≠ o := by
                rintro rfl
                rw [List.getElem?_set_self (by exact (List.getElem?_eq_some_iff.1 hob).1)] at hob'
                cases hob'
              have hob2 : (H.set ob none)[o]? = some (some cs) := by rw [List.getElem?_set_ne hne]; exact hob
              have hb2 : (G.setKind b' .imm).obs[o]? = some b := hb
              have hrow' := h1.h.obj o cs b hob2 hb2
              obtain ⟨r0, r1, C2, E2, r2, r3, r4⟩ := hrow'
              have hCC : C2 = C := by rw [g2] at r2; cases r2; rfl
              subst hCC
              have hset := h1.setObj hob2 hb2 r2 (C' := C2) rfl (cs' := cs.set (off + k) (.sl none es)) (by simpa using r3) (fun i c2 y hc2 hy => ?_) (vs := elist n env) (us' := a.tmps.toList) h1.l (fun x => ?_)
              · rw [setRow_self w b C2 E2 _ r2] at hset
                exact ⟨_, ⟨hs.size, hs.defers, hs.out, hset.1⟩, h2.trans hset.2⟩
              · rw [List.getElem?_set] at hc2
                split at hc2
                · rename_i he
                  subst he
                  rw [if_pos (List.getElem?_eq_some_iff.1 hc).1] at hc2
                  cases hc2
                  have : y = C2[off + k] := by rw [Array.getElem?_eq_getElem hlt] at hy; cases hy; rfl
                  subst this
                  exact ⟨rfl, h3, TokOk.of_none rfl⟩
                · exact r4 i c2 y hc2 hy
              · have hle : (((cs.set (off + k) (.sl none es)).zip C2.toList).filterMap tok).count x ≤ ((cs.zip C2.toList).filterMap tok).count x := by
                  subst hmsl
                  clear h3 h1 h2 s2 s3 r4 g4 g3 r3 hob2 hf hob hob'
                  generalize hL : C2.toList = L
                  clear hL
                  generalize off + k = j at hc ⊢
                  induction cs generalizing j L with
                  | nil => simp
                  | cons d cs ih =>
                    cases L with
                    | nil => simp
                    | cons y L =>
                      cases j with
                      | zero =>
                        simp only [List.getElem?_cons_zero, Option.some.injEq] at hc
                        subst hc
                        simp only [List.set_cons_zero, List.zip_cons_cons, List.filterMap_cons]
                        simp [tok]
                      | succ j =>
                        simp only [List.getElem?_cons_succ] at hc
                        have := ih L j hc
                        simp only [List.set_cons_succ, List.zip_cons_cons, List.filterMap_cons]
                        split
                        · exact this
                        · simp only [List.count_cons]; omega
                omega
            · exact same
          · exact same
        · exact same
      · exact same
    · exact same

theorem frzs_ok : ∀ (zs : List (Tmp × Option Nat × Bool)) {G : Gh} {env : Env} {H : Heap}, SRel F G n env H a w → ∃ G', SRel F G' n (frzs zs env H).1 (frzs zs env H).2 a w ∧ Ext F G w G' w
  | [], G, _, _, hs => ⟨G, hs, .refl F G w⟩
  | z :: zs, G, env, H, hs => by
    obtain ⟨G1, h1, e1⟩ := frz1_ok z hs
    obtain ⟨G2, h2, e2⟩ := frzs_ok zs h1
    exact ⟨G2, h2, e1.trans e2⟩

end

def awp (P : Program) (n : Nat) (h : Hint) : Code → (Exit → Env → Heap → Prop) → Env → Heap → Prop
  | .skip, Q => Q .normal
  | .region id ops _, Q => fun e H => arun P n h ops ops.toList (fun e H => Q .normal (frzs (h.at id) (clean (h.lv id) e) H).1 (gcut (h.ct id) (frzs (h.at id) (clean (h.lv id) e) H).1 (frzs (h.at id) (clean (h.lv id) e) H).2)) e H
  | .seq a b, Q => awp P n h a fun ex e H => match ex with
      | .normal => awp P n h b Q e H
      | ex => Q ex e H
  | .cond c a b, Q => fun e H => match evo P none e c with
      | .bool t => if t = true then awp P n h a Q e H else awp P n h b Q e H
      | _ => False
  | .block id c, Q => awp P n h c fun ex e H => match ex with
      | .exit j => if j = id then Q .normal e H else Q (.exit j) e H
      | ex => Q ex e H
  | .loop c, Q => fun e H => ∃ (I : Env → Heap → Prop) (μ : Env → Heap → Nat), I e H ∧ ∀ e H, I e H → awp P n h c (fun ex e' H' => match ex with
      | .normal => I e' H' ∧ μ e' H' < μ e H
      | ex => Q ex e' H') e H
  | .exit id, Q => Q (.exit id)
  | .ret, Q => Q .ret
  | _, _ => fun _ _ => False

/-- Are all regions that draw their order such that the order does not matter? -/
def drawsOk (h : Hint) : Code → Bool
  | .region _ ops draw => !draw || drawOk h ops
  | .seq a b => drawsOk h a && drawsOk h b
  | .cond _ a b => drawsOk h a && drawsOk h b
  | .block _ c => drawsOk h c
  | .loop c => drawsOk h c
  | _ => true

theorem exists_least {p : Nat → Prop} (h : ∃ m, p m) : ∃ m, p m ∧ ∀ k, p k → m ≤ k := by
  obtain ⟨m, hm⟩ := h
  induction m using Nat.strongRecOn with
  | _ m ih =>
    by_cases h0 : ∃ k, k < m ∧ p k
    · obtain ⟨k, hk, hp⟩ := h0
      exact ih k hk hp
    · exact ⟨m, hm, fun k hp => Nat.le_of_not_lt fun hlt => h0 ⟨k, hlt, hp⟩⟩

/-- A loop, its measure hanging on what is hidden. -/
theorem wp_loop_rel {P : Program} {c : Code} {Q : Exit → Act → World → Prop} {a : Act} {w : World} (J : Nat → Act → World → Prop) (h0 : ∃ m, J m a w)
    (round : ∀ m a w, J m a w → c.wp P (Exit.then (fun a' w' => ∃ m', m' < m ∧ J m' a' w') Q) a w) : (Code.loop c).wp P Q a w := by
  have hl : ∀ a w, ∃ m, (∃ m, J m a w) → J m a w ∧ ∀ k, J k a w → m ≤ k := fun a w => by
    by_cases he : ∃ m, J m a w
    · obtain ⟨m, h1, h2⟩ := exists_least he
      exact ⟨m, fun _ => ⟨h1, h2⟩⟩
    · exact ⟨0, fun h => absurd h he⟩
  refine wp_loop (fun a w => ∃ m, J m a w) (fun a w => Classical.choose (hl a w)) h0 fun a w hI => ?_
  obtain ⟨h1, h2⟩ := Classical.choose_spec (hl a w) hI
  refine Code.wp_mono (fun e a' w' hq => ?_) (round _ a w h1)
  cases e with
  | normal =>
    obtain ⟨m', hm, hJ⟩ := hq
    refine ⟨⟨m', hJ⟩, ?_⟩
    obtain ⟨_, h4⟩ := Classical.choose_spec (hl a' w') ⟨m', hJ⟩
    exact Nat.lt_of_le_of_lt (h4 m' hJ) hm
  | _ => exact hq

/-- What is known where the code is left. -/
def Left (F : Nat → Prop) (G : Gh) (w : World) (n : Nat) (Q : Exit → Env → Heap → Prop) (ex : Exit) (a' : Act) (w' : World) : Prop := After F G w n (Q ex) a' w'

theorem awp_sound {P : Program} {n : Nat} {h : Hint} (hm : P.follows .mixedOrders = true) {F : Nat → Prop} {G0 : Gh} {w0 : World} (h0 : h.gc = [] ∨ G0.obs = []) : ∀ (c : Code) (hd : drawsOk h c = true) (Q : Exit → Env → Heap → Prop) (QQ : Exit → Act → World → Prop) (G : Gh) (env : Env) (H : Heap) (a : Act) (w : World),
    SRel F G n env H a w → Ext F G0 w0 G w → awp P n h c Q env H → (∀ ex a' w', Left F G0 w0 n Q ex a' w' → QQ ex a' w') → c.wp P QQ a w
  | .skip, _, Q, QQ, G, env, H, a, w, hs, hx, ha, hQ => wp_skip (hQ _ _ _ ⟨env, H, G, ha, hs, hx⟩)
  | .exit id, _, Q, QQ, G, env, H, a, w, hs, hx, ha, hQ => wp_exit (hQ _ _ _ ⟨env, H, G, ha, hs, hx⟩)
  | .ret, _, Q, QQ, G, env, H, a, w, hs, hx, ha, hQ => wp_ret (hQ _ _ _ ⟨env, H, G, ha, hs, hx⟩)
  | .region id ops draw, hd, Q, QQ, G, env, H, a, w, hs, hx, ha, hQ => by
    have hK : Resp fun e H => Q .normal (frzs (h.at id) (clean (h.lv id) e) H).1 (gcut (h.ct id) (frzs (h.at id) (clean (h.lv id) e) H).1 (frzs (h.at id) (clean (h.lv id) e) H).2) := fun e e' H he hq => by
      show Q .normal (frzs (h.at id) (clean (h.lv id) e') H).1 (gcut (h.ct id) (frzs (h.at id) (clean (h.lv id) e') H).1 (frzs (h.at id) (clean (h.lv id) e') H).2)
      rw [← clean_congr (h.lv id) he]; exact hq
    have hnext : ∀ a' w', After F G w n (fun e H => Q .normal (frzs (h.at id) (clean (h.lv id) e) H).1 (gcut (h.ct id) (frzs (h.at id) (clean (h.lv id) e) H).1 (frzs (h.at id) (clean (h.lv id) e) H).2)) a' w' → QQ .normal a' w' := by
      rintro a' w' ⟨env', H', G', hK', hs', he⟩
      obtain ⟨G2, h2, e2⟩ := frzs_ok (h.at id) (hs'.forget (look_clean (h.lv id) env'))
      obtain ⟨G3, h3, e3⟩ := gcut_ok (h.ct id) h2 ((hx.trans he).trans e2) (h0.imp (fun hg => by unfold Hint.ct; rw [hg]; rfl) (fun hg => hg))
      exact hQ _ _ _ ⟨_, _, G3, hK', h3, e3⟩
    cases draw with
    | false => exact arun_region _ _ hs ha hnext
    | true => exact adraw_region _ hm hK (by simpa [drawsOk] using hd) hs ha hnext
  | .seq x y, hd, Q, QQ, G, env, H, a, w, hs, hx, ha, hQ => by
    simp only [drawsOk, Bool.and_eq_true] at hd
    refine wp_seq (awp_sound hm h0 x hd.1 _ _ G env H a w hs hx ha fun ex a' w' hl => ?_)
    obtain ⟨env', H', G', hK, hs', he⟩ := hl
    cases ex with
    | normal =>
      exact awp_sound hm h0 y hd.2 Q QQ G' env' H' a' w' hs' he hK hQ
    | _ => exact hQ _ _ _ ⟨env', H', G', hK, hs', he⟩
  | .cond c x y, hd, Q, QQ, G, env, H, a, w, hs, hx, ha, hQ => by
    simp only [drawsOk, Bool.and_eq_true] at hd
    simp only [awp] at ha
    split at ha
    · rename_i t ht
      have hev : a.eval c = .bool t := by
        obtain ⟨h1, _⟩ := ev1_ok (P := P) (n := n) (pre := []) (upre := []) none false c hs.c rfl hs.size hs.out
        have hr := h1.l.rel 0 _ _ rfl rfl
        simp only [ev1, ht, AV.borrow, borrow0] at hr
        generalize a.eval c = u at hr
        cases hr; rfl
      refine wp_cond hev ?_
      cases t with
      | true => exact awp_sound hm h0 x hd.1 Q QQ G env H a w hs hx (by simpa using ha) hQ
      | false => exact awp_sound hm h0 y hd.2 Q QQ G env H a w hs hx (by simpa using ha) hQ
    · exact ha.elim
  | .block id c, hd, Q, QQ, G, env, H, a, w, hs, hx, ha, hQ => by
    refine wp_block (awp_sound hm h0 c hd _ _ G env H a w hs hx ha fun ex a' w' hl => ?_)
    obtain ⟨env', H', G', hK, hs', he⟩ := hl
    cases ex with
    | exit j =>
      simp only [Exit.inBlock] at hK ⊢
      split
      · rename_i hj
        rw [if_pos hj] at hK
        exact hQ _ _ _ ⟨env', H', G', hK, hs', he⟩
      · rename_i hj
        rw [if_neg hj] at hK
        exact hQ _ _ _ ⟨env', H', G', hK, hs', he⟩
    | _ => exact hQ _ _ _ ⟨env', H', G', hK, hs', he⟩
  | .loop c, hd, Q, QQ, G, env, H, a, w, hs, hx, ha, hQ => by
    obtain ⟨I, μ, hI, hround⟩ := ha
    refine wp_loop_rel (fun m a' w' => ∃ env' H' G', I env' H' ∧ μ env' H' = m ∧ SRel F G' n env' H' a' w' ∧ Ext F G0 w0 G' w') ⟨_, env, H, G, hI, rfl, hs, hx⟩ fun m a' w' hJ => ?_
    obtain ⟨env', H', G', hI', hμ, hs', he⟩ := hJ
    refine awp_sound hm h0 c hd _ _ G' env' H' a' w' hs' he (hround env' H' hI') fun ex a2 w2 hl => ?_
    obtain ⟨env2, H2, G2, hK, hs2, he2⟩ := hl
    cases ex with
    | normal => exact ⟨_, hμ ▸ hK.2, env2, H2, G2, hK.1, rfl, hs2, he2⟩
    | _ => exact hQ _ _ _ ⟨env2, H2, G2, hK, hs2, he2⟩
  | .rangeFunc _ _ _ _, _, _, _, _, _, _, _, _, _, _, ha, _ => ha.elim
  | .scope _, _, _, _, _, _, _, _, _, _, _, ha, _ => ha.elim
  | .label _, _, _, _, _, _, _, _, _, _, _, ha, _ => ha.elim
  | .goto _, _, _, _, _, _, _, _, _, _, _, ha, _ => ha.elim
  | .refuse _, _, _, _, _, _, _, _, _, _, _, ha, _ => ha.elim

end Go.AI
