/- Views are inverse to each other: plain Lean. -/
import Derived.Test.YtdgagjhjpffeaaaGreatDoorMi
set_option linter.unusedSimpArgs false
set_option linter.unusedVariables false
namespace Go.AI

theorem okAll_spec {α : Type} {p : α → Bool} {q : α → α → Bool} {l : List α} (h : okAll p q l = true) : ∀ (k : Nat) (x : α), l[k]? = some x → p x = true ∧ ∀ (j : Nat) (y : α), j < k → l[j]? = some y → q y x = false := by
  have key : ∀ (n i : Nat), l.length - i = n → okGo p q l i (l.drop i) = true → ∀ (k : Nat) (x : α), i ≤ k → l[k]? = some x → p x = true ∧ ∀ (j : Nat) (y : α), j < k → l[j]? = some y → q y x = false := by
    intro n
    induction n with
    | zero =>
      intro i hi _ k x hk hx
      have := (List.getElem?_eq_some_iff.1 hx).1
      omega
    | succ n ih =>
      intro i hi ho k x hk hx
      have hlt : i < l.length := by omega
      rw [List.drop_eq_getElem_cons hlt, okGo] at ho
      simp only [Bool.and_eq_true, Bool.not_eq_true'] at ho
      obtain ⟨⟨h1, h2⟩, h3⟩ := ho
      rcases Nat.eq_or_lt_of_le hk with rfl | hk
      · rw [List.getElem?_eq_getElem hlt] at hx
        cases hx
        refine ⟨h1, fun j y hj hy => ?_⟩
        rw [List.any_eq_false] at h2
        have hm : y ∈ l.take i := List.mem_of_getElem? (i := j) (by rw [List.getElem?_take, if_pos hj]; exact hy)
        simpa using h2 y hm
      · exact ih (i + 1) (by omega) h3 k x hk hx
  intro k x hx
  exact key l.length 0 (by omega) (by rw [List.drop_zero]; exact h) k x (Nat.zero_le _) hx

theorem portIdx_spec {e : Int} : ∀ (r : List Port) (i : Nat), portIdx e i r = -1 ∨ ∃ k x, r[k]? = some x ∧ portIdx e i r = ((i + k : Nat) : Int) ∧ x.edge = e ∧ 0 ≤ e
  | [], i => .inl rfl
  | x :: r, i => by
    rw [portIdx]
    split
    · rename_i h; exact .inr ⟨0, x, rfl, rfl, h.2, h.1⟩
    · rcases portIdx_spec r (i + 1) with h | ⟨k, y, h1, h2, h3, h4⟩
      · exact .inl h
      · exact .inr ⟨k + 1, y, h1, by rw [h2]; congr 1; omega, h3, h4⟩

theorem portIdx_first {e : Int} (he : 0 ≤ e) : ∀ (r : List Port) (i k : Nat) (x : Port), r[k]? = some x → x.edge = e → (∀ (j : Nat) (y : Port), j < k → r[j]? = some y → y.edge ≠ e) → portIdx e i r = ((i + k : Nat) : Int)
  | [], i, k, x, h, _, _ => by simp at h
  | y :: r, i, 0, x, h, hx, _ => by
    simp at h; subst h
    rw [portIdx, if_pos ⟨he, hx⟩]; rfl
  | y :: r, i, k + 1, x, h, hx, hn => by
    rw [portIdx, if_neg (fun c => hn 0 y (by omega) rfl c.2), portIdx_first he r (i + 1) k x (by simpa using h) hx fun j z hj hz => hn (j + 1) z (by omega) (by simpa using hz)]
    congr 1; omega

theorem port_edge {t : Tenant} {e : Int} (h : 0 ≤ portOf t e) : edgeOf t (portOf t e) = e ∧ 0 ≤ e := by
  rcases portIdx_spec (e := e) t.ports 0 with h1 | ⟨k, x, h1, h2, h3, h4⟩
  · unfold portOf at h; omega
  · have h5 : portOf t e = (k : Int) := by unfold portOf; rw [h2]; simp
    have hlt := (List.getElem?_eq_some_iff.1 h1).1
    rw [h5]
    have hp : isPortB t (k : Int) = true := by unfold isPortB; simp; omega
    refine ⟨?_, h4⟩
    unfold edgeOf
    rw [if_pos hp]
    unfold edgeAt
    simp [h1, h3]

theorem edge_port {t : Tenant} {m : Int} (hd : okAll (peg m) qeg t.ports = true) {n : Int} (h : 0 ≤ edgeOf t n) : portOf t (edgeOf t n) = n ∧ edgeOf t n < m := by
  unfold edgeOf at h ⊢
  split at h
  · rename_i hp
    rw [if_pos hp]
    simp only [isPortB, Bool.and_eq_true, decide_eq_true_eq] at hp
    obtain ⟨x, hx⟩ : ∃ x, t.ports[n.toNat]? = some x := ⟨_, List.getElem?_eq_getElem (by omega)⟩
    have he : edgeAt t n = x.edge := by simp [edgeAt, hx]
    rw [he] at h ⊢
    obtain ⟨h1, h2⟩ := okAll_spec hd n.toNat x hx
    simp only [peg, Bool.and_eq_true, decide_eq_true_eq] at h1
    refine ⟨?_, h1.2⟩
    unfold portOf
    rw [portIdx_first h t.ports 0 n.toNat x hx rfl fun j y hj hy => ?_]
    · simp; omega
    · have := h2 j y hj hy
      simp only [qeg] at this
      intro c
      simp [c] at this
      omega
  · omega

theorem right_peg {s : Setup} {t : Tenant} (h : rightT s t = true) : okAll (peg s.network.edges.length) qeg t.ports = true ∧ s.network.edges.length ≤ 20 := by
  unfold rightT at h
  simp only [Bool.and_eq_true, beq_iff_eq] at h
  obtain ⟨_, h0, _, _, h1⟩ := h
  have h2 : ckPo s t = 0 := by
    unfold ck18 at h1
    split at h1
    · cases h1
    · split at h1
      · rename_i hne; exact absurd h1 hne
      · rename_i hne; simpa using hne
  refine ⟨?_, ?_⟩
  · unfold ckPo at h2
    split at h2
    · cases h2
    split at h2
    · cases h2
    split at h2
    · cases h2
    · rename_i hne; simpa using hne
  · unfold fewN at h0
    simp only [Bool.and_eq_true, decide_eq_true_eq] at h0
    omega

theorem word_h0 {h : Head} (hr : rightH h = true) : 0 ≤ h.h0 ∧ h.h0 ≤ 65535 := by
  unfold rightH Head.l wordB16 at hr
  simp only [List.all_cons, Bool.and_eq_true, decide_eq_true_eq] at hr
  exact hr.1

section
variable {s : Setup} {t : Tenant} {h : Head}

theorem inv1 (hr : rightT s t = true) (hh : rightH h = true) (h9 : h.h9 = 0) (ho : (enterH (portOf t (i64 (h.h0 - 10000))) h).2 = true) :
    exitH (edgeOf t (enterH (portOf t (i64 (h.h0 - 10000))) h).1.h0) (enterH (portOf t (i64 (h.h0 - 10000))) h).1 = (h, true) := by
  have hw := word_h0 hh
  have e1 : i64 (h.h0 - 10000) = h.h0 - 10000 := w64 (by omega) (by omega)
  rw [e1] at ho ⊢
  unfold enterH at ho ⊢
  by_cases hp : portOf t (h.h0 - 10000) < 0
  · rw [if_pos hp] at ho; cases ho
  · rw [if_neg hp]
    obtain ⟨h1, h2⟩ := port_edge (t := t) (e := h.h0 - 10000) (by omega)
    show exitH (edgeOf t (portOf t (h.h0 - 10000))) _ = _
    rw [h1]
    unfold exitH
    rw [if_neg (by omega)]
    have e2 : i64 (10000 + (h.h0 - 10000)) = h.h0 := by unfold i64; rw [w64 (by omega) (by omega)]; omega
    rw [e2]
    cases h
    simp only at h9
    subst h9
    rfl

theorem inv2 (hr : rightT s t = true) (h9 : h.h9 = 0) (ho : (exitH (edgeOf t h.h0) h).2 = true) :
    enterH (portOf t (i64 ((exitH (edgeOf t h.h0) h).1.h0 - 10000))) (exitH (edgeOf t h.h0) h).1 = (h, true) := by
  obtain ⟨hd, hm⟩ := right_peg hr
  unfold exitH at ho ⊢
  by_cases hp : edgeOf t h.h0 < 0
  · rw [if_pos hp] at ho; cases ho
  · rw [if_neg hp]
    obtain ⟨h1, h2⟩ := edge_port hd (n := h.h0) (by omega)
    have e1 : i64 (10000 + edgeOf t h.h0) = 10000 + edgeOf t h.h0 := w64 (by omega) (by omega)
    have e2 : i64 (10000 + edgeOf t h.h0 - 10000) = edgeOf t h.h0 := by unfold i64; rw [w64 (by omega) (by omega)]; omega
    show enterH (portOf t (i64 (i64 (10000 + edgeOf t h.h0) - 10000))) _ = _
    rw [e1, e2, h1]
    have hn : ¬ h.h0 < 0 := by
      intro c
      have : edgeOf t h.h0 = -1 := by unfold edgeOf isPortB; simp; omega
      omega
    unfold enterH
    rw [if_neg hn]
    cases h
    simp only at h9
    subst h9
    rfl

theorem inv3 {p : Int} (ho : (enterH p h).2 = false) : (enterH p h).1 = Head.z := by
  unfold enterH at ho ⊢
  split
  · rfl
  · rename_i hc; rw [if_neg hc] at ho; cases ho

theorem inv4 {e : Int} (ho : (exitH e h).2 = false) : (exitH e h).1 = Head.z := by
  unfold exitH at ho ⊢
  split
  · rfl
  · rename_i hc; rw [if_neg hc] at ho; cases ho
end

end Go.AI

namespace Go.AI
open Go.Proofs
set_option maxRecDepth 50000

theorem law5_last {s : Setup} {t : Tenant} (hr : rightT s t = true) (n : Int) : (edgeOf t n < 0 ∨ portOf t (edgeOf t n) = n) ∧ (portOf t n < 0 ∨ edgeOf t (portOf t n) = n) := by
  obtain ⟨hd, _⟩ := right_peg hr
  refine ⟨?_, ?_⟩
  · by_cases h : edgeOf t n < 0
    · exact .inl h
    · exact .inr (edge_port hd (by omega)).1
  · by_cases h : portOf t n < 0
    · exact .inl h
    · exact .inr (port_edge (by omega)).1

set_option maxHeartbeats 4000000 in
theorem c_law5 (hsan : PCall Tryz.prog 9 [] (.bool true)) (s : Setup) (t : Tenant) (n : Int) (h : Head) (hs : bulkL s.c ≤ 1048576) (hb : bulkL t.c ≤ 1048576) : PCall Tryz.prog 5 [.agg s.c, .agg t.c, .int .i64 n, .agg h.c] (.bool true) := by
  have hl := lPort_bn (Tenant.bl_ports hb)
  refine PCall.of h5 mixed h5_d Tryz.func5 rfl call5 (by simp [Tryz.f5]) (by simp [pureL, AV.pure, go_sem]) rfl ?_
  simp only [Tryz.f5, go_sem, Nat.reduceEqDiff, Nat.reduceLT, ↓reduceIte, Nat.reduceAdd, Nat.reduceSub, Nat.reduceMul, Nat.reduceBEq, Nat.reduceLeDiff, Nat.reduceDvd, reduceCtorEq, Int.reduceToNat, Int.reduceLT, Int.reduceLE]
  cases hr : rightT s t with
  | false =>
    repeat' (first
      | ((first | refine PCallK.intro (hsan) ?_ | refine PCallK.intro (c_rightT _ _ hs hb) ?_ | refine PCallK.intro (c_rightH _) ?_); simp only [go_sem, Nat.reduceEqDiff, Nat.reduceLT, ↓reduceIte, Nat.reduceAdd, Nat.reduceSub, Nat.reduceMul, Nat.reduceBEq, Nat.reduceLeDiff, Nat.reduceDvd, reduceCtorEq, Int.reduceToNat, Int.reduceLT, Int.reduceLE, hr])
      | ((first | refine condK_split _ _ _ (fun hc => ?_) (fun hc => ?_) | refine gsel_split _ _ _ _ (fun hc => ?_) (fun hc => ?_)) <;> simp only [go_sem, Nat.reduceEqDiff, Nat.reduceLT, ↓reduceIte, Nat.reduceAdd, Nat.reduceSub, Nat.reduceMul, Nat.reduceBEq, Nat.reduceLeDiff, Nat.reduceDvd, reduceCtorEq, Int.reduceToNat, Int.reduceLT, Int.reduceLE, hc, Bool.not_true, Bool.not_false, hr]))
    all_goals first | rfl | (simp; done) | (simp at hc; done) | skip
  | true =>
  cases hh : rightH h with
  | false =>
    repeat' (first
      | ((first | refine PCallK.intro (hsan) ?_ | refine PCallK.intro (c_rightT _ _ hs hb) ?_ | refine PCallK.intro (c_rightH _) ?_); simp only [go_sem, Nat.reduceEqDiff, Nat.reduceLT, ↓reduceIte, Nat.reduceAdd, Nat.reduceSub, Nat.reduceMul, Nat.reduceBEq, Nat.reduceLeDiff, Nat.reduceDvd, reduceCtorEq, Int.reduceToNat, Int.reduceLT, Int.reduceLE, hr, hh])
      | ((first | refine condK_split _ _ _ (fun hc => ?_) (fun hc => ?_) | refine gsel_split _ _ _ _ (fun hc => ?_) (fun hc => ?_)) <;> simp only [go_sem, Nat.reduceEqDiff, Nat.reduceLT, ↓reduceIte, Nat.reduceAdd, Nat.reduceSub, Nat.reduceMul, Nat.reduceBEq, Nat.reduceLeDiff, Nat.reduceDvd, reduceCtorEq, Int.reduceToNat, Int.reduceLT, Int.reduceLE, hc, Bool.not_true, Bool.not_false, hr, hh]))
    all_goals first | rfl | (simp; done) | (simp at hc; done) | skip
  | true =>
  by_cases h9 : h.h9 = 0
  · have hz : (h.h9 != 0) = false := by simp [h9]
    have hp := portOf_eq (right_edges hr)
    obtain ⟨g1, g2⟩ := law5_last hr n
    cases ho : (enterH (portOf t (i64 (h.h0 - 10000))) h).2 with
    | false =>
      have i3 := inv3 ho
      cases ht : (exitH (edgeOf t h.h0) h).2 with
      | false =>
        have i4 := inv4 ht
        repeat' (first
          | ((first | refine PCallK.intro (hsan) ?_ | refine PCallK.intro (c_rightT _ _ hs hb) ?_ | refine PCallK.intro (c_rightH _) ?_ | refine PCallK.intro (c_Enter _ hl _) ?_ | refine PCallK.intro (c_Exit _ _) ?_ | refine PCallK.intro (c_Edge _ _) ?_ | refine PCallK.intro (c_Port _ hl _) ?_); simp only [go_sem, Nat.reduceEqDiff, Nat.reduceLT, ↓reduceIte, Nat.reduceAdd, Nat.reduceSub, Nat.reduceMul, Nat.reduceBEq, Nat.reduceLeDiff, Nat.reduceDvd, reduceCtorEq, Int.reduceToNat, Int.reduceLT, Int.reduceLE, hr, hp, hh, hz, ho, ht, i3, i4])
          | ((first | refine condK_split _ _ _ (fun hc => ?_) (fun hc => ?_) | refine gsel_split _ _ _ _ (fun hc => ?_) (fun hc => ?_)) <;> simp only [go_sem, Nat.reduceEqDiff, Nat.reduceLT, ↓reduceIte, Nat.reduceAdd, Nat.reduceSub, Nat.reduceMul, Nat.reduceBEq, Nat.reduceLeDiff, Nat.reduceDvd, reduceCtorEq, Int.reduceToNat, Int.reduceLT, Int.reduceLE, hc, Bool.not_true, Bool.not_false, hr, hp, hh, hz, ho, ht, i3, i4]))
        all_goals first | rfl | (simp; done) | (simp at hc; done) | grind | skip
      | true =>
        have i2 := inv2 hr h9 ht
        repeat' (first
          | ((first | refine PCallK.intro (hsan) ?_ | refine PCallK.intro (c_rightT _ _ hs hb) ?_ | refine PCallK.intro (c_rightH _) ?_ | refine PCallK.intro (c_Enter _ hl _) ?_ | refine PCallK.intro (c_Exit _ _) ?_ | refine PCallK.intro (c_Edge _ _) ?_ | refine PCallK.intro (c_Port _ hl _) ?_); simp only [go_sem, Nat.reduceEqDiff, Nat.reduceLT, ↓reduceIte, Nat.reduceAdd, Nat.reduceSub, Nat.reduceMul, Nat.reduceBEq, Nat.reduceLeDiff, Nat.reduceDvd, reduceCtorEq, Int.reduceToNat, Int.reduceLT, Int.reduceLE, hr, hp, hh, hz, ho, ht, i3, i2])
          | ((first | refine condK_split _ _ _ (fun hc => ?_) (fun hc => ?_) | refine gsel_split _ _ _ _ (fun hc => ?_) (fun hc => ?_)) <;> simp only [go_sem, Nat.reduceEqDiff, Nat.reduceLT, ↓reduceIte, Nat.reduceAdd, Nat.reduceSub, Nat.reduceMul, Nat.reduceBEq, Nat.reduceLeDiff, Nat.reduceDvd, reduceCtorEq, Int.reduceToNat, Int.reduceLT, Int.reduceLE, hc, Bool.not_true, Bool.not_false, hr, hp, hh, hz, ho, ht, i3, i2]))
        all_goals first | rfl | (simp; done) | (simp at hc; done) | grind | skip
    | true =>
      have i1 := inv1 hr hh h9 ho
      cases ht : (exitH (edgeOf t h.h0) h).2 with
      | false =>
        have i4 := inv4 ht
        repeat' (first
          | ((first | refine PCallK.intro (hsan) ?_ | refine PCallK.intro (c_rightT _ _ hs hb) ?_ | refine PCallK.intro (c_rightH _) ?_ | refine PCallK.intro (c_Enter _ hl _) ?_ | refine PCallK.intro (c_Exit _ _) ?_ | refine PCallK.intro (c_Edge _ _) ?_ | refine PCallK.intro (c_Port _ hl _) ?_); simp only [go_sem, Nat.reduceEqDiff, Nat.reduceLT, ↓reduceIte, Nat.reduceAdd, Nat.reduceSub, Nat.reduceMul, Nat.reduceBEq, Nat.reduceLeDiff, Nat.reduceDvd, reduceCtorEq, Int.reduceToNat, Int.reduceLT, Int.reduceLE, hr, hp, hh, hz, ho, ht, i1, i4])
          | ((first | refine condK_split _ _ _ (fun hc => ?_) (fun hc => ?_) | refine gsel_split _ _ _ _ (fun hc => ?_) (fun hc => ?_)) <;> simp only [go_sem, Nat.reduceEqDiff, Nat.reduceLT, ↓reduceIte, Nat.reduceAdd, Nat.reduceSub, Nat.reduceMul, Nat.reduceBEq, Nat.reduceLeDiff, Nat.reduceDvd, reduceCtorEq, Int.reduceToNat, Int.reduceLT, Int.reduceLE, hc, Bool.not_true, Bool.not_false, hr, hp, hh, hz, ho, ht, i1, i4]))
        all_goals first | rfl | (simp; done) | (simp at hc; done) | grind | skip
      | true =>
        have i2 := inv2 hr h9 ht
        repeat' (first
          | ((first | refine PCallK.intro (hsan) ?_ | refine PCallK.intro (c_rightT _ _ hs hb) ?_ | refine PCallK.intro (c_rightH _) ?_ | refine PCallK.intro (c_Enter _ hl _) ?_ | refine PCallK.intro (c_Exit _ _) ?_ | refine PCallK.intro (c_Edge _ _) ?_ | refine PCallK.intro (c_Port _ hl _) ?_); simp only [go_sem, Nat.reduceEqDiff, Nat.reduceLT, ↓reduceIte, Nat.reduceAdd, Nat.reduceSub, Nat.reduceMul, Nat.reduceBEq, Nat.reduceLeDiff, Nat.reduceDvd, reduceCtorEq, Int.reduceToNat, Int.reduceLT, Int.reduceLE, hr, hp, hh, hz, ho, ht, i1, i2])
          | ((first | refine condK_split _ _ _ (fun hc => ?_) (fun hc => ?_) | refine gsel_split _ _ _ _ (fun hc => ?_) (fun hc => ?_)) <;> simp only [go_sem, Nat.reduceEqDiff, Nat.reduceLT, ↓reduceIte, Nat.reduceAdd, Nat.reduceSub, Nat.reduceMul, Nat.reduceBEq, Nat.reduceLeDiff, Nat.reduceDvd, reduceCtorEq, Int.reduceToNat, Int.reduceLT, Int.reduceLE, hc, Bool.not_true, Bool.not_false, hr, hp, hh, hz, ho, ht, i1, i2]))
        all_goals first | rfl | (simp; done) | (simp at hc; done) | grind | skip
  · have hz : (h.h9 != 0) = true := by simp [h9]
    repeat' (first
      | ((first | refine PCallK.intro (hsan) ?_ | refine PCallK.intro (c_rightT _ _ hs hb) ?_ | refine PCallK.intro (c_rightH _) ?_); simp only [go_sem, Nat.reduceEqDiff, Nat.reduceLT, ↓reduceIte, Nat.reduceAdd, Nat.reduceSub, Nat.reduceMul, Nat.reduceBEq, Nat.reduceLeDiff, Nat.reduceDvd, reduceCtorEq, Int.reduceToNat, Int.reduceLT, Int.reduceLE, hr, hh, hz])
      | ((first | refine condK_split _ _ _ (fun hc => ?_) (fun hc => ?_) | refine gsel_split _ _ _ _ (fun hc => ?_) (fun hc => ?_)) <;> simp only [go_sem, Nat.reduceEqDiff, Nat.reduceLT, ↓reduceIte, Nat.reduceAdd, Nat.reduceSub, Nat.reduceMul, Nat.reduceBEq, Nat.reduceLeDiff, Nat.reduceDvd, reduceCtorEq, Int.reduceToNat, Int.reduceLT, Int.reduceLE, hc, Bool.not_true, Bool.not_false, hr, hh, hz]))
    all_goals first | rfl | (simp; done) | (simp at hc; done) | skip

end Go.AI
