/- Contract: known, of the program. -/
import Derived.Test.YtdgagjhjpffeaaaGreatDoorQb
import Derived.Test.YtdgagjhjpffeaaaGreatDoorMe
import Derived.Test.YtdgagjhjpffeaaaGreatDoorMs
set_option linter.unusedSimpArgs false
set_option linter.unusedVariables false
namespace Go.AI
open Go.Proofs
set_option maxRecDepth 50000

theorem p_known_1 {H : Heap} (x : Regex) (y : Node) (o : Nat) (ho : H[o]? = some (some x.c)) : SCall Tryz.prog 142 [.agg y.c, .ptr o 0] H (.bool (decide (y.name = x.node))) := by
  refine ACall.drop rfl ?_
  refine ACall.of h142 rfl mixed h142_d Tryz.func142 rfl call142 (by simp [Tryz.f142]) ?_
  have ho' : ∀ z, (H ++ z)[o]? = some (some x.c) := fun z => by
    have := (List.getElem?_eq_some_iff.1 ho).1
    rw [List.getElem?_append_left this]; exact ho
  simp only [Tryz.f142, go_sem, ↓reduceIte, ho', toList_beq]

theorem p_known_2 {H : Heap} (n : Network) (y : Regex) (b : Bool) (o : Nat) (ho : H[o]? = some (some n.c)) (hk : PCall Tryz.prog 60 [.agg n.c, .agg y.c] (.bool b)) : SCall Tryz.prog 144 [.agg y.c, .ptr o 0] H (.bool (!b)) := by
  refine ACall.drop rfl ?_
  refine ACall.of h144 rfl mixed h144_d Tryz.func144 rfl call144 (by simp [Tryz.f144]) ?_
  have ho' : ∀ z, (H ++ z)[o]? = some (some n.c) := fun z => by
    have := (List.getElem?_eq_some_iff.1 ho).1
    rw [List.getElem?_append_left this]; exact ho
  simp only [Tryz.f144, go_sem, ↓reduceIte, ho']
  repeat' (first
    | ((first | refine PCallK.intro (hk) ?_); simp only [go_sem, ↓reduceIte, ho'])
    | ((first | refine condK_split _ _ _ (fun hc => ?_) (fun hc => ?_) | refine gsel_split _ _ _ _ (fun hc => ?_) (fun hc => ?_)) <;> simp only [go_sem, ↓reduceIte, hc, Bool.not_true, Bool.not_false, ho']))

theorem knBs_all (l : List ByteArray) : ∀ r : List Regex, knBs l r = r.all (knB l)
  | [] => by rw [knBs_nil]; rfl
  | x :: r => by rw [knBs_cons, List.all_cons, knBs_all l r]

theorem p_known (n : Network) (hn : n.nodes.length ≤ 9223372036854775807) : ∀ x : Regex, x.args.length ≤ 9223372036854775807 ∧ bulkL x.c ≤ 1073741824 → PCall Tryz.prog 60 [.agg n.c, .agg x.c] (.bool (knB (nodeNames n) x)) := by
  refine Regex.ind _ fun x ih => fun ⟨hl, hb⟩ => ?_
  have hih : ∀ y ∈ x.args, PCall Tryz.prog 60 [.agg n.c, .agg y.c] (.bool (knB (nodeNames n) y)) := fun y hy => by
    have hby : bulkL y.c ≤ 1073741824 := by have := lRegex_bk (Regex.bl_args hb) hy; simpa only [AV.bulk] using this
    exact ih y hy ⟨Nat.le_trans (lRegex_bn (Regex.bl_args hby)) (by decide), hby⟩
  have h1 : SCall Tryz.prog 141 [.sl none (lNode n.nodes), .fn (.func 142) [] [.ptr 1 0]] [some n.c, some x.c] (.bool (n.nodes.any fun y => decide (y.name = x.node))) :=
    p_ContainsNode n.nodes hn 142 [] [.ptr 1 0] (fun y => decide (y.name = x.node)) (fun y _ => p_known_1 x y 1 rfl)
  have h2 : SCall Tryz.prog 143 [.sl none (lRegex x.args), .fn (.func 144) [] [.ptr 0 0]] [some n.c, some x.c] (.bool (x.args.any fun y => !knB (nodeNames n) y)) :=
    p_ContainsRegex x.args hl 144 [] [.ptr 0 0] (fun y => !knB (nodeNames n) y) (fun y hy => p_known_2 n y _ 0 rfl (hih y hy))
  have hs : hasS (nodeNames n) x.node = n.nodes.any fun y => decide (y.name = x.node) := by
    unfold hasS nodeNames
    rw [List.any_map]; rfl
  refine PCall.of h60 mixed h60_d Tryz.func60 rfl call60 (by simp [Tryz.f60]) (by simp [pureL, AV.pure, go_sem]) rfl ?_
  simp only [Tryz.f60, go_sem, ↓reduceIte]
  repeat' (first
    | ((first | refine ACallK.ofS (h1) ?_ | refine ACallK.ofS (h2) ?_); simp only [go_sem, ↓reduceIte])
    | ((first | refine condK_split _ _ _ (fun hc => ?_) (fun hc => ?_) | refine gsel_split _ _ _ _ (fun hc => ?_) (fun hc => ?_)) <;> simp only [go_sem, ↓reduceIte, hc, Bool.not_true, Bool.not_false]))
  all_goals (rw [knB_eq, knBs_all, ← any_not, hs]; simp_all)

end Go.AI

namespace Go.AI
open Go.Proofs
set_option maxRecDepth 50000

def isPt (y : Policy) : Bool := y.kind == 2 && decide (y.field = portS)
def ksGo : List Int → List Policy → List Int
  | o, [] => o
  | o, y :: r => ksGo (if isPt y then (if o.any (fun z => z == y.n) then o else o ++ [y.n]) else o) r
abbrev iKey (n : Int) : AV := .int .i64 n

theorem afind_get {k : AV} : ∀ {es : List (AV × AV)} {i j : Nat} {v : AV}, afind k es i = some (j, v) → i ≤ j ∧ ∃ p, es[j - i]? = some p ∧ keyEq p.1 k = true ∧ p.2 = v
  | [], _, _, _, h => by cases h
  | p :: es, i, j, v, h => by
    rw [afind] at h
    by_cases hk : keyEq p.1 k = true
    · rw [if_pos hk] at h
      cases h
      exact ⟨Nat.le_refl _, p, by simp, hk, rfl⟩
    · rw [if_neg hk] at h
      obtain ⟨h1, q, h2, h3, h4⟩ := afind_get h
      refine ⟨by omega, q, ?_, h3, h4⟩
      have : j - i = (j - (i + 1)) + 1 := by omega
      rw [this]; simpa using h2

theorem keyEq_i (z n : Int) : keyEq (iKey z) (iKey n) = (z == n) := by
  rw [Bool.eq_iff_iff]; simp [keyEq, keyEq1]

theorem any_i (l : List Int) (n : Int) : (l.any fun y => keyEq (iKey y) (iKey n)) = l.any fun z => z == n := by
  simp only [keyEq_i]

theorem upd_setI (l : List Int) (n : Int) : mapUpd (setE iKey l) (iKey n) (.bool true) = setE iKey (if l.any (fun z => z == n) then l else l ++ [n]) := by
  by_cases h : (l.any fun z => z == n) = true
  · rw [if_pos h]
    have h2 := afind_set iKey (iKey n) l 0
    rw [any_i, if_pos h] at h2
    unfold mapUpd
    cases ha : afind (iKey n) (setE iKey l) 0 with
    | none => rw [ha] at h2; cases h2
    | some q =>
      obtain ⟨j, v⟩ := q
      obtain ⟨_, p, hp, hk, hv⟩ := afind_get ha
      dsimp only
      rw [Nat.sub_zero] at hp
      have hp2 := hp
      rw [setE, List.getElem?_map] at hp2
      cases hl : l[j]? with
      | none => rw [hl] at hp2; cases hp2
      | some z =>
        rw [hl] at hp2
        cases hp2
        rw [keyEq_i] at hk
        have hz : z = n := by simpa using hk
        subst hz
        apply List.ext_getElem?
        intro m
        rw [List.getElem?_set]
        split
        · rename_i hjm
          subst hjm
          rw [hp]
          have := (List.getElem?_eq_some_iff.1 hp).1
          rw [if_pos this]
        · rfl
  · rw [if_neg h]
    exact upd_set iKey n l (by rw [any_i]; exact (Bool.not_eq_true _).mp h)

theorem ksGo_mem : ∀ (r : List Policy) (o : List Int) (m : Int), m ∈ ksGo o r ↔ m ∈ o ∨ ∃ y ∈ r, isPt y = true ∧ y.n = m
  | [], o, m => by simp [ksGo]
  | y :: r, o, m => by
    rw [ksGo, ksGo_mem r]
    by_cases h : isPt y = true
    · rw [if_pos h]
      by_cases ha : (o.any fun z => z == y.n) = true
      · rw [if_pos ha]
        rw [List.any_eq_true] at ha
        obtain ⟨z, hz, he⟩ := ha
        have he : z = y.n := by simpa using he
        subst he
        constructor
        · rintro (h1 | ⟨w, hw, h2, h3⟩)
          · exact .inl h1
          · exact .inr ⟨w, by simp [hw], h2, h3⟩
        · rintro (h1 | ⟨w, hw, h2, h3⟩)
          · exact .inl h1
          · rcases List.mem_cons.1 hw with rfl | hw
            · exact .inl (h3 ▸ hz)
            · exact .inr ⟨w, hw, h2, h3⟩
      · rw [if_neg ha]
        constructor
        · rintro (h1 | ⟨w, hw, h2, h3⟩)
          · rcases List.mem_append.1 h1 with h1 | h1
            · exact .inl h1
            · exact .inr ⟨y, by simp, h, (List.mem_singleton.1 h1).symm⟩
          · exact .inr ⟨w, by simp [hw], h2, h3⟩
        · rintro (h1 | ⟨w, hw, h2, h3⟩)
          · exact .inl (List.mem_append_left _ h1)
          · rcases List.mem_cons.1 hw with rfl | hw
            · exact .inl (List.mem_append_right _ (by simp [h3]))
            · exact .inr ⟨w, hw, h2, h3⟩
    · rw [if_neg h]
      constructor
      · rintro (h1 | ⟨w, hw, h2, h3⟩)
        · exact .inl h1
        · exact .inr ⟨w, by simp [hw], h2, h3⟩
      · rintro (h1 | ⟨w, hw, h2, h3⟩)
        · exact .inl h1
        · rcases List.mem_cons.1 hw with rfl | hw
          · exact absurd h2 h
          · exact .inr ⟨w, hw, h2, h3⟩

end Go.AI

namespace Go.AI
open Go.Proofs
set_option maxRecDepth 50000

theorem p_Keys (o : Nat) (H : Heap) : ACall Tryz.prog 197 [.mapr o] H (fun v H' => v = .fn (.func 246) [] [.ptr H.length 0] ∧ H' = H ++ [some [.mapr o]]) := by
  refine ACall.of h197 rfl mixed h197_d Tryz.func197 rfl call197 (by simp [Tryz.f197]) ?_
  simp only [Tryz.f197, go_sem, ↓reduceIte]

theorem ksGo_len : ∀ (r : List Policy) (o : List Int), (ksGo o r).length ≤ o.length + r.length
  | [], o => by simp [ksGo]
  | y :: r, o => by
    rw [ksGo]
    have := ksGo_len r (if isPt y then (if o.any (fun z => z == y.n) then o else o ++ [y.n]) else o)
    refine Nat.le_trans this ?_
    simp only [List.length_cons]
    split
    · split
      · omega
      · rw [List.length_append, List.length_singleton]; omega
    · omega

theorem fm_n {y : Policy} (h : fmO y = true) (h2 : y.kind = 2) : 0 ≤ y.n ∧ y.n ≤ 65535 := by
  rw [fmO_eq, Bool.and_eq_true, Bool.and_eq_true] at h
  have ho := h.1.1
  unfold okO at ho
  rw [if_neg (by omega), if_pos h2] at ho
  simp only [Bool.and_eq_true, w16, decide_eq_true_eq] at ho
  exact ho.2.2

def ptB (x : Policy) (o : List Int) (st : Int) : Heap := [some x.c, some (mapc (setE iKey o)), some [.mapr 1], some x.c, some (loopc st (frameVals 23 [(3, .ptr 2 0), (7, .fn (.func 225) [] [.ptr 3 0])]))]

theorem updK_setI {P : Program} {K : Kt} {e : Env} {H : Heap} {t kt et : TypeId} {o : Nat} (l : List Int) (n : Int) (hu : P.underlying t = some (.map kt et)) (hm : H[o]? = some (some (mapc (setE iKey l)))) (hk : keysIn P kt (iKey n :: l.map iKey)) (hd : distL iKey l)
    (h : K e (H.set o (some (mapc (setE iKey (if l.any (fun z => z == n) then l else l ++ [n])))))) : updK P t (.mapr o) (iKey n) (.bool true) K e H := by
  unfold updK
  dsimp only
  rw [hu]
  dsimp only
  rw [mapOf_at hm]
  dsimp only
  refine ⟨by rw [set_keys]; exact hk, dist_set iKey hd, rfl, ?_⟩
  rw [upd_setI]; exact h

theorem distF_set : ∀ {l : List Int}, distL iKey l → distF (setE iKey l) = true
  | [], _ => rfl
  | x :: l, h => by
    unfold setE
    rw [List.map_cons, distF, Bool.and_eq_true]
    refine ⟨List.all_eq_true.2 fun q hq => ?_, distF_set h.2⟩
    obtain ⟨y, hy, rfl⟩ := List.mem_map.1 hq
    have := h.1 y hy
    dsimp only
    rw [this]; rfl

theorem okKeys_set {l : List Int} (h : distL iKey l) (hb : ∀ z ∈ l, 0 ≤ z ∧ z ≤ 65535) : okKeys (setE iKey l) = true := by
  unfold okKeys
  rw [Bool.and_eq_true]
  refine ⟨List.all_eq_true.2 fun q hq => ?_, distF_set h⟩
  obtain ⟨z, hz, rfl⟩ := List.mem_map.1 hq
  have := hb z hz
  show (Lit.int .i64 z).wf = true
  have h1 : IntKind.i64.min = -9223372036854775808 := by decide
  have h2 : IntKind.i64.max = 9223372036854775807 := by decide
  simp only [Lit.wf, h1, h2, Bool.and_eq_true, decide_eq_true_eq]
  omega

theorem dist_add {l : List Int} (n : Int) (hd : distL iKey l) : distL iKey (if l.any (fun z => z == n) then l else l ++ [n]) := by
  split
  · exact hd
  · rename_i h
    exact distL_snoc iKey n hd (by rw [any_i]; exact (Bool.not_eq_true _).mp h)

set_option maxHeartbeats 2000000 in
theorem p_Ports (x : Policy) (hb : bulkL x.c ≤ 1073741824) (hfm : fmO x = true) : PCall Tryz.prog 132 [.agg x.c] (.sl none (lI64 (isortI (ksGo [] (ptsO x))))) := by
  have hargs : ∀ y ∈ ptsO x, y.args.length ≤ 9223372036854775807 := fun y hy => Nat.le_trans (lPolicy_bn (Policy.bl_args (Nat.le_trans (ptsO_bulk x y hy) hb))) (by decide)
  refine PCall.ofB h132 mixed h132_d Tryz.func132 rfl call132 (by simp [Tryz.f132]) (by simp [pureL, AV.pure, go_sem]) (by simp [pureL, AV.pure, go_sem]) ?_
  simp only [Tryz.f132, go_sem, ↓reduceIte]
  refine ACallK.intro (p_parts x _) fun v H' hr => ?_
  obtain ⟨rfl, rfl⟩ := hr
  simp only [go_sem, ↓reduceIte]
  refine rfK_intro (tag := 132) rfl (ACall.mono (p_partsIt x 4 3 5 _ (fun k pre => ∃ o, pre = ptB x o 0 ∧ ksGo [] (ptsO x) = ksGo o ((ptsO x).drop k) ∧ distL iKey o) (fun pre => pre = ptB x (ksGo [] (ptsO x)) 0 ∧ distL iKey (ksGo [] (ptsO x))) (ptB x [] 0) rfl ⟨[], rfl, rfl, trivial⟩ ?_ hargs ?_ ?_) fun v H2 hq => ?_)
  · rintro pre ⟨o, rfl, _⟩; rfl
  · rintro g k y H hy ⟨pre, g', rfl, hn, o, rfl, hF, hdo⟩
    have hd : (ptsO x).drop k = y :: (ptsO x).drop (k + 1) := by
      obtain ⟨hlt, rfl⟩ := List.getElem?_eq_some_iff.1 hy
      exact List.drop_eq_getElem_cons hlt
    rw [hd, ksGo] at hF
    have hkeys : keysIn Tryz.prog 3 (iKey y.n :: o.map iKey) := keysIn_int (k := .i64) (by simp only [go_sem]) fun a ha => by
      rcases List.mem_cons.1 ha with rfl | ha
      · exact ⟨_, rfl⟩
      · obtain ⟨z, _, rfl⟩ := List.mem_map.1 ha; exact ⟨_, rfl⟩
    refine ycall_of_awp (h := h132) (n := 23) mixed rfl ⟨by kernel_rfl, by kernel_rfl⟩ (by decide) _ _ _ _ rfl rfl rfl ?_
    show awp _ _ _ _ _ _ [(8, .agg y.c), (0, .undef), (1, .undef), (2, .undef), (3, .ptr 2 0), (4, .undef), (5, .undef), (6, .undef), (7, .fn (.func 225) [] [.ptr 3 0]), (8, .undef), (9, .undef), (10, .undef), (11, .undef), (12, .undef), (13, .undef), (14, .undef), (15, .undef), (16, .undef), (17, .undef), (18, .undef), (19, .undef), (20, .undef), (21, .undef), (22, .undef)] _
    generalize hG : g ++ g' = G
    simp only [go_sem, ↓reduceIte, ptB, toList_beq]
    refine ⟨_, rfl, ?_⟩
    repeat' (first
      | ((first | refine condK_split _ _ _ (fun hc => ?_) (fun hc => ?_) | refine gsel_split _ _ _ _ (fun hc => ?_) (fun hc => ?_)) <;> simp only [go_sem, ↓reduceIte, hc, Bool.not_true, Bool.not_false, toList_beq]))
    · have hpt : isPt y = true := by
        have h5 : (y.kind == 2) = true := by assumption
        have h6 : decide (y.field = portS) = true := hc
        rw [isPt, h5, h6]; rfl
      rw [hpt, if_pos rfl] at hF
      refine updK_setI (kt := 3) (et := 4) o y.n ?_ rfl hkeys hdo ?_
      · simp only [go_sem]
      simp only [go_sem, ↓reduceIte]
      exact ⟨_, rfl, .inl ⟨ptB x (if o.any (fun z => z == y.n) then o else o ++ [y.n]) 0, g' ++ [some y.c], by rw [← hG]; simp [ptB], rfl, _, rfl, hF, dist_add y.n hdo⟩⟩
    · have hpt : isPt y = false := by
        have h6 : decide (y.field = portS) = false := hc
        rw [isPt, h6, Bool.and_false]
      rw [hpt, if_neg (by decide)] at hF
      exact ⟨_, rfl, .inl ⟨ptB x o 0, g' ++ [some y.c], by rw [← hG]; simp [ptB], rfl, _, rfl, hF, hdo⟩⟩
    · have hpt : isPt y = false := by
        have h5 : (y.kind == 2) = false := by simpa using hc
        rw [isPt, h5, Bool.false_and]
      rw [hpt, if_neg (by decide)] at hF
      exact ⟨_, rfl, .inl ⟨ptB x o 0, g' ++ [some y.c], by rw [← hG]; simp [ptB], rfl, _, rfl, hF, hdo⟩⟩
  · rintro pre ⟨o, rfl, hF, hdo⟩
    rw [List.drop_length] at hF
    have hF : ksGo [] (ptsO x) = o := hF
    exact ⟨by rw [hF], by rw [hF]; exact hdo⟩
  · obtain ⟨pre, g, rfl, hn, rfl, hdo⟩ := hq
    refine ⟨0, _, rfl, .inl ⟨rfl, ?_⟩⟩
    show blkK 0 _ .normal _ (some x.c :: some (mapc (setE iKey (ksGo [] (ptsO x)))) :: some [.mapr 1] :: some x.c :: none :: g)
    simp only [go_sem, ↓reduceIte]
    refine ACallK.intro (p_Keys 1 _) fun v H' hr => ?_
    obtain ⟨rfl, rfl⟩ := hr
    simp only [go_sem, ↓reduceIte]
    have hlen : (ksGo [] (ptsO x)).length ≤ 1073741824 := Nat.le_trans (ksGo_len (ptsO x) []) (by have := ptsO_len x; simp; omega)
    have hbnd : ∀ z ∈ ksGo [] (ptsO x), 0 ≤ z ∧ z ≤ 65535 := fun z hz => by
      rcases (ksGo_mem (ptsO x) [] z).1 hz with hz | ⟨y, hy, hp, rfl⟩
      · cases hz
      · simp only [isPt, Bool.and_eq_true, beq_iff_eq] at hp
        exact fm_n (fmO_pts x hfm y hy) hp.1
    have hes : intsOf (setE iKey (ksGo [] (ptsO x))) = ksGo [] (ptsO x) := by
      unfold intsOf setE
      rw [List.map_map]
      exact List.map_id'' (fun _ => rfl) _
    refine ACallK.intro (sorted_call (o := 1) (es := setE iKey (ksGo [] (ptsO x))) (H := some x.c :: some (mapc (setE iKey (ksGo [] (ptsO x)))) :: some [.mapr 1] :: some x.c :: none :: (g ++ [some [.mapr 1]])) ?_ (mapOf_at rfl) ?_ ?_) fun v H' hr => ?_
    · simp
    · exact okKeys_set hdo fun z hz => hbnd z hz
    · simp [setE]; omega
    · obtain ⟨rfl, rfl⟩ := hr
      simp only [go_sem, ↓reduceIte, hes]
      rfl

end Go.AI

namespace Go.AI
open Go.Proofs
set_option maxRecDepth 50000

theorem p_EqualI (a b : List Int) (ha : a.length ≤ 9223372036854775807) : PCall Tryz.prog 165 [.sl none (lI64 a), .sl none (lI64 b)] (.bool (eqI a b)) := by
  refine PCall.of h165 mixed h165_d Tryz.func165 rfl call165 (by simp [Tryz.f165]) (by simp [pureL, AV.pure, go_sem]) rfl ?_
  simp only [Tryz.f165, go_sem, ↓reduceIte]
  repeat' (first
    | ((first | refine condK_split _ _ _ (fun hc => ?_) (fun hc => ?_) | refine gsel_split _ _ _ _ (fun hc => ?_) (fun hc => ?_)) <;> simp only [go_sem, ↓reduceIte, hc, Bool.not_true, Bool.not_false]))
  · have hne : a ≠ b := by rintro rfl; simp at hc
    simp [eqI, hne]
  · have hlen : a.length = b.length := by simp at hc; omega
    refine awp_lst a (fun (_ : Unit) r => decide (r = b.drop (a.length - r.length))) (fun k _ => a.take k = b.take k) (fun k _ => [(0, .sl none (lI64 a)), (1, .sl none (lI64 b)), (12, .int .i64 a.length), (13, .int .i64 k)]) (fun k _ => []) () ha rfl rfl rfl ?_ ?_
    · intro k _ x xs hd hx hI hF h0 h1 hw
      have hk2 := drop_len hd
      obtain ⟨y, hy⟩ : ∃ y, b[k]? = some y := ⟨_, List.getElem?_eq_getElem (by omega)⟩
      have e1 : a.length - (xs.length + 1) = k := by omega
      have e2 : a.length - xs.length = k + 1 := by omega
      have hbd : b.drop k = y :: b.drop (k + 1) := by
        obtain ⟨hlt, rfl⟩ := List.getElem?_eq_some_iff.1 hy
        exact List.drop_eq_getElem_cons hlt
      simp only [List.length_cons, e1, Nat.sub_self, List.drop_zero, hbd] at hF
      simp only [go_sem, ↓reduceIte, h0, h1, lI64_get hx, lI64_get hy]
      repeat' (first
        | ((first | refine condK_split _ _ _ (fun hc => ?_) (fun hc => ?_) | refine gsel_split _ _ _ _ (fun hc => ?_) (fun hc => ?_)) <;> simp only [go_sem, ↓reduceIte, hc, Bool.not_true, Bool.not_false, h0, h1, hw, lI64_get hx, lI64_get hy]))
      · have hne : x ≠ y := by simpa using hc
        have : decide (a = b) = false := by rw [hF]; simp [hne]
        rw [eqI, this]
      · have he : x = y := by simpa using hc
        subst he
        exact ⟨(), by rw [Bool.eq_iff_iff, decide_eq_true_eq, decide_eq_true_eq, e1, e2, hbd]; simp, by rw [take_snoc hx, take_snoc hy, hI]⟩
    · intro _ hI hF
      simp only [go_sem, ↓reduceIte, Int.lt_irrefl, decide_false]
      have : a = b := by rw [List.take_length] at hI; rw [hI, hlen, List.take_length]
      simp [eqI, this]

theorem p_family (k : Int) (h1 : 1 ≤ k) (h2 : k ≤ 6) : PCall Tryz.prog 164 [.int .i64 k] (.int .i64 (famS k)) := by
  have h : k = 1 ∨ k = 2 ∨ k = 3 ∨ k = 4 ∨ k = 5 ∨ k = 6 := by omega
  refine PCall.of h164 mixed h164_d Tryz.func164 rfl call164 (by simp [Tryz.f164]) (by simp [pureL, AV.pure, go_sem]) rfl ?_
  rcases h with rfl | rfl | rfl | rfl | rfl | rfl
  all_goals
    simp only [Tryz.f164, go_sem, ↓reduceIte]
    rfl

end Go.AI

namespace Go.AI

/-- A variable, and whether its numbers are those of a step. -/
structure VE where
  v : Variable
  b : Bool

def vNew (l : List Fld) (s : Stp) : Variable := ⟨s.var, famS s.kind, widS l s.key, if numS s then s.n else 0, if numS s then s.m else 0⟩
def vFind (E : List VE) (nm : ByteArray) : Option VE := E.find? fun e => decide (e.v.name = nm)
def vUpd : List VE → VE → List VE
  | [], x => [x]
  | e :: E, x => if e.v.name = x.v.name then x :: E else e :: vUpd E x
def vBad (l : List Fld) (e : VE) (s : Stp) : Bool := e.v.family != famS s.kind || (!eqI e.v.widths (widS l s.key) || (numS s && (e.b && (e.v.n != s.n || e.v.m != s.m))))
def vStep (l : List Fld) (E : List VE) (s : Stp) : Option (List VE) :=
  if s.kind = 0 then some E else match vFind E s.var with
    | none => some (vUpd E ⟨vNew l s, numS s⟩)
    | some e => if vBad l e s then none else if numS s then some (vUpd E ⟨vNew l s, true⟩) else some E
def vGo (l : List Fld) : List VE → List Stage → Option (List VE)
  | E, [] => some E
  | E, x :: r => match vStep l E x.step with
    | none => none
    | some E' => vGo l E' r

theorem vFind_upd (x : VE) (nm : ByteArray) : ∀ E : List VE, vFind (vUpd E x) nm = if x.v.name = nm then some x else vFind E nm
  | [] => by
    unfold vUpd vFind
    by_cases h : x.v.name = nm <;> simp [h]
  | e :: E => by
    have ih := vFind_upd x nm E
    unfold vUpd
    by_cases h : e.v.name = x.v.name
    · rw [if_pos h]
      unfold vFind
      by_cases h2 : x.v.name = nm
      · simp [h2]
      · simp [h2, h]
    · rw [if_neg h]
      unfold vFind at ih ⊢
      rw [List.find?_cons, List.find?_cons]
      by_cases h2 : e.v.name = nm
      · have : ¬ x.v.name = nm := fun h3 => h (h2.trans h3.symm)
        simp [h2, this]
      · simp only [h2, decide_false]
        exact ih

theorem vFind_name {E : List VE} {nm : ByteArray} {e : VE} (h : vFind E nm = some e) : e.v.name = nm := by
  have := List.find?_some h
  simpa using this

structure VInv (l : List Fld) (E : List VE) (p : List Stage) : Prop where
  src : ∀ nm e, vFind E nm = some e → ∃ x ∈ p, x.step.kind ≠ 0 ∧ x.step.var = nm
  fits : ∀ x ∈ p, x.step.kind ≠ 0 → ∃ e, vFind E x.step.var = some e ∧ e.v.family = famS x.step.kind ∧ e.v.widths = widS l x.step.key ∧ (numS x.step = true → e.b = true ∧ e.v.n = x.step.n ∧ e.v.m = x.step.m)
  num : ∀ nm e, vFind E nm = some e → e.b = true → ∃ x ∈ p, x.step.kind ≠ 0 ∧ x.step.var = nm ∧ numS x.step = true

theorem VInv.nil (l : List Fld) : VInv l [] [] := ⟨fun _ _ h => (by cases h), fun _ h => (by cases h), fun _ _ h => (by cases h)⟩

theorem vBad_any {l : List Fld} {E : List VE} {p : List Stage} (h : VInv l E p) {s : Stp} (hk : s.kind ≠ 0) :
    p.any (fun y => clash l y.step s) = match vFind E s.var with | none => false | some e => vBad l e s := by
  cases hf : vFind E s.var with
  | none =>
    dsimp only
    rw [List.any_eq_false]
    intro y hy hc
    unfold clash at hc
    simp only [Bool.and_eq_true, bne_iff_ne, ne_eq, decide_eq_true_eq] at hc
    obtain ⟨e, he, _⟩ := h.fits y hy hc.1.1
    rw [hc.2.1, hf] at he
    cases he
  | some e =>
    dsimp only
    rw [Bool.eq_iff_iff, List.any_eq_true]
    constructor
    · rintro ⟨y, hy, hc⟩
      unfold clash agrS at hc
      simp only [Bool.and_eq_true, bne_iff_ne, ne_eq, decide_eq_true_eq] at hc
      obtain ⟨⟨k1, k2⟩, hv, ha⟩ := hc
      obtain ⟨e', he, h1, h2, h3⟩ := h.fits y hy k1
      rw [hv, hf] at he
      cases he
      have ha' : (numS y.step = true ∧ numS s = true ∧ (y.step.n ≠ s.n ∨ y.step.m ≠ s.m)) ∨ eqI (widS l y.step.key) (widS l s.key) = false ∨ famS y.step.kind ≠ famS s.kind := by
        generalize eqI (widS l y.step.key) (widS l s.key) = B at ha ⊢
        generalize famS y.step.kind = f1 at ha ⊢
        generalize famS s.kind = f2 at ha ⊢
        generalize numS y.step = c1 at ha ⊢
        generalize numS s = c2 at ha ⊢
        cases B <;> cases c1 <;> cases c2 <;> simp at ha ⊢
        all_goals first | exact ha | (rcases ha with ha | ha <;> grind) | grind
      unfold vBad
      rw [h1, h2]
      rcases ha' with ⟨a1, a2, a3⟩ | a | a
      · obtain ⟨g1, g2, g3⟩ := h3 a1
        rw [g1, g2, g3, a2]
        rcases a3 with a3 | a3 <;> simp [a3]
      · simp [a]
      · simp [a]
    · intro hb
      unfold vBad at hb
      by_cases hn : numS s = true ∧ e.b = true ∧ (e.v.n != s.n || e.v.m != s.m) = true
      · obtain ⟨n1, n2, n3⟩ := hn
        obtain ⟨y, hy, k1, k2, k3⟩ := h.num _ e hf n2
        obtain ⟨e', he, h1, h2, h3⟩ := h.fits y hy k1
        rw [k2, hf] at he
        cases he
        obtain ⟨g1, g2, g3⟩ := h3 k3
        refine ⟨y, hy, ?_⟩
        unfold clash agrS
        rw [n1, k3, ← g2, ← g3, n3]
        simp [k1, hk, k2]
      · obtain ⟨y, hy, k1, k2⟩ := h.src _ e hf
        obtain ⟨e', he, h1, h2, h3⟩ := h.fits y hy k1
        rw [k2, hf] at he
        cases he
        refine ⟨y, hy, ?_⟩
        unfold clash agrS
        rw [← h1, ← h2]
        have hb2 : (e.v.family != famS s.kind || !eqI e.v.widths (widS l s.key)) = true := by
          rw [Bool.or_eq_true] at hb ⊢
          rcases hb with hb | hb
          · exact .inl hb
          · rw [Bool.or_eq_true] at hb
            rcases hb with hb | hb
            · exact .inr hb
            · exfalso
              apply hn
              simp only [Bool.and_eq_true] at hb
              exact ⟨hb.1, hb.2.1, hb.2.2⟩
        have hb3 : (eqI e.v.widths (widS l s.key) && e.v.family == famS s.kind) = false := by
          generalize eqI e.v.widths (widS l s.key) = B at hb2 ⊢
          cases B
          · rfl
          · simp only [Bool.not_true, Bool.or_false] at hb2
            simpa using hb2
        rw [hb3]
        simp [k1, hk, k2]

theorem VInv.step {l : List Fld} {E : List VE} {p : List Stage} (h : VInv l E p) {x : Stage} {E' : List VE} (hs : vStep l E x.step = some E') : VInv l E' (p ++ [x]) := by
  unfold vStep at hs
  split at hs
  · rename_i hk
    cases hs
    exact ⟨fun nm e he => by obtain ⟨y, hy, h1⟩ := h.src nm e he; exact ⟨y, by simp [hy], h1⟩,
      fun y hy hk2 => by
        rcases List.mem_append.1 hy with hy | hy
        · exact h.fits y hy hk2
        · rw [List.mem_singleton.1 hy] at hk2; exact absurd hk hk2,
      fun nm e he hb => by obtain ⟨y, hy, h1⟩ := h.num nm e he hb; exact ⟨y, by simp [hy], h1⟩⟩
  · rename_i hk
    split at hs
    · rename_i hf
      cases hs
      refine ⟨fun nm e he => ?_, fun y hy hk2 => ?_, fun nm e he hb => ?_⟩
      · rw [vFind_upd] at he
        split at he
        · rename_i hn
          exact ⟨x, by simp, hk, hn⟩
        · obtain ⟨y, hy, h1⟩ := h.src nm e he; exact ⟨y, by simp [hy], h1⟩
      · rw [vFind_upd]
        rcases List.mem_append.1 hy with hy | hy
        · obtain ⟨e, he, h1⟩ := h.fits y hy hk2
          have hne : ¬ (vNew l x.step).name = y.step.var := fun hn => by
            have hn : x.step.var = y.step.var := hn
            rw [← hn, hf] at he; cases he
          exact ⟨e, by rw [if_neg hne]; exact he, h1⟩
        · rcases List.mem_singleton.1 hy with rfl
          refine ⟨_, if_pos rfl, rfl, rfl, fun hn => ⟨hn, ?_, ?_⟩⟩
          · simp [vNew, hn]
          · simp [vNew, hn]
      · rw [vFind_upd] at he
        split at he
        · rename_i hn
          cases he
          exact ⟨x, by simp, hk, hn, hb⟩
        · obtain ⟨y, hy, h1⟩ := h.num nm e he hb; exact ⟨y, by simp [hy], h1⟩
    · rename_i e0 hf
      split at hs
      · cases hs
      · rename_i hb0
        have hb0 : vBad l e0 x.step = false := by simpa using hb0
        unfold vBad at hb0
        rw [Bool.or_eq_false_iff, Bool.or_eq_false_iff] at hb0
        obtain ⟨b1, b2, b3⟩ := hb0
        have b1 : e0.v.family = famS x.step.kind := by simpa using b1
        have b2 : e0.v.widths = widS l x.step.key := by simpa [eqI] using b2
        split at hs
        · rename_i hnum
          cases hs
          refine ⟨fun nm e he => ?_, fun y hy hk2 => ?_, fun nm e he hb => ?_⟩
          · rw [vFind_upd] at he
            split at he
            · rename_i hn
              exact ⟨x, by simp, hk, hn⟩
            · obtain ⟨y, hy, h1⟩ := h.src nm e he; exact ⟨y, by simp [hy], h1⟩
          · rw [vFind_upd]
            rcases List.mem_append.1 hy with hy | hy
            · obtain ⟨e, he, h1, h2, h3⟩ := h.fits y hy hk2
              by_cases hn : (vNew l x.step).name = y.step.var
              · have hn2 : x.step.var = y.step.var := hn
                rw [← hn2, hf] at he
                cases he
                refine ⟨_, if_pos hn, ?_, ?_, fun hny => ?_⟩
                · show famS x.step.kind = _
                  rw [← b1, h1]
                · show widS l x.step.key = _
                  rw [← b2, h2]
                · obtain ⟨g1, g2, g3⟩ := h3 hny
                  rw [hnum, g1, g2, g3] at b3
                  simp only [Bool.true_and, Bool.or_eq_false_iff, bne_eq_false_iff_eq] at b3
                  refine ⟨rfl, ?_, ?_⟩
                  · simp [vNew, hnum, b3.1]
                  · simp [vNew, hnum, b3.2]
              · exact ⟨e, by rw [if_neg hn]; exact he, h1, h2, h3⟩
            · rcases List.mem_singleton.1 hy with rfl
              refine ⟨_, if_pos rfl, rfl, rfl, fun hn => ⟨rfl, ?_, ?_⟩⟩
              · simp [vNew, hn]
              · simp [vNew, hn]
          · rw [vFind_upd] at he
            split at he
            · rename_i hn
              exact ⟨x, by simp, hk, hn, hnum⟩
            · obtain ⟨y, hy, h1⟩ := h.num nm e he hb; exact ⟨y, by simp [hy], h1⟩
        · rename_i hnum
          cases hs
          refine ⟨fun nm e he => ?_, fun y hy hk2 => ?_, fun nm e he hb => ?_⟩
          · obtain ⟨y, hy, h1⟩ := h.src nm e he; exact ⟨y, by simp [hy], h1⟩
          · rcases List.mem_append.1 hy with hy | hy
            · exact h.fits y hy hk2
            · rcases List.mem_singleton.1 hy with rfl
              exact ⟨e0, hf, b1, b2, fun hn => absurd hn hnum⟩
          · obtain ⟨y, hy, h1⟩ := h.num nm e he hb; exact ⟨y, by simp [hy], h1⟩

theorem vStep_none {l : List Fld} {E : List VE} {p : List Stage} (h : VInv l E p) (s : Stp) : (vStep l E s).isSome = !p.any (fun y => clash l y.step s) := by
  by_cases hk : s.kind = 0
  · unfold vStep
    rw [if_pos hk]
    have : p.any (fun y => clash l y.step s) = false := by
      rw [List.any_eq_false]; intro y _; simp [clash, hk]
    rw [this]; rfl
  · rw [vBad_any h hk]
    unfold vStep
    rw [if_neg hk]
    cases vFind E s.var with
    | none => rfl
    | some e =>
      dsimp only
      cases vBad l e s
      · cases numS s <;> rfl
      · rfl

theorem vGo_typGo (l : List Fld) (p : List Stage) : ∀ (n i : Nat) (E : List VE), p.length - i = n → VInv l E (p.take i) → (vGo l E (p.drop i)).isSome = typGo l p i (p.drop i)
  | 0, i, E, hn, _ => by
    rw [List.drop_eq_nil_of_le (by omega)]; rfl
  | n + 1, i, E, hn, h => by
    have hlt : i < p.length := by omega
    rw [List.drop_eq_getElem_cons hlt, vGo, typGo]
    have h1 := vStep_none h p[i].step
    cases hs : vStep l E p[i].step with
    | none =>
      rw [hs] at h1
      rw [← h1]; rfl
    | some E' =>
      rw [hs] at h1
      rw [← h1]
      have ht : p.take (i + 1) = p.take i ++ [p[i]] := by rw [List.take_add_one, List.getElem?_eq_getElem hlt]; rfl
      have := vGo_typGo l p n (i + 1) E' (by omega) (by rw [ht]; exact h.step hs)
      simpa using this

theorem vGo_typ (l : List Fld) (p : List Stage) : (vGo l [] p).isSome = typGo l p 0 p := by
  have := vGo_typGo l p p.length 0 [] (by omega) (by simpa using VInv.nil l)
  simpa using this

end Go.AI

namespace Go.AI
open Go.Proofs
set_option maxRecDepth 50000

/-- The contract of a function that is called where there are no objects: it may drop what it makes. -/
theorem ACall.of0 {P : Program} {f : FuncId} {fn : Func} {c : Code} {vs : List AV} {R : AV → Heap → Prop} (h : Hint) (hm : P.follows .mixedOrders = true) (hd : fn.body.any (drawsOk h) = true) (hf : P.funcs[f]? = some fn) (hcal : callable P f = true) (hb : fn.body = some c)
    (hn : vs.length ≤ fn.ntmps) (ha : awp P fn.ntmps h none c (QRet P fn.ntmps fn.results R) (argsFrom 0 vs) []) : ACall P f vs [] R :=
  ⟨hcal, fun F G w us hc => calls_of_awp (.inr (List.length_eq_zero_iff.1 hc.h.len)) hm hd hf hb hn ha hc⟩

@[go_sem] theorem evo_nilmap {P : Program} {e : Env} (o : Option TypeId) : evo P o e (.const (.map none)) = .nilm := rfl
@[go_sem] theorem evo_nilifc {P : Program} {e : Env} (o : Option TypeId) : evo P o e (.const .nilIface) = .nili := rfl

@[go_sem] theorem borrow0_nilm : borrow0 .nilm = .nilm := rfl
@[go_sem] theorem borrow0_mapr (o : Nat) : borrow0 (.mapr o) = .mapr o := rfl

/-- Entries of a map from names. -/
def entE (F : VE → AV) (E : List VE) : List (AV × AV) := E.map fun e => (.str e.v.name, F e)
abbrev entA : List VE → List (AV × AV) := entE fun e => .agg e.v.c
abbrev entN : List VE → List (AV × AV) := entE fun e => .bool e.b

theorem keyEq_s (a b : ByteArray) : keyEq (.str a) (.str b) = decide (a = b) := by
  rw [Bool.eq_iff_iff]; simp [keyEq, keyEq1]

theorem afind_ent (F : VE → AV) (nm : ByteArray) : ∀ (E : List VE) (i : Nat), (afind (.str nm) (entE F E) i).map (·.2) = (vFind E nm).map F
  | [], _ => rfl
  | e :: E, i => by
    unfold entE vFind
    rw [List.map_cons, afind, List.find?_cons, keyEq_s]
    by_cases h : e.v.name = nm
    · rw [if_pos (by simp [h])]; simp [h]
    · rw [if_neg (by simp [h])]
      simp only [h, decide_false]
      exact afind_ent F nm E (i + 1)

theorem mapUpd_ent (F : VE → AV) (x : VE) : ∀ E : List VE, mapUpd (entE F E) (.str x.v.name) (F x) = entE F (vUpd E x) := by
  have key : ∀ (E : List VE) (i : Nat), (match afind (.str x.v.name) (entE F E) i with | some (j, _) => (entE F E).set (j - i) (.str x.v.name, F x) | none => entE F E ++ [(.str x.v.name, F x)]) = entE F (vUpd E x) := by
    intro E
    induction E with
    | nil => intro i; rfl
    | cons e E ih =>
      intro i
      unfold entE vUpd
      rw [List.map_cons, afind, keyEq_s]
      by_cases h : e.v.name = x.v.name
      · rw [if_pos (by simp [h]), if_pos h]
        simp
      · rw [if_neg (by simp [h]), if_neg h]
        have ih := ih (i + 1)
        unfold entE at ih
        rw [List.map_cons, ← ih]
        cases ha : afind (.str x.v.name) (E.map fun e => (AV.str e.v.name, F e)) (i + 1) with
        | none => rfl
        | some q =>
          obtain ⟨j, v⟩ := q
          have hj := (afind_get ha).1
          dsimp only
          have : j - i = (j - (i + 1)) + 1 := by omega
          rw [this, List.set_cons_succ]
  intro E
  have h := key E 0
  unfold mapUpd
  cases ha : afind (.str x.v.name) (entE F E) 0 with
  | none => rw [ha] at h; exact h
  | some q => obtain ⟨j, v⟩ := q; rw [ha] at h; exact h

theorem keys_ent {P : Program} {kt : TypeId} (hu : P.underlying kt = some .string) (F : VE → AV) (E : List VE) (s : ByteArray) : keysIn P kt (.str s :: (entE F E).map (·.1)) :=
  keysIn_str hu fun a ha => by
    rcases List.mem_cons.1 ha with rfl | ha
    · exact ⟨_, rfl⟩
    · unfold entE at ha
      rw [List.map_map] at ha
      obtain ⟨e, _, rfl⟩ := List.mem_map.1 ha; exact ⟨_, rfl⟩

/-- No two names are equal. -/
def distV : List VE → Prop
  | [] => True
  | e :: E => (∀ x ∈ E, e.v.name ≠ x.v.name) ∧ distV E
theorem distV_ent (F : VE → AV) : ∀ {E : List VE}, distV E → distK (entE F E)
  | [], _ => List.Pairwise.nil
  | e :: E, h => List.Pairwise.cons (fun q hq => by obtain ⟨y, hy, rfl⟩ := List.mem_map.1 hq; dsimp only; rw [keyEq_s]; simp [h.1 y hy]) (distV_ent F h.2)
theorem vUpd_mem {x y : VE} : ∀ {E : List VE}, y ∈ vUpd E x → y = x ∨ y ∈ E
  | [], h => by unfold vUpd at h; exact .inl (List.mem_singleton.1 h)
  | e :: E, h => by
    unfold vUpd at h
    split at h
    · rcases List.mem_cons.1 h with h | h
      · exact .inl h
      · exact .inr (List.mem_cons_of_mem _ h)
    · rcases List.mem_cons.1 h with h | h
      · exact .inr (h ▸ List.mem_cons_self)
      · rcases vUpd_mem h with h | h
        · exact .inl h
        · exact .inr (List.mem_cons_of_mem _ h)
theorem distV_upd (x : VE) : ∀ {E : List VE}, distV E → distV (vUpd E x)
  | [], _ => ⟨fun _ h => (by cases h), trivial⟩
  | e :: E, h => by
    unfold vUpd
    split
    · rename_i he
      exact ⟨fun y hy => he ▸ h.1 y hy, h.2⟩
    · rename_i he
      refine ⟨fun y hy => ?_, distV_upd x h.2⟩
      rcases vUpd_mem hy with rfl | hy
      · exact he
      · exact h.1 y hy
theorem vUpd_self : ∀ {E : List VE} {nm : ByteArray} {e : VE}, vFind E nm = some e → vUpd E e = E
  | [], _, _, h => by cases h
  | x :: E, nm, e, h => by
    have hn := vFind_name h
    unfold vFind at h
    rw [List.find?_cons] at h
    unfold vUpd
    by_cases hx : x.v.name = nm
    · simp only [hx, decide_true] at h
      cases h
      rw [if_pos rfl]
    · simp only [hx, decide_false] at h
      rw [if_neg (by rw [hn]; exact hx), vUpd_self h]

theorem bnd_ent {F : VE → AV} {n : Nat} {E : List VE} (hF : ∀ e, (F e).bnd n = true) : bndL n (mapc (entE F E)) = true := by
  simp only [mapc, bndL, AV.bnd, Bool.and_true]
  refine bndL_iff.2 fun c hc => ?_
  obtain ⟨p, hp, hc⟩ := List.mem_flatMap.1 hc
  obtain ⟨x, _, rfl⟩ := List.mem_map.1 hp
  rcases List.mem_cons.1 hc with rfl | hc
  · rfl
  · rcases List.mem_singleton.1 hc with rfl
    exact hF x

section
variable {P : Program} {K : Kt} {e : Env} {H : Heap} {d : Tmp} {t kt et : TypeId} {o : Nat}
theorem lkpK_ent (F : VE → AV) (E : List VE) (nm : ByteArray) (ok : Bool) {z : AV} (hu : P.underlying t = some (.map kt et)) (hk : P.underlying kt = some .string) (hz : zeroAV P et = some z) (hm : H[o]? = some (some (mapc (entE F E)))) (hd : distV E)
    (h : K ((d, lkres ok z ((vFind E nm).map fun e => (0, F e))) :: e) H) : lkpK P t ok (.mapr o) (.str nm) d K e H := by
  unfold lkpK
  rw [hu]
  dsimp only
  rw [mapOf_at hm]
  dsimp only
  refine ⟨keys_ent hk F E nm, distV_ent F hd, _, hz, ?_⟩
  have ha := afind_ent F nm E 0
  have : lkres ok z (afind (.str nm) (entE F E) 0) = lkres ok z ((vFind E nm).map fun e => (0, F e)) := by
    cases h1 : afind (.str nm) (entE F E) 0 with
    | none =>
      rw [h1] at ha
      cases h2 : vFind E nm with
      | none => rfl
      | some _ => rw [h2] at ha; cases ha
    | some q =>
      obtain ⟨j, v⟩ := q
      rw [h1] at ha
      cases h2 : vFind E nm with
      | none => rw [h2] at ha; cases ha
      | some x =>
        rw [h2] at ha
        cases ha
        rfl
  rw [this]; exact h

theorem updK_ent (F : VE → AV) (E : List VE) (x : VE) {nm : ByteArray} {v : AV} (hn : nm = x.v.name) (hF : v = F x) (hu : P.underlying t = some (.map kt et)) (hk : P.underlying kt = some .string) (hm : H[o]? = some (some (mapc (entE F E)))) (hd : distV E) (hv : (F x).isVal = true)
    (h : K e (H.set o (some (mapc (entE F (vUpd E x)))))) : updK P t (.mapr o) (.str nm) v K e H := by
  subst hn; subst hF
  unfold updK
  dsimp only
  rw [hu]
  dsimp only
  rw [mapOf_at hm]
  dsimp only
  refine ⟨keys_ent hk F E _, distV_ent F hd, hv, ?_⟩
  rw [mapUpd_ent]; exact h
end

theorem p_EqualI' (a b : List Int) : PCall Tryz.prog 165 [.sl none (lI64 a), .sl none (lI64 b)] (.bool (eqI a b)) := by
  refine PCall.fit call165 fun hf => ?_
  have := pfits hf
  rw [lI64_len] at this
  exact p_EqualI a b this

set_option maxHeartbeats 4000000 in
theorem p_variables (l : List Fld) (hl : l.length ≤ 9223372036854775807) (p : List Stage) (hp : p.length ≤ 9223372036854775807) (hk : ∀ x ∈ p, x.step.kind ≠ 0 → (1 ≤ x.step.kind ∧ x.step.kind ≤ 6) ∧ x.step.key.length ≤ 1073741824) :
    ACall Tryz.prog 90 [.sl none (lFld l), .sl none (lStage p)] [] (fun v H' => (vGo l [] p = none ∧ v = .tup [.nilm, .bool false]) ∨ ∃ E g, vGo l [] p = some E ∧ distV E ∧ v = .tup [.mapr 0, .bool true] ∧ H' = some (mapc (entA E)) :: some (mapc (entN E)) :: g) := by
  refine ACall.of0 h90 mixed h90_d Tryz.func90 call90 rfl (by simp [Tryz.f90]) ?_
  simp only [Tryz.f90, go_sem, ↓reduceIte]
  refine awp_lst p (fun E r => vGo l E r) (fun k E => distV E) (fun k E => [(0, .sl none (lFld l)), (6, .mapr 0), (7, .mapr 1), (21, .sl none (lStage p)), (22, .int .i64 p.length), (23, .int .i64 k)]) (fun k E => [some (mapc (entA E)), some (mapc (entN E))]) [] hp trivial rfl rfl ?_ ?_
  · intro k E x xs hd hx hI hF h0 h1 hw
    have hxm := List.mem_of_getElem? hx
    have hbA : ∀ E, bndL 2 (mapc (entA E)) = true := fun E => bnd_ent fun e => Variable.c_bnd 2 e.v
    have hbN : ∀ E, bndL 2 (mapc (entN E)) = true := fun E => bnd_ent fun e => rfl
    by_cases k0 : x.step.kind = 0
    · have c0 : (x.step.kind == 0) = true := by simp [k0]
      simp only [go_sem, ↓reduceIte, h0, h1, hw, lStage_get hx, c0, hbA, hbN]
      exact ⟨E, by rw [vGo, vStep, if_pos k0], hI, rfl, rfl⟩
    · have c0 : (x.step.kind == 0) = false := by simp [k0]
      obtain ⟨⟨k1, k6⟩, kl⟩ := hk x hxm k0
      simp only [go_sem, ↓reduceIte, h0, h1, hw, lStage_get hx, c0]
      repeat' (first
        | ((first | refine PCallK.intro (p_family _ k1 k6) ?_); simp only [go_sem, ↓reduceIte])
        | ((first | refine condK_split _ _ _ (fun hc => ?_) (fun hc => ?_) | refine gsel_split _ _ _ _ (fun hc => ?_) (fun hc => ?_)) <;> simp only [go_sem, ↓reduceIte, hc, Bool.not_true, Bool.not_false]))
      refine awp_lst x.step.key (fun ws r => ws ++ widS l r) (fun k ws => ws.length = k)
        (fun j ws => [(0, .sl none (lFld l)), (6, .mapr 0), (7, .mapr 1), (10, .ptr 3 0), (11, .ptr 4 0), (21, .sl none (lStage p)), (22, .int .i64 p.length), (23, .int .i64 k), (39, .sl none (lStr x.step.key)), (40, .int .i64 x.step.key.length), (41, .int .i64 j)])
        (fun j ws => [some (mapc (entA E)), some (mapc (entN E)), some x.c, some x.step.c, some (({ name := x.step.var, family := famS x.step.kind, widths := ws, n := 0, m := 0 } : Variable).cf (some 1))]) [] (by omega) rfl rfl rfl ?_ ?_
      · intro j ws y ys hd2 hy hJ hG g0 g1 gw
        have hjl := drop_len hd2
        have hbA5 : bndL 5 (mapc (entA E)) = true := bnd_ent fun e => Variable.c_bnd 5 e.v
        have hbN5 : bndL 5 (mapc (entN E)) = true := bnd_ent fun e => rfl
        simp only [go_sem, ↓reduceIte, g0, g1, gw, lStr_get hy]
        repeat' (first
          | ((first | refine PCallK.intro (p_Find l hl y) ?_); simp only [go_sem, ↓reduceIte, g0, g1, gw, lStr_get hy, hbA5, hbN5])
          | ((first | refine condK_split _ _ _ (fun hc => ?_) (fun hc => ?_) | refine gsel_split _ _ _ _ (fun hc => ?_) (fun hc => ?_)) <;> simp only [go_sem, ↓reduceIte, hc, Bool.not_true, Bool.not_false, g0, g1, gw, lStr_get hy, hbA5, hbN5]))
        exact ⟨by omega, by omega, ws ++ [(findF l y).1.width], by simp [widS], by simp [hJ], rfl, rfl⟩
      · intro ws hJ hG
        have hG : widS l x.step.key = ws := by simpa [widS] using hG
        simp only [go_sem, ↓reduceIte, Int.lt_irrefl, decide_false]
        have hno : vFind E x.step.var = none → vGo l [] p = vGo l (vUpd E ⟨vNew l x.step, numS x.step⟩) xs := fun hf => by
          rw [hF, vGo, vStep, if_neg k0, hf]
        have hye : ∀ e, vFind E x.step.var = some e → vGo l [] p = if vBad l e x.step = true then none else vGo l (if numS x.step = true then vUpd E ⟨vNew l x.step, true⟩ else E) xs := fun e hf => by
          rw [hF, vGo, vStep, if_neg k0, hf]
          dsimp only
          by_cases hb : vBad l e x.step = true
          · rw [if_pos hb, if_pos hb]
          · rw [if_neg hb, if_neg hb]
            by_cases hn : numS x.step = true
            · rw [if_pos hn, if_pos hn]
            · rw [if_neg hn, if_neg hn]
        have hkn : ((x.step.kind == 4) = true ∧ numS x.step = true) ∨ ((x.step.kind == 4) = false ∧ (x.step.kind == 6) = true ∧ numS x.step = true) ∨ ((x.step.kind == 4) = false ∧ (x.step.kind == 6) = false ∧ numS x.step = false) := by
          unfold numS
          cases (x.step.kind == 4) <;> cases (x.step.kind == 6) <;> simp
        rcases hkn with ⟨c4, hn⟩ | ⟨c4, c6, hn⟩ | ⟨c4, c6, hn⟩
        · simp only [c4, go_sem, ↓reduceIte]
          refine lkpK_ent (kt := 9) (et := 134) (z := .agg (Variable.z.cf (some 1))) (fun e => .agg e.v.c) E x.step.var true ?_ ?_ ?_ rfl hI ?_
          · first | simp only [go_sem] | kernel_rfl
          · first | simp only [go_sem] | kernel_rfl
          · first | simp only [go_sem] | kernel_rfl
          cases hf : vFind E x.step.var with
          | none =>
            simp only [Option.map_none, Option.map_some, lkres, go_sem, ↓reduceIte, c4]
            rw [awp_regionD _ _ _ (by simp only [go_sem])]
            simp only [go_sem, ↓reduceIte]
            refine ⟨dynB_ok (by first | rfl | kernel_rfl), ?_⟩
            simp only [go_sem, ↓reduceIte]
            refine updK_ent (kt := 9) (et := 134) (fun e => .agg e.v.c) E ⟨vNew l x.step, numS x.step⟩ rfl ?_ ?_ ?_ rfl hI rfl ?_
            · simp [vNew, hn, hG]; try rfl
            · first | simp only [go_sem] | kernel_rfl
            · first | simp only [go_sem] | kernel_rfl
            simp only [go_sem, ↓reduceIte]
            refine lkpK_ent (kt := 9) (et := 4) (z := .bool false) (fun e => .bool e.b) E x.step.var false ?_ ?_ ?_ rfl hI ?_
            · first | simp only [go_sem] | kernel_rfl
            · first | simp only [go_sem] | kernel_rfl
            · first | simp only [go_sem] | kernel_rfl
            simp only [hf, Option.map_none, lkres, go_sem, ↓reduceIte, c4]
            refine updK_ent (kt := 9) (et := 4) (fun e => .bool e.b) E ⟨vNew l x.step, numS x.step⟩ rfl ?_ ?_ ?_ rfl hI rfl ?_
            · simp [hn]
            · first | simp only [go_sem] | kernel_rfl
            · first | simp only [go_sem] | kernel_rfl
            simp only [go_sem, ↓reduceIte, hw, hbA, hbN]
            exact ⟨_, by rw [← hF, hno hf], distV_upd _ hI, rfl, rfl⟩
          | some e =>
            simp only [Option.map_none, Option.map_some, lkres, go_sem, ↓reduceIte, c4]
            rw [awp_regionD _ _ _ (by simp only [go_sem])]
            simp only [go_sem, ↓reduceIte]
            refine ⟨dynB_ok (by first | rfl | kernel_rfl), ?_⟩
            simp only [go_sem, ↓reduceIte]
            repeat' (first
              | ((first | refine PCallK.intro (p_EqualI' _ _) ?_); simp only [go_sem, ↓reduceIte])
              | ((first | refine condK_split _ _ _ (fun hc => ?_) (fun hc => ?_) | refine gsel_split _ _ _ _ (fun hc => ?_) (fun hc => ?_)) <;> simp only [go_sem, ↓reduceIte, hc, Bool.not_true, Bool.not_false]))
            all_goals first
              | exact .inl (by rw [hye e hf, if_pos (by unfold vBad; rw [hn, hG]; simp_all)])
              | skip
            all_goals
              refine lkpK_ent (kt := 9) (et := 4) (z := .bool false) (fun e => .bool e.b) E x.step.var false ?_ ?_ ?_ rfl hI ?_
              · first | simp only [go_sem] | kernel_rfl
              · first | simp only [go_sem] | kernel_rfl
              · first | simp only [go_sem] | kernel_rfl
              simp only [hf, Option.map_some, lkres, go_sem, ↓reduceIte, c4]
            repeat' (first
              | ((first | refine condK_split _ _ _ (fun hc => ?_) (fun hc => ?_) | refine gsel_split _ _ _ _ (fun hc => ?_) (fun hc => ?_)) <;> simp only [go_sem, ↓reduceIte, hc, Bool.not_true, Bool.not_false]))
            all_goals first
              | exact .inl (by rw [hye e hf, if_pos (by unfold vBad; rw [hn, hG]; simp_all)])
              | skip
            all_goals
              refine updK_ent (kt := 9) (et := 134) (fun e => .agg e.v.c) E ⟨vNew l x.step, true⟩ rfl ?_ ?_ ?_ rfl hI rfl ?_
              · simp [vNew, hn, hG]; try rfl
              · first | simp only [go_sem] | kernel_rfl
              · first | simp only [go_sem] | kernel_rfl
              simp only [go_sem, ↓reduceIte]
              refine lkpK_ent (kt := 9) (et := 4) (z := .bool false) (fun e => .bool e.b) E x.step.var false ?_ ?_ ?_ rfl hI ?_
              · first | simp only [go_sem] | kernel_rfl
              · first | simp only [go_sem] | kernel_rfl
              · first | simp only [go_sem] | kernel_rfl
              simp only [hf, Option.map_some, lkres, go_sem, ↓reduceIte]
              refine gsel_any (fun hb => ?_) (fun hb => ?_)
              all_goals
                simp only [go_sem, ↓reduceIte]
                refine updK_ent (kt := 9) (et := 4) (fun e => .bool e.b) E ⟨vNew l x.step, true⟩ rfl (by rw [hb]; rfl) ?_ ?_ rfl hI rfl ?_
                · first | simp only [go_sem] | kernel_rfl
                · first | simp only [go_sem] | kernel_rfl
                simp only [go_sem, ↓reduceIte, hw, hbA, hbN]
                exact ⟨_, by rw [← hF, hye e hf, if_neg (by unfold vBad; rw [hn, hG]; simp_all), if_pos hn], distV_upd _ hI, rfl, rfl⟩
        · simp only [c4, c6, go_sem, ↓reduceIte]
          refine lkpK_ent (kt := 9) (et := 134) (z := .agg (Variable.z.cf (some 1))) (fun e => .agg e.v.c) E x.step.var true ?_ ?_ ?_ rfl hI ?_
          · first | simp only [go_sem] | kernel_rfl
          · first | simp only [go_sem] | kernel_rfl
          · first | simp only [go_sem] | kernel_rfl
          cases hf : vFind E x.step.var with
          | none =>
            simp only [Option.map_none, Option.map_some, lkres, go_sem, ↓reduceIte, c4, c6]
            rw [awp_regionD _ _ _ (by simp only [go_sem])]
            simp only [go_sem, ↓reduceIte]
            refine ⟨dynB_ok (by first | rfl | kernel_rfl), ?_⟩
            simp only [go_sem, ↓reduceIte]
            refine updK_ent (kt := 9) (et := 134) (fun e => .agg e.v.c) E ⟨vNew l x.step, numS x.step⟩ rfl ?_ ?_ ?_ rfl hI rfl ?_
            · simp [vNew, hn, hG]; try rfl
            · first | simp only [go_sem] | kernel_rfl
            · first | simp only [go_sem] | kernel_rfl
            simp only [go_sem, ↓reduceIte]
            refine lkpK_ent (kt := 9) (et := 4) (z := .bool false) (fun e => .bool e.b) E x.step.var false ?_ ?_ ?_ rfl hI ?_
            · first | simp only [go_sem] | kernel_rfl
            · first | simp only [go_sem] | kernel_rfl
            · first | simp only [go_sem] | kernel_rfl
            simp only [hf, Option.map_none, lkres, go_sem, ↓reduceIte, c4, c6]
            refine updK_ent (kt := 9) (et := 4) (fun e => .bool e.b) E ⟨vNew l x.step, numS x.step⟩ rfl ?_ ?_ ?_ rfl hI rfl ?_
            · simp [hn]
            · first | simp only [go_sem] | kernel_rfl
            · first | simp only [go_sem] | kernel_rfl
            simp only [go_sem, ↓reduceIte, hw, hbA, hbN]
            exact ⟨_, by rw [← hF, hno hf], distV_upd _ hI, rfl, rfl⟩
          | some e =>
            simp only [Option.map_none, Option.map_some, lkres, go_sem, ↓reduceIte, c4, c6]
            rw [awp_regionD _ _ _ (by simp only [go_sem])]
            simp only [go_sem, ↓reduceIte]
            refine ⟨dynB_ok (by first | rfl | kernel_rfl), ?_⟩
            simp only [go_sem, ↓reduceIte]
            repeat' (first
              | ((first | refine PCallK.intro (p_EqualI' _ _) ?_); simp only [go_sem, ↓reduceIte])
              | ((first | refine condK_split _ _ _ (fun hc => ?_) (fun hc => ?_) | refine gsel_split _ _ _ _ (fun hc => ?_) (fun hc => ?_)) <;> simp only [go_sem, ↓reduceIte, hc, Bool.not_true, Bool.not_false]))
            all_goals first
              | exact .inl (by rw [hye e hf, if_pos (by unfold vBad; rw [hn, hG]; simp_all)])
              | skip
            all_goals
              refine lkpK_ent (kt := 9) (et := 4) (z := .bool false) (fun e => .bool e.b) E x.step.var false ?_ ?_ ?_ rfl hI ?_
              · first | simp only [go_sem] | kernel_rfl
              · first | simp only [go_sem] | kernel_rfl
              · first | simp only [go_sem] | kernel_rfl
              simp only [hf, Option.map_some, lkres, go_sem, ↓reduceIte, c4, c6]
            repeat' (first
              | ((first | refine condK_split _ _ _ (fun hc => ?_) (fun hc => ?_) | refine gsel_split _ _ _ _ (fun hc => ?_) (fun hc => ?_)) <;> simp only [go_sem, ↓reduceIte, hc, Bool.not_true, Bool.not_false]))
            all_goals first
              | exact .inl (by rw [hye e hf, if_pos (by unfold vBad; rw [hn, hG]; simp_all)])
              | skip
            all_goals
              refine updK_ent (kt := 9) (et := 134) (fun e => .agg e.v.c) E ⟨vNew l x.step, true⟩ rfl ?_ ?_ ?_ rfl hI rfl ?_
              · simp [vNew, hn, hG]; try rfl
              · first | simp only [go_sem] | kernel_rfl
              · first | simp only [go_sem] | kernel_rfl
              simp only [go_sem, ↓reduceIte]
              refine lkpK_ent (kt := 9) (et := 4) (z := .bool false) (fun e => .bool e.b) E x.step.var false ?_ ?_ ?_ rfl hI ?_
              · first | simp only [go_sem] | kernel_rfl
              · first | simp only [go_sem] | kernel_rfl
              · first | simp only [go_sem] | kernel_rfl
              simp only [hf, Option.map_some, lkres, go_sem, ↓reduceIte]
              refine gsel_any (fun hb => ?_) (fun hb => ?_)
              all_goals
                simp only [go_sem, ↓reduceIte]
                refine updK_ent (kt := 9) (et := 4) (fun e => .bool e.b) E ⟨vNew l x.step, true⟩ rfl (by rw [hb]; rfl) ?_ ?_ rfl hI rfl ?_
                · first | simp only [go_sem] | kernel_rfl
                · first | simp only [go_sem] | kernel_rfl
                simp only [go_sem, ↓reduceIte, hw, hbA, hbN]
                exact ⟨_, by rw [← hF, hye e hf, if_neg (by unfold vBad; rw [hn, hG]; simp_all), if_pos hn], distV_upd _ hI, rfl, rfl⟩
        · simp only [c4, c6, go_sem, ↓reduceIte]
          refine lkpK_ent (kt := 9) (et := 134) (z := .agg (Variable.z.cf (some 1))) (fun e => .agg e.v.c) E x.step.var true ?_ ?_ ?_ rfl hI ?_
          · first | simp only [go_sem] | kernel_rfl
          · first | simp only [go_sem] | kernel_rfl
          · first | simp only [go_sem] | kernel_rfl
          cases hf : vFind E x.step.var with
          | none =>
            simp only [Option.map_none, Option.map_some, lkres, go_sem, ↓reduceIte, c4, c6]
            refine updK_ent (kt := 9) (et := 134) (fun e => .agg e.v.c) E ⟨vNew l x.step, numS x.step⟩ rfl ?_ ?_ ?_ rfl hI rfl ?_
            · simp [vNew, hn, hG]; try rfl
            · first | simp only [go_sem] | kernel_rfl
            · first | simp only [go_sem] | kernel_rfl
            simp only [go_sem, ↓reduceIte]
            refine lkpK_ent (kt := 9) (et := 4) (z := .bool false) (fun e => .bool e.b) E x.step.var false ?_ ?_ ?_ rfl hI ?_
            · first | simp only [go_sem] | kernel_rfl
            · first | simp only [go_sem] | kernel_rfl
            · first | simp only [go_sem] | kernel_rfl
            simp only [hf, Option.map_none, lkres, go_sem, ↓reduceIte, c4, c6]
            refine updK_ent (kt := 9) (et := 4) (fun e => .bool e.b) E ⟨vNew l x.step, numS x.step⟩ rfl ?_ ?_ ?_ rfl hI rfl ?_
            · simp [hn]
            · first | simp only [go_sem] | kernel_rfl
            · first | simp only [go_sem] | kernel_rfl
            simp only [go_sem, ↓reduceIte, hw, hbA, hbN]
            exact ⟨_, by rw [← hF, hno hf], distV_upd _ hI, rfl, rfl⟩
          | some e =>
            simp only [Option.map_none, Option.map_some, lkres, go_sem, ↓reduceIte, c4, c6]
            repeat' (first
              | ((first | refine PCallK.intro (p_EqualI' _ _) ?_); simp only [go_sem, ↓reduceIte])
              | ((first | refine condK_split _ _ _ (fun hc => ?_) (fun hc => ?_) | refine gsel_split _ _ _ _ (fun hc => ?_) (fun hc => ?_)) <;> simp only [go_sem, ↓reduceIte, hc, Bool.not_true, Bool.not_false]))
            all_goals first
              | exact .inl (by rw [hye e hf, if_pos (by unfold vBad; rw [hn, hG]; simp_all)])
              | skip
            refine lkpK_ent (kt := 9) (et := 4) (z := .bool false) (fun e => .bool e.b) E x.step.var false ?_ ?_ ?_ rfl hI ?_
            · first | simp only [go_sem] | kernel_rfl
            · first | simp only [go_sem] | kernel_rfl
            · first | simp only [go_sem] | kernel_rfl
            simp only [hf, Option.map_some, lkres, go_sem, ↓reduceIte]
            refine gsel_any (fun hb => ?_) (fun hb => ?_)
            all_goals
              simp only [go_sem, ↓reduceIte]
              refine updK_ent (kt := 9) (et := 4) (fun e => .bool e.b) E e (vFind_name hf).symm (by rw [hb]; rfl) ?_ ?_ rfl hI rfl ?_
              · first | simp only [go_sem] | kernel_rfl
              · first | simp only [go_sem] | kernel_rfl
              rw [vUpd_self hf]
              simp only [go_sem, ↓reduceIte, hw, hbA, hbN]
              exact ⟨_, by rw [← hF, hye e hf, if_neg (by unfold vBad; rw [hn, hG]; simp_all), if_neg (by simp [hn])], hI, rfl, rfl⟩
  · intro E hI hF
    have hF : vGo l [] p = some E := hF
    simp only [go_sem, ↓reduceIte, Int.lt_irrefl, decide_false]
    exact .inr ⟨E, [], hF, hI, rfl⟩

end Go.AI
