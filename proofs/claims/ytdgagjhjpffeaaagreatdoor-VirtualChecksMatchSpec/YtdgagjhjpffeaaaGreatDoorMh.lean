/- Contracts: fields, parts of predicates and policies. -/
import Derived.Test.YtdgagjhjpffeaaaGreatDoorMg
import Derived.Test.YtdgagjhjpffeaaaGreatDoorMs
set_option linter.unusedSimpArgs false
set_option linter.unusedVariables false
namespace Go.AI
open Go.Proofs
set_option maxRecDepth 50000

theorem c_Port8 : PCall Tryz.prog 176 [] (.agg fldPort.c) := by
  have h : PCall Tryz.prog 176 [] (.agg fldPort.c) := PCall.run evOk0 100 rfl (by kernel_rfl) (by kernel_rfl)
  exact h

theorem find_yes {l : List Fld} {s : ByteArray} {x : Fld} {xs : List Fld} (h : x.name = s) : (x :: xs).find? (fun f => decide (f.name = s)) = some x := by simp [h]
theorem find_no {l : List Fld} {s : ByteArray} {x : Fld} {xs : List Fld} (h : x.name ≠ s) : (x :: xs).find? (fun f => decide (f.name = s)) = xs.find? (fun f => decide (f.name = s)) := by simp [h]

theorem c_Find (l : List Fld) (s : ByteArray) : PCall Tryz.prog 98 [.sl none (lFld l), .str s] (.tup [.agg (findF l s).1.c, .bool (findF l s).2]) := by
  refine PCall.fit call98 fun hf => ?_
  have hl := fits hf
  rw [lFld_len] at hl
  refine PCall.ofB h98 mixed h98_d Tryz.func98 rfl call98 (by simp [Tryz.f98]) (by simp [pureL, AV.pure, go_sem]) (by simp [pureL, AV.pure, go_sem]) ?_
  simp only [Tryz.f98, go_sem, ↓reduceIte, toList_beq]
  repeat' (first
    | ((first | refine PCallK.intro (c_Port8) ?_); simp only [go_sem, ↓reduceIte, toList_beq])
    | ((first | refine condK_split _ _ _ (fun hc => ?_) (fun hc => ?_) | refine gsel_split _ _ _ _ (fun hc => ?_) (fun hc => ?_)) <;> simp only [go_sem, ↓reduceIte, hc, Bool.not_true, Bool.not_false, toList_beq]))
  all_goals first
    | rfl
    | (simp only [findF, portS]; rfl)
    | grind [findF, portS]
    | (simp only [findF, portS]; grind)
    | (simp [findF, portS, *]; done)
    | (simp_all [findF, portS]; done)
    | skip
  · refine awp_all l (fun r => r.find? (fun f => decide (f.name = s))) (fun k => [(0, .sl none (lFld l)), (1, .str s), (4, .ptr 0 0), (6, .int .i64 k)]) hl rfl ?_ ?_
    · intro k y ys hd hx hF h0 h1 hw
      simp only [go_sem, ↓reduceIte, h0, h1, lFld_get hx, toList_beq]
      repeat' (first
        | ((first | refine condK_split _ _ _ (fun hc => ?_) (fun hc => ?_) | refine gsel_split _ _ _ _ (fun hc => ?_) (fun hc => ?_)) <;> simp only [go_sem, ↓reduceIte, hc, Bool.not_true, Bool.not_false, h0, h1, hw, lFld_get hx, toList_beq]))
      all_goals first
        | rfl
        | (simp only [findF, portS]; rfl)
        | grind [findF, portS]
        | (simp only [findF, portS]; grind)
        | (simp [findF, portS, *]; done)
        | (simp_all [findF, portS]; done)
        | skip
    · intro hF hlt
      simp only [go_sem, ↓reduceIte, hlt, decide_false]
      all_goals first
        | rfl
        | (simp only [findF, portS]; rfl)
        | grind [findF, portS]
        | (simp only [findF, portS]; grind)
        | (simp [findF, portS, *]; done)
        | (simp_all [findF, portS]; done)
        | skip

theorem c_power (n : Int) (hn : n < 9223372036854775807) : PCall Tryz.prog 235 [.int .i64 n] (.int .i64 (powW n.toNat)) := by
  refine PCall.of h235 mixed h235_d Tryz.func235 rfl call235 (by simp [Tryz.f235]) (by simp [pureL, AV.pure, go_sem]) rfl ?_
  simp only [Tryz.f235, go_sem, ↓reduceIte]
  refine awp_for n.toNat (fun k => [(0, .int .i64 n), (3, .int .i64 (powW k)), (4, .int .i64 k)]) (fun _ => []) rfl rfl ?_
  intro k hk
  by_cases h : (k : Int) < n
  · have hw := w64s (k := k) (by omega)
    simp only [go_sem, ↓reduceIte, h, decide_true, hw]
    exact ⟨by omega, rfl, rfl⟩
  · have : k = n.toNat := by omega
    subst this
    simp only [go_sem, ↓reduceIte, h, decide_false]

theorem c_maxF (f : Fld) (hn : f.width < 9223372036854775807) : PCall Tryz.prog 255 [.agg f.c] (.int .i64 (maxF f)) := by
  refine PCall.of h255 mixed h255_d Tryz.func255 rfl call255 (by simp [Tryz.f255]) (by simp [pureL, AV.pure, go_sem]) rfl ?_
  simp only [Tryz.f255, go_sem, ↓reduceIte]
  repeat' (first
    | ((first | refine PCallK.intro (c_power _ hn) ?_); simp only [go_sem, ↓reduceIte])
    | ((first | refine condK_split _ _ _ (fun hc => ?_) (fun hc => ?_) | refine gsel_split _ _ _ _ (fun hc => ?_) (fun hc => ?_)) <;> simp only [go_sem, ↓reduceIte, hc, Bool.not_true, Bool.not_false]))
  all_goals first
    | rfl
    | (simp only [maxF]; rfl)
    | grind [maxF]
    | (simp only [maxF]; grind)
    | (simp [maxF, *]; done)
    | (simp_all [maxF]; done)
    | skip

theorem c_ptsP : ∀ x : Pred, bulkL x.c ≤ 1073741824 → PCall Tryz.prog 215 [.agg x.c] (.sl none (lPred (ptsP x))) := by
  refine Pred.ind _ fun x ih => fun hb => ?_
  have hl : x.args.length ≤ 9223372036854775807 := Nat.le_trans (lPred_bn (Pred.bl_args hb)) (by decide)
  have hn := Nat.le_trans (ptsP_len x) hb
  refine PCall.ofB h215 mixed h215_d Tryz.func215 rfl call215 (by simp [Tryz.f215]) (by simp [pureL, AV.pure, go_sem]) (by simp [pureL, AV.pure, go_sem]) ?_
  simp only [Tryz.f215, go_sem, ↓reduceIte]
  refine awp_lst x.args (fun o l => o ++ ptsPs l) (fun _ _ => True) (fun k o => [(1, .ptr 0 0), (3, .sl (some 5) (lPred o)), (4, .int .i64 k)]) (fun k o => [some x.c]) [x] hl trivial (by rw [lPred_eq]; rfl) rfl ?_ ?_
  · intro k o y ys hd hx _ hF h0 h1 hw
    have hm := List.mem_of_getElem? hx
    have hby : bulkL y.c ≤ 1073741824 := by have := lPred_bk (Pred.bl_args hb) hm; simpa only [AV.bulk] using this
    have hlen : o.length + (ptsP y).length ≤ 1073741824 := by
      have := congrArg List.length hF
      rw [ptsPs_cons] at this
      rw [ptsP_eq] at hn
      simp at this hn
      omega
    simp only [go_sem, ↓reduceIte, h0, h1, lPred_get hx]
    repeat' (first
      | ((first | refine PCallK.intro (ih _ hm hby) ?_); simp only [go_sem, ↓reduceIte, h0, h1, hw, lPred_get hx])
      | ((first | refine condK_split _ _ _ (fun hc => ?_) (fun hc => ?_) | refine gsel_split _ _ _ _ (fun hc => ?_) (fun hc => ?_)) <;> simp only [go_sem, ↓reduceIte, hc, Bool.not_true, Bool.not_false, h0, h1, hw, lPred_get hx]))
    exact ⟨by omega, by omega, o ++ ptsP y, by rw [ptsPs_cons, List.append_assoc], rfl, rfl⟩
  · intro o _ hF
    simp only [go_sem, ↓reduceIte, Int.lt_irrefl, decide_false]
    rw [ptsP_eq]
    simp only [ptsPs_nil, List.append_nil] at hF
    rw [← hF]; rfl

theorem c_ptsO : ∀ x : Policy, bulkL x.c ≤ 1073741824 → PCall Tryz.prog 213 [.agg x.c] (.sl none (lPolicy (ptsO x))) := by
  refine Policy.ind _ fun x ih => fun hb => ?_
  have hl : x.args.length ≤ 9223372036854775807 := Nat.le_trans (lPolicy_bn (Policy.bl_args hb)) (by decide)
  have hn := Nat.le_trans (ptsO_len x) hb
  refine PCall.ofB h213 mixed h213_d Tryz.func213 rfl call213 (by simp [Tryz.f213]) (by simp [pureL, AV.pure, go_sem]) (by simp [pureL, AV.pure, go_sem]) ?_
  simp only [Tryz.f213, go_sem, ↓reduceIte]
  refine awp_lst x.args (fun o l => o ++ ptsOs l) (fun _ _ => True) (fun k o => [(1, .ptr 0 0), (3, .sl (some 9) (lPolicy o)), (4, .int .i64 k)]) (fun k o => [some x.c]) [x] hl trivial (by rw [lPolicy_eq]; rfl) rfl ?_ ?_
  · intro k o y ys hd hx _ hF h0 h1 hw
    have hm := List.mem_of_getElem? hx
    have hby : bulkL y.c ≤ 1073741824 := by have := lPolicy_bk (Policy.bl_args hb) hm; simpa only [AV.bulk] using this
    have hlen : o.length + (ptsO y).length ≤ 1073741824 := by
      have := congrArg List.length hF
      rw [ptsOs_cons] at this
      rw [ptsO_eq] at hn
      simp at this hn
      omega
    simp only [go_sem, ↓reduceIte, h0, h1, lPolicy_get hx]
    repeat' (first
      | ((first | refine PCallK.intro (ih _ hm hby) ?_); simp only [go_sem, ↓reduceIte, h0, h1, hw, lPolicy_get hx])
      | ((first | refine condK_split _ _ _ (fun hc => ?_) (fun hc => ?_) | refine gsel_split _ _ _ _ (fun hc => ?_) (fun hc => ?_)) <;> simp only [go_sem, ↓reduceIte, hc, Bool.not_true, Bool.not_false, h0, h1, hw, lPolicy_get hx]))
    exact ⟨by omega, by omega, o ++ ptsO y, by rw [ptsOs_cons, List.append_assoc], rfl, rfl⟩
  · intro o _ hF
    simp only [go_sem, ↓reduceIte, Int.lt_irrefl, decide_false]
    rw [ptsO_eq]
    simp only [ptsOs_nil, List.append_nil] at hF
    rw [← hF]; rfl

theorem c_fitP (l : List Fld) (x : Pred) (hl : ∀ f ∈ l, f.width ≤ 9000000000000000000) : PCall Tryz.prog 216 [.sl none (lFld l), .agg x.c] (.int .i64 (fitP l x)) := by
  have hw : (findF l x.field).1.width < 9223372036854775807 := by
    unfold findF
    split
    · decide
    · split
      · rename_i f hf
        have := hl f (List.mem_of_find?_eq_some hf)
        show f.width < _
        omega
      · decide
  refine PCall.of h216 mixed h216_d Tryz.func216 rfl call216 (by simp [Tryz.f216]) (by simp [pureL, AV.pure, go_sem]) rfl ?_
  simp only [Tryz.f216, go_sem, ↓reduceIte]
  repeat' (first
    | ((first | refine PCallK.intro (c_Find _ _) ?_ | refine PCallK.intro (c_maxF _ hw) ?_); simp only [go_sem, ↓reduceIte])
    | ((first | refine condK_split _ _ _ (fun hc => ?_) (fun hc => ?_) | refine gsel_split _ _ _ _ (fun hc => ?_) (fun hc => ?_)) <;> simp only [go_sem, ↓reduceIte, hc, Bool.not_true, Bool.not_false]))
  all_goals first
    | rfl
    | (simp only [fitP]; rfl)
    | grind [fitP]
    | (simp only [fitP]; grind)
    | (simp [fitP, *]; done)
    | (simp_all [fitP]; done)
    | skip

theorem c_fitA (l : List Fld) (x : Pred) (hl : ∀ f ∈ l, f.width ≤ 9000000000000000000) (hb : bulkL x.c ≤ 1073741824) : PCall Tryz.prog 150 [.sl none (lFld l), .agg x.c] (.int .i64 (fitA l x)) := by
  have hn := Nat.le_trans (ptsP_len x) hb
  refine PCall.of h150 mixed h150_d Tryz.func150 rfl call150 (by simp [Tryz.f150]) (by simp [pureL, AV.pure, go_sem]) rfl ?_
  simp only [Tryz.f150, go_sem, ↓reduceIte]
  repeat' (first
    | ((first | refine PCallK.intro (c_ptsP _ hb) ?_); simp only [go_sem, ↓reduceIte])
    | ((first | refine condK_split _ _ _ (fun hc => ?_) (fun hc => ?_) | refine gsel_split _ _ _ _ (fun hc => ?_) (fun hc => ?_)) <;> simp only [go_sem, ↓reduceIte, hc, Bool.not_true, Bool.not_false]))
  refine awp_all (ptsP x) (fun r => fitGo l r) (fun k => [(0, .sl none (lFld l)), (5, .sl none (lPred (ptsP x))), (6, .int .i64 k)]) (by omega) rfl ?_ ?_
  · intro k y ys hd hx hF h0 h1 hw
    simp only [go_sem, ↓reduceIte, h0, h1, lPred_get hx]
    repeat' (first
      | ((first | refine PCallK.intro (c_fitP _ _ hl) ?_); simp only [go_sem, ↓reduceIte, h0, h1, hw, lPred_get hx])
      | ((first | refine condK_split _ _ _ (fun hc => ?_) (fun hc => ?_) | refine gsel_split _ _ _ _ (fun hc => ?_) (fun hc => ?_)) <;> simp only [go_sem, ↓reduceIte, hc, Bool.not_true, Bool.not_false, h0, h1, hw, lPred_get hx]))
    all_goals first
      | rfl
      | (simp only [fitA, fitGo]; rfl)
      | grind [fitA, fitGo]
      | (simp only [fitA, fitGo]; grind)
      | (simp [fitA, fitGo, *]; done)
      | (simp_all [fitA, fitGo]; done)
      | skip
  · intro hF hlt
    simp only [go_sem, ↓reduceIte, hlt, decide_false]
    all_goals first
      | rfl
      | (simp only [fitA, fitGo]; rfl)
      | grind [fitA, fitGo]
      | (simp only [fitA, fitGo]; grind)
      | (simp [fitA, fitGo, *]; done)
      | (simp_all [fitA, fitGo]; done)
      | skip

end Go.AI

namespace Go.AI
open Go.Proofs
set_option maxRecDepth 50000

abbrev okF (l : List Fld) : Prop := ∀ f ∈ l, f.width ≤ 9000000000000000000

theorem findF_w {l : List Fld} (hl : okF l) (s : ByteArray) : (findF l s).1.width < 9223372036854775807 := by
  unfold findF
  split
  · decide
  · split
    · rename_i f hf
      have := hl f (List.mem_of_find?_eq_some hf)
      show f.width < _
      omega
    · decide

theorem c_numS (s : Stp) : PCall Tryz.prog 256 [.agg s.c] (.bool (numS s)) := by
  refine PCall.of h256 mixed h256_d Tryz.func256 rfl call256 (by simp [Tryz.f256]) (by simp [pureL, AV.pure, go_sem]) rfl ?_
  simp only [Tryz.f256, go_sem, ↓reduceIte]
  repeat' (first
    | ((first | refine condK_split _ _ _ (fun hc => ?_) (fun hc => ?_) | refine gsel_split _ _ _ _ (fun hc => ?_) (fun hc => ?_)) <;> simp only [go_sem, ↓reduceIte, hc, Bool.not_true, Bool.not_false]))
  all_goals first
    | rfl
    | (simp only [numS]; rfl)
    | grind [numS]
    | (simp only [numS]; grind)
    | (simp [numS, *]; done)
    | (simp_all [numS]; done)
    | skip

theorem c_famS (k : Int) : PCall Tryz.prog 258 [.int .i64 k] (.int .i64 (famS k)) := by
  refine PCall.of h258 mixed h258_d Tryz.func258 rfl call258 (by simp [Tryz.f258]) (by simp [pureL, AV.pure, go_sem]) rfl ?_
  simp only [Tryz.f258, go_sem, ↓reduceIte]
  repeat' (first
    | ((first | refine condK_split _ _ _ (fun hc => ?_) (fun hc => ?_) | refine gsel_split _ _ _ _ (fun hc => ?_) (fun hc => ?_)) <;> simp only [go_sem, ↓reduceIte, hc, Bool.not_true, Bool.not_false]))
  all_goals first
    | rfl
    | (simp only [famS]; rfl)
    | grind [famS]
    | (simp only [famS]; grind)
    | (simp [famS, *]; done)
    | (simp_all [famS]; done)
    | skip

theorem c_widS (l : List Fld) (key : List ByteArray) (hk : key.length ≤ 1073741824) : PCall Tryz.prog 257 [.sl none (lFld l), .sl none (lStr key)] (.sl none (lI64 (widS l key))) := by
  refine PCall.ofB h257 mixed h257_d Tryz.func257 rfl call257 (by simp [Tryz.f257]) (by simp [pureL, AV.pure, go_sem]) (by simp [pureL, AV.pure, go_sem]) ?_
  simp only [Tryz.f257, go_sem, ↓reduceIte]
  refine awp_lst key (fun o r => o ++ widS l r) (fun k o => o.length = k) (fun k o => [(0, .sl none (lFld l)), (1, .sl none (lStr key)), (5, .sl (some 1) (lI64 o)), (6, .int .i64 k)]) (fun k o => []) [] (by omega) rfl rfl rfl ?_ ?_
  · intro k o y ys hd hx hI hF h0 h1 hw
    have hk2 := drop_len hd
    simp only [go_sem, ↓reduceIte, h0, h1, lStr_get hx]
    repeat' (first
      | ((first | refine PCallK.intro (c_Find _ _) ?_); simp only [go_sem, ↓reduceIte, h0, h1, hw, lStr_get hx])
      | ((first | refine condK_split _ _ _ (fun hc => ?_) (fun hc => ?_) | refine gsel_split _ _ _ _ (fun hc => ?_) (fun hc => ?_)) <;> simp only [go_sem, ↓reduceIte, hc, Bool.not_true, Bool.not_false, h0, h1, hw, lStr_get hx]))
    exact ⟨by omega, by omega, o ++ [(findF l y).1.width], by simp [widS], by simp [hI], rfl, rfl⟩
  · intro o hI hF
    simp only [go_sem, ↓reduceIte, Int.lt_irrefl, decide_false]
    simp only [widS, List.map_nil, List.append_nil, List.nil_append] at hF
    rw [widS, hF]

theorem c_eqI (a b : List Int) : PCall Tryz.prog 166 [.sl none (lI64 a), .sl none (lI64 b)] (.bool (eqI a b)) := by
  refine PCall.fit call166 fun hf => ?_
  have hl := fits hf
  rw [lI64_len] at hl
  refine PCall.of h166 mixed h166_d Tryz.func166 rfl call166 (by simp [Tryz.f166]) (by simp [pureL, AV.pure, go_sem]) rfl ?_
  simp only [Tryz.f166, go_sem, ↓reduceIte]
  repeat' (first
    | ((first | refine condK_split _ _ _ (fun hc => ?_) (fun hc => ?_) | refine gsel_split _ _ _ _ (fun hc => ?_) (fun hc => ?_)) <;> simp only [go_sem, ↓reduceIte, hc, Bool.not_true, Bool.not_false]))
  all_goals first
    | rfl
    | (simp only [eqI]; rfl)
    | grind [eqI]
    | (simp only [eqI]; grind)
    | (simp [eqI, *]; done)
    | (simp_all [eqI]; done)
    | skip
  have hll : a.length = b.length := by grind
  refine awp_all a (fun r => decide (r = b.drop (a.length - r.length))) (fun k => [(0, .sl none (lI64 a)), (1, .sl none (lI64 b)), (5, .int .i64 k)]) hl rfl ?_ ?_
  · intro k z zs hd hx hF h0 h1 hw
    have hk := drop_len hd
    obtain ⟨w, hy⟩ : ∃ w, b[k]? = some w := ⟨_, List.getElem?_eq_getElem (by omega)⟩
    have e1 : a.length - (zs.length + 1) = k := by omega
    have e2 : a.length - zs.length = k + 1 := by omega
    have e3 : b.drop k = w :: b.drop (k + 1) := by rw [List.drop_eq_getElem_cons (by omega)]; congr 1; grind
    have h2 : (k : Int) < (b.length : Int) := by omega
    simp only [List.length_cons, e1, Nat.sub_self, List.drop_zero, e3] at hF
    simp only [go_sem, ↓reduceIte, h0, h1, h2, lI64_get hx, lI64_get hy, e1, e2, e3]
    repeat' (first
      | ((first | refine condK_split _ _ _ (fun hc => ?_) (fun hc => ?_) | refine gsel_split _ _ _ _ (fun hc => ?_) (fun hc => ?_)) <;> simp only [go_sem, ↓reduceIte, hc, Bool.not_true, Bool.not_false, h0, h1, h2, hw, lI64_get hx, lI64_get hy, e1, e2, e3]))
    all_goals first
      | rfl
      | (simp only [eqI, hF, List.cons.injEq]; rfl)
      | grind [eqI, List.cons.injEq]
      | (simp only [eqI, hF, List.cons.injEq]; grind)
      | (simp [eqI, hF, List.cons.injEq, *]; done)
      | (simp_all [eqI, hF, List.cons.injEq]; done)
      | skip
  · intro hF hlt
    simp only [go_sem, ↓reduceIte, hlt, decide_false]
    simp only [Nat.sub_self, List.drop_zero, List.length_nil, Nat.sub_zero] at hF
    have h3 : b.drop a.length = [] := by rw [hll]; simp
    simp only [h3] at hF
    rw [eqI, hF]; rfl

theorem c_agrS (l : List Fld) (s t : Stp) (h1 : s.key.length ≤ 1073741824) (h2 : t.key.length ≤ 1073741824) : PCall Tryz.prog 212 [.sl none (lFld l), .agg s.c, .agg t.c] (.bool (agrS l s t)) := by
  refine PCall.of h212 mixed h212_d Tryz.func212 rfl call212 (by simp [Tryz.f212]) (by simp [pureL, AV.pure, go_sem]) rfl ?_
  simp only [Tryz.f212, go_sem, ↓reduceIte]
  repeat' (first
    | ((first | refine PCallK.intro (c_numS _) ?_ | refine PCallK.intro (c_widS _ _ h1) ?_ | refine PCallK.intro (c_widS _ _ h2) ?_ | refine PCallK.intro (c_eqI _ _) ?_ | refine PCallK.intro (c_famS _) ?_); simp only [go_sem, ↓reduceIte])
    | ((first | refine condK_split _ _ _ (fun hc => ?_) (fun hc => ?_) | refine gsel_split _ _ _ _ (fun hc => ?_) (fun hc => ?_)) <;> simp only [go_sem, ↓reduceIte, hc, Bool.not_true, Bool.not_false]))
  all_goals first
    | rfl
    | (simp only [agrS]; rfl)
    | grind [agrS]
    | (simp only [agrS]; grind)
    | (simp [agrS, *]; done)
    | (simp_all [agrS]; done)
    | skip

theorem c_ckTP (l : List Fld) (x : Pred) (hl : okF l) (hb : bulkL x.c ≤ 1073741824) : PCall Tryz.prog 67 [.sl none (lFld l), .agg x.c] (.int .i64 (ckTP l x)) := by
  refine PCall.of h67 mixed h67_d Tryz.func67 rfl call67 (by simp [Tryz.f67]) (by simp [pureL, AV.pure, go_sem]) rfl ?_
  simp only [Tryz.f67, go_sem, ↓reduceIte]
  repeat' (first
    | ((first | refine PCallK.intro (c_ckP _ hb) ?_ | refine PCallK.intro (c_fitA _ _ hl hb) ?_); simp only [go_sem, ↓reduceIte])
    | ((first | refine condK_split _ _ _ (fun hc => ?_) (fun hc => ?_) | refine gsel_split _ _ _ _ (fun hc => ?_) (fun hc => ?_)) <;> simp only [go_sem, ↓reduceIte, hc, Bool.not_true, Bool.not_false]))
  all_goals first
    | rfl
    | (simp only [ckTP]; rfl)
    | grind [ckTP]
    | (simp only [ckTP]; grind)
    | (simp [ckTP, *]; done)
    | (simp_all [ckTP]; done)
    | skip

theorem c_ckTO (l : List Fld) (x : Policy) (hl : okF l) (hb : bulkL x.c ≤ 1073741824) : PCall Tryz.prog 210 [.sl none (lFld l), .agg x.c] (.int .i64 (ckTO l x)) := by
  have hn := Nat.le_trans (ptsO_len x) hb
  refine PCall.of h210 mixed h210_d Tryz.func210 rfl call210 (by simp [Tryz.f210]) (by simp [pureL, AV.pure, go_sem]) rfl ?_
  simp only [Tryz.f210, go_sem, ↓reduceIte]
  repeat' (first
    | ((first | refine PCallK.intro (c_ckO _ hb) ?_ | refine PCallK.intro (c_ptsO _ hb) ?_); simp only [go_sem, ↓reduceIte])
    | ((first | refine condK_split _ _ _ (fun hc => ?_) (fun hc => ?_) | refine gsel_split _ _ _ _ (fun hc => ?_) (fun hc => ?_)) <;> simp only [go_sem, ↓reduceIte, hc, Bool.not_true, Bool.not_false]))
  all_goals first
    | rfl
    | (simp only [ckTO]; rfl)
    | grind [ckTO]
    | (simp only [ckTO]; grind)
    | (simp [ckTO, *]; done)
    | (simp_all [ckTO]; done)
    | skip
  refine awp_all (ptsO x) (fun r => polGo l r) (fun k => [(0, .sl none (lFld l)), (5, .int .i64 0), (6, .sl none (lPolicy (ptsO x))), (7, .int .i64 k)]) (by omega) (by grind) ?_ ?_
  · intro k y ys hd hx hF h0 h1 hw
    have hm := List.mem_of_getElem? hx
    have hby := Nat.le_trans (ptsO_bulk x y hm) hb
    simp only [go_sem, ↓reduceIte, h0, h1, lPolicy_get hx]
    repeat' (first
      | ((first | refine PCallK.intro (c_fitA _ _ hl (Policy.bs_pred hby)) ?_ | refine PCallK.intro (c_Find _ _) ?_ | refine PCallK.intro (c_maxF _ (findF_w hl _)) ?_); simp only [go_sem, ↓reduceIte, h0, h1, hw, lPolicy_get hx])
      | ((first | refine condK_split _ _ _ (fun hc => ?_) (fun hc => ?_) | refine gsel_split _ _ _ _ (fun hc => ?_) (fun hc => ?_)) <;> simp only [go_sem, ↓reduceIte, hc, Bool.not_true, Bool.not_false, h0, h1, hw, lPolicy_get hx]))
    all_goals first
      | rfl
      | (simp only [ckTO, polGo, polE, At]; rfl)
      | grind [ckTO, polGo, polE, At]
      | (simp only [ckTO, polGo, polE, At]; grind)
      | (simp [ckTO, polGo, polE, At, *]; done)
      | (simp_all [ckTO, polGo, polE, At]; done)
      | skip
  · intro hF hlt
    simp only [go_sem, ↓reduceIte, hlt, decide_false]
    all_goals first
      | rfl
      | (simp only [ckTO, polGo]; rfl)
      | grind [ckTO, polGo]
      | (simp only [ckTO, polGo]; grind)
      | (simp [ckTO, polGo, *]; done)
      | (simp_all [ckTO, polGo]; done)
      | skip

end Go.AI

namespace Go.AI
open Go.Proofs
set_option maxRecDepth 50000

theorem take_get {α : Type} {l : List α} {i k : Nat} {x : α} (h : (l.take i)[k]? = some x) : l[k]? = some x := by
  rw [List.getElem?_take] at h
  split at h
  · exact h
  · cases h

theorem take_len {α : Type} {l : List α} {i : Nat} (h : i ≤ l.length) : (l.take i).length = i := by simp; omega

set_option maxHeartbeats 2000000 in
theorem c_ckTS (l : List Fld) (s : Stp) (hl : okF l) (hb : bulkL s.c ≤ 1073741824) : PCall Tryz.prog 211 [.sl none (lFld l), .agg s.c] (.int .i64 (ckTS l s)) := by
  have hk : s.key.length ≤ 1073741824 := lStr_bn (Stp.bl_key hb)
  have g0 : s.key.length * 16 ≤ 140737488355328 := by omega
  have g1 : s.key.length ≤ 9223372036854775807 := by omega
  have g2 : (s.key.length + 1) * 16 ≤ 140737488355328 := by omega
  have g3 : s.key.length ≤ 9223372036854775806 := by omega
  refine PCall.of h211 mixed h211_d Tryz.func211 rfl call211 (by simp [Tryz.f211]) (by simp [pureL, AV.pure, go_sem]) rfl ?_
  simp only [Tryz.f211, go_sem, ↓reduceIte, toList_beq]
  repeat' (first
    | ((first | refine PCallK.intro (c_ckS _ hb) ?_); simp only [go_sem, ↓reduceIte, toList_beq, g0, g1, g2, g3])
    | ((first | refine condK_split _ _ _ (fun hc => ?_) (fun hc => ?_) | refine gsel_split _ _ _ _ (fun hc => ?_) (fun hc => ?_)) <;> simp only [go_sem, ↓reduceIte, hc, Bool.not_true, Bool.not_false, toList_beq, g0, g1, g2, g3]))
  all_goals first
    | rfl
    | (simp only [ckTS]; rfl)
    | grind [ckTS]
    | (simp only [ckTS]; grind)
    | (simp [ckTS, *]; done)
    | (simp_all [ckTS]; done)
    | skip
  · have hnm : namesS s = s.key ++ [s.field] := by grind [namesS]
    have hnl : (s.key ++ [s.field]).length ≤ 1073741825 := by first | omega | (simp; omega)
    refine awp_all (s.key ++ [s.field]) (fun r => r.all (fun y => (findF l y).2)) (fun k => [(0, .sl none (lFld l)), (3, .ptr 0 0), (6, .sl (some 1) (lStr (s.key ++ [s.field]))), (7, .int .i64 k)]) (by omega) rfl ?_ ?_
    · intro k y ys hd hx hF h0 h1 hw
      simp only [go_sem, ↓reduceIte, h0, h1, lStr_get hx]
      repeat' (first
        | ((first | refine PCallK.intro (c_Find _ _) ?_); simp only [go_sem, ↓reduceIte, h0, h1, hw, lStr_get hx])
        | ((first | refine condK_split _ _ _ (fun hc => ?_) (fun hc => ?_) | refine gsel_split _ _ _ _ (fun hc => ?_) (fun hc => ?_)) <;> simp only [go_sem, ↓reduceIte, hc, Bool.not_true, Bool.not_false, h0, h1, hw, lStr_get hx]))
      all_goals first
        | (have h5 : (namesS s).all (fun y => (findF l y).2) = false := by rw [hnm, hF]; simp_all
           grind [ckTS])
        | simp_all
    · intro hF hlt
      simp only [go_sem, ↓reduceIte, hlt, decide_false]
      refine awp_all s.key (fun r => apartGo s.key (s.key.length - r.length) r) (fun k => [(0, .sl none (lFld l)), (3, .ptr 0 0), (10, .int .i64 k)]) (by omega) rfl ?_ ?_
      · intro k y ys hd hx hF2 h0 h1 hw
        have hk2 := drop_len hd
        have e1 : s.key.length - (ys.length + 1) = k := by omega
        have e2 : s.key.length - ys.length = k + 1 := by omega
        have ht : (s.key.take k).length = k := take_len (by omega)
        simp only [List.length_cons, e1, Nat.sub_self] at hF2
        simp only [go_sem, ↓reduceIte, h0, h1, e1, e2]
        refine awp_all (s.key.take k) (fun r => r.any (fun z => decide (z = y))) (fun i => [(0, .sl none (lFld l)), (3, .ptr 0 0), (10, .int .i64 k), (11, .int .i64 i)]) (by omega) rfl ?_ ?_
        · intro i z zs hd3 hx3 hF3 h03 h13 hw3
          rw [ht] at h13
          have hx4 := take_get hx3
          have h14 : (i : Int) < (s.key.length : Int) := by omega
          simp only [go_sem, ↓reduceIte, h03, h13, h14, h0, h1, lStr_get hx4, lStr_get hx, toList_beq]
          repeat' (first
            | ((first | refine condK_split _ _ _ (fun hc => ?_) (fun hc => ?_) | refine gsel_split _ _ _ _ (fun hc => ?_) (fun hc => ?_)) <;> simp only [go_sem, ↓reduceIte, hc, Bool.not_true, Bool.not_false, h03, h13, h14, hw3, h0, h1, lStr_get hx4, lStr_get hx, toList_beq]))
          all_goals first
            | (have h5 : apartGo s.key 0 s.key = false := by rw [hF2, apartGo, hF3, List.any_cons, hc]; rfl
               have h6 : (namesS s).all (fun y => (findF l y).2) = true := by rw [hnm, hF]; rfl
               grind [ckTS])
            | (rw [List.any_cons, hc]; rfl)
        · intro hF3 hlt3
          rw [ht] at hlt3
          simp only [go_sem, ↓reduceIte, ht, hlt3, decide_false, hw]
          rw [e1, e2, apartGo, hF3]; rfl
      · intro hF2 hlt2
        have h5 : apartGo s.key 0 s.key = true := by simp only [Nat.sub_self] at hF2; rw [hF2]; rfl
        have h6 : (namesS s).all (fun y => (findF l y).2) = true := by rw [hnm, hF]; rfl
        simp only [go_sem, ↓reduceIte, hlt2, decide_false]
        repeat' (first
          | ((first | refine PCallK.intro (c_Find _ _) ?_ | refine PCallK.intro (c_maxF _ (findF_w hl _)) ?_); simp only [go_sem, ↓reduceIte])
          | ((first | refine condK_split _ _ _ (fun hc => ?_) (fun hc => ?_) | refine gsel_split _ _ _ _ (fun hc => ?_) (fun hc => ?_)) <;> simp only [go_sem, ↓reduceIte, hc, Bool.not_true, Bool.not_false]))
        all_goals grind [ckTS]
  · have hnm : namesS s = s.key := by grind [namesS]
    have hnl : (s.key).length ≤ 1073741825 := by first | omega | (simp; omega)
    refine awp_all (s.key) (fun r => r.all (fun y => (findF l y).2)) (fun k => [(0, .sl none (lFld l)), (3, .ptr 0 0), (6, .sl (some 1) (lStr (s.key))), (7, .int .i64 k)]) (by omega) rfl ?_ ?_
    · intro k y ys hd hx hF h0 h1 hw
      simp only [go_sem, ↓reduceIte, h0, h1, lStr_get hx]
      repeat' (first
        | ((first | refine PCallK.intro (c_Find _ _) ?_); simp only [go_sem, ↓reduceIte, h0, h1, hw, lStr_get hx])
        | ((first | refine condK_split _ _ _ (fun hc => ?_) (fun hc => ?_) | refine gsel_split _ _ _ _ (fun hc => ?_) (fun hc => ?_)) <;> simp only [go_sem, ↓reduceIte, hc, Bool.not_true, Bool.not_false, h0, h1, hw, lStr_get hx]))
      all_goals first
        | (have h5 : (namesS s).all (fun y => (findF l y).2) = false := by rw [hnm, hF]; simp_all
           grind [ckTS])
        | simp_all
    · intro hF hlt
      simp only [go_sem, ↓reduceIte, hlt, decide_false]
      refine awp_all s.key (fun r => apartGo s.key (s.key.length - r.length) r) (fun k => [(0, .sl none (lFld l)), (3, .ptr 0 0), (10, .int .i64 k)]) (by omega) rfl ?_ ?_
      · intro k y ys hd hx hF2 h0 h1 hw
        have hk2 := drop_len hd
        have e1 : s.key.length - (ys.length + 1) = k := by omega
        have e2 : s.key.length - ys.length = k + 1 := by omega
        have ht : (s.key.take k).length = k := take_len (by omega)
        simp only [List.length_cons, e1, Nat.sub_self] at hF2
        simp only [go_sem, ↓reduceIte, h0, h1, e1, e2]
        refine awp_all (s.key.take k) (fun r => r.any (fun z => decide (z = y))) (fun i => [(0, .sl none (lFld l)), (3, .ptr 0 0), (10, .int .i64 k), (11, .int .i64 i)]) (by omega) rfl ?_ ?_
        · intro i z zs hd3 hx3 hF3 h03 h13 hw3
          rw [ht] at h13
          have hx4 := take_get hx3
          have h14 : (i : Int) < (s.key.length : Int) := by omega
          simp only [go_sem, ↓reduceIte, h03, h13, h14, h0, h1, lStr_get hx4, lStr_get hx, toList_beq]
          repeat' (first
            | ((first | refine condK_split _ _ _ (fun hc => ?_) (fun hc => ?_) | refine gsel_split _ _ _ _ (fun hc => ?_) (fun hc => ?_)) <;> simp only [go_sem, ↓reduceIte, hc, Bool.not_true, Bool.not_false, h03, h13, h14, hw3, h0, h1, lStr_get hx4, lStr_get hx, toList_beq]))
          all_goals first
            | (have h5 : apartGo s.key 0 s.key = false := by rw [hF2, apartGo, hF3, List.any_cons, hc]; rfl
               have h6 : (namesS s).all (fun y => (findF l y).2) = true := by rw [hnm, hF]; rfl
               grind [ckTS])
            | (rw [List.any_cons, hc]; rfl)
        · intro hF3 hlt3
          rw [ht] at hlt3
          simp only [go_sem, ↓reduceIte, ht, hlt3, decide_false, hw]
          rw [e1, e2, apartGo, hF3]; rfl
      · intro hF2 hlt2
        have h5 : apartGo s.key 0 s.key = true := by simp only [Nat.sub_self] at hF2; rw [hF2]; rfl
        have h6 : (namesS s).all (fun y => (findF l y).2) = true := by rw [hnm, hF]; rfl
        simp only [go_sem, ↓reduceIte, hlt2, decide_false]
        repeat' (first
          | ((first | refine PCallK.intro (c_Find _ _) ?_ | refine PCallK.intro (c_maxF _ (findF_w hl _)) ?_); simp only [go_sem, ↓reduceIte])
          | ((first | refine condK_split _ _ _ (fun hc => ?_) (fun hc => ?_) | refine gsel_split _ _ _ _ (fun hc => ?_) (fun hc => ?_)) <;> simp only [go_sem, ↓reduceIte, hc, Bool.not_true, Bool.not_false]))
        all_goals grind [ckTS]

theorem c_ckT (l : List Fld) (p : List Stage) (hl : okF l) (hb : bulkL (lStage p) ≤ 1073741824) : PCall Tryz.prog 146 [.sl none (lFld l), .sl none (lStage p)] (.int .i64 (ckT l p)) := by
  have hn := lStage_bn hb
  refine PCall.of h146 mixed h146_d Tryz.func146 rfl call146 (by simp [Tryz.f146]) (by simp [pureL, AV.pure, go_sem]) rfl ?_
  simp only [Tryz.f146, go_sem, ↓reduceIte]
  repeat' (first
    | ((first | refine PCallK.intro (c_ckG _ hb) ?_); simp only [go_sem, ↓reduceIte])
    | ((first | refine condK_split _ _ _ (fun hc => ?_) (fun hc => ?_) | refine gsel_split _ _ _ _ (fun hc => ?_) (fun hc => ?_)) <;> simp only [go_sem, ↓reduceIte, hc, Bool.not_true, Bool.not_false]))
  all_goals first
    | rfl
    | (simp only [ckT]; rfl)
    | grind [ckT]
    | (simp only [ckT]; grind)
    | (simp [ckT, *]; done)
    | (simp_all [ckT]; done)
    | skip
  refine awp_all p (fun r => stGo l r) (fun k => [(0, .sl none (lFld l)), (1, .sl none (lStage p)), (6, .int .i64 k)]) (by omega) rfl ?_ ?_
  · intro k y ys hd hx hF h0 h1 hw
    have hby : bulkL y.c ≤ 1073741824 := by have := lStage_bk hb (List.mem_of_getElem? hx); simpa only [AV.bulk] using this
    simp only [go_sem, ↓reduceIte, h0, h1, lStage_get hx]
    repeat' (first
      | ((first | refine PCallK.intro (c_ckTO _ _ hl (Stage.bs_policy hby)) ?_ | refine PCallK.intro (c_ckTS _ _ hl (Stage.bs_step hby)) ?_); simp only [go_sem, ↓reduceIte, h0, h1, hw, lStage_get hx])
      | ((first | refine condK_split _ _ _ (fun hc => ?_) (fun hc => ?_) | refine gsel_split _ _ _ _ (fun hc => ?_) (fun hc => ?_)) <;> simp only [go_sem, ↓reduceIte, hc, Bool.not_true, Bool.not_false, h0, h1, hw, lStage_get hx]))
    all_goals first
      | rfl
      | (simp only [ckT, stGo]; rfl)
      | grind [ckT, stGo]
      | (simp only [ckT, stGo]; grind)
      | (simp [ckT, stGo, *]; done)
      | (simp_all [ckT, stGo]; done)
      | skip
  · intro hF hlt
    simp only [go_sem, ↓reduceIte, hlt, decide_false]
    refine awp_all p (fun r => typGo l p (p.length - r.length) r) (fun k => [(0, .sl none (lFld l)), (1, .sl none (lStage p)), (9, .int .i64 k)]) (by omega) rfl ?_ ?_
    · intro k y ys hd hx hF2 h0 h1 hw
      have hk := drop_len hd
      have e1 : p.length - (ys.length + 1) = k := by omega
      have e2 : p.length - ys.length = k + 1 := by omega
      have hby : bulkL y.c ≤ 1073741824 := by have := lStage_bk hb (List.mem_of_getElem? hx); simpa only [AV.bulk] using this
      have hy := lStr_bn (Stp.bl_key (Stage.bs_step hby))
      have ht : (p.take k).length = k := take_len (by omega)
      simp only [List.length_cons, e1, Nat.sub_self] at hF2
      simp only [go_sem, ↓reduceIte, h0, h1, lStage_get hx, e1, e2]
      refine awp_all (p.take k) (fun r => r.any (fun z => clash l z.step y.step)) (fun i => [(0, .sl none (lFld l)), (1, .sl none (lStage p)), (9, .int .i64 k), (10, .int .i64 i)]) (by omega) rfl ?_ ?_
      · intro i z zs hd3 hx3 hF3 h03 h13 hw3
        rw [ht] at h13
        have hx4 := take_get hx3
        have h14 : (i : Int) < (p.length : Int) := by omega
        have hbz : bulkL z.c ≤ 1073741824 := by have := lStage_bk hb (List.mem_of_getElem? hx4); simpa only [AV.bulk] using this
        have hz := lStr_bn (Stp.bl_key (Stage.bs_step hbz))
        simp only [go_sem, ↓reduceIte, h03, h13, h14, h0, h1, lStage_get hx4, lStage_get hx, toList_beq]
        repeat' (first
          | ((first | refine PCallK.intro (c_agrS _ _ _ hz hy) ?_); simp only [go_sem, ↓reduceIte, h03, h13, h14, hw3, h0, h1, lStage_get hx4, lStage_get hx, toList_beq])
          | ((first | refine condK_split _ _ _ (fun hc => ?_) (fun hc => ?_) | refine gsel_split _ _ _ _ (fun hc => ?_) (fun hc => ?_)) <;> simp only [go_sem, ↓reduceIte, hc, Bool.not_true, Bool.not_false, h03, h13, h14, hw3, h0, h1, lStage_get hx4, lStage_get hx, toList_beq]))
        all_goals first
          | (have hcl : clash l z.step y.step = true := by grind [clash]
             have h5 : typGo l p 0 p = false := by rw [hF2, typGo, hF3, List.any_cons, hcl]; rfl
             grind [ckT, stGo])
          | grind [clash]
      · intro hF3 hlt3
        rw [ht] at hlt3
        simp only [go_sem, ↓reduceIte, ht, hlt3, decide_false, hw]
        rw [e1, e2, typGo, hF3]; rfl
    · intro hF2 hlt2
      simp only [go_sem, ↓reduceIte, hlt2, decide_false]
      all_goals first
        | rfl
        | (simp only [ckT, typGo, stGo]; rfl)
        | grind [ckT, typGo, stGo]
        | (simp only [ckT, typGo, stGo]; grind)
        | (simp [ckT, typGo, stGo, *]; done)
        | (simp_all [ckT, typGo, stGo]; done)
        | skip

theorem c_putI (l : List Int) (n : Int) (hl : l.length ≤ 1073741824) : PCall Tryz.prog 214 [.sl none (lI64 l), .int .i64 n] (.sl none (lI64 (putI l n))) := by
  refine PCall.ofB h214 mixed h214_d Tryz.func214 rfl call214 (by simp [Tryz.f214]) (by simp [pureL, AV.pure, go_sem]) (by simp [pureL, AV.pure, go_sem]) ?_
  simp only [Tryz.f214, go_sem, ↓reduceIte]
  refine awp_lst l (fun (s : List Int × Bool) r => s.1 ++ putGo n s.2 r) (fun k s => s.1.length ≤ 2 * k) (fun k s => [(0, .sl none (lI64 l)), (1, .int .i64 n), (5, .sl (some 1) (lI64 s.1)), (6, .bool s.2), (7, .int .i64 k)]) (fun k o => []) ([], false) (by omega) (by simp) rfl rfl ?_ ?_
  · intro k s y ys hd hx hI hF h0 h1 hw
    have hk2 := drop_len hd
    have g1 : (s.1.length + 1) * 8 ≤ 140737488355328 := by omega
    have g2 : s.1.length ≤ 9223372036854775806 := by omega
    have g3 : (s.1.length + 1 + 1) * 8 ≤ 140737488355328 := by omega
    have g4 : s.1.length + 1 ≤ 9223372036854775806 := by omega
    have g5 : s.1.length ≤ 9223372036854775805 := by omega
    simp only [go_sem, ↓reduceIte, h0, h1, lI64_get hx]
    repeat' (first
      | ((first | refine condK_split _ _ _ (fun hc => ?_) (fun hc => ?_) | refine gsel_split _ _ _ _ (fun hc => ?_) (fun hc => ?_)) <;> simp only [go_sem, ↓reduceIte, hc, Bool.not_true, Bool.not_false, h0, h1, hw, lI64_get hx, List.length_append, List.length_singleton, g1, g2, g3, g4, g5]))
    all_goals first
      | exact ⟨(s.1 ++ [n, y], true), by grind [putGo], by simp; omega, rfl, rfl⟩
      | exact ⟨(s.1 ++ [n], true), by grind [putGo], by simp; omega, rfl, rfl⟩
      | exact ⟨(s.1 ++ [y], s.2), by grind [putGo], by simp; omega, rfl, rfl⟩
      | exact ⟨(s.1, s.2), by grind [putGo], by simp; omega, rfl, rfl⟩
      | skip
  · intro s hI hF
    have g1 : (s.1.length + 1) * 8 ≤ 140737488355328 := by omega
    have g2 : s.1.length ≤ 9223372036854775806 := by omega
    simp only [go_sem, ↓reduceIte, Int.lt_irrefl, decide_false]
    repeat' (first
      | ((first | refine condK_split _ _ _ (fun hc => ?_) (fun hc => ?_) | refine gsel_split _ _ _ _ (fun hc => ?_) (fun hc => ?_)) <;> simp only [go_sem, ↓reduceIte, hc, Bool.not_true, Bool.not_false, g1, g2]))
    all_goals first
      | rfl
      | (simp only [putI, putGo]; rfl)
      | grind [putI, putGo]
      | (simp only [putI, putGo]; grind)
      | (simp [putI, putGo, *]; done)
      | (simp_all [putI, putGo]; done)
      | skip

end Go.AI

namespace Go.AI
open Go.Proofs
set_option maxRecDepth 50000

theorem c_isPort (t : Tenant) (n : Int) : PCall Tryz.prog 72 [.agg t.c, .int .i64 n] (.bool (isPortB t n)) := by
  refine PCall.of h72 mixed h72_d Tryz.func72 rfl call72 (by simp [Tryz.f72]) (by simp [pureL, AV.pure, go_sem]) rfl ?_
  simp only [Tryz.f72, go_sem, ↓reduceIte]
  repeat' (first
    | ((first | refine condK_split _ _ _ (fun hc => ?_) (fun hc => ?_) | refine gsel_split _ _ _ _ (fun hc => ?_) (fun hc => ?_)) <;> simp only [go_sem, ↓reduceIte, hc, Bool.not_true, Bool.not_false]))
  all_goals first
    | rfl
    | (simp only [isPortB]; rfl)
    | grind [isPortB]
    | (simp only [isPortB]; grind)
    | (simp [isPortB, *]; done)
    | (simp_all [isPortB]; done)
    | skip

theorem port_get {t : Tenant} {n : Int} (h : isPortB t n = true) : 0 ≤ n ∧ n < (t.ports.length : Int) ∧ ∃ p, t.ports[n.toNat]? = some p ∧ edgeAt t n = p.edge ∧ (lPort t.ports)[n.toNat]? = some (.agg p.c) := by
  simp only [isPortB, Bool.and_eq_true, decide_eq_true_eq] at h
  have hg := List.getElem?_eq_getElem (l := t.ports) (i := n.toNat) (by omega)
  exact ⟨h.1, h.2, _, hg, by simp [edgeAt, hg], lPort_get hg⟩

theorem c_inner (t : Tenant) (n : Int) : PCall Tryz.prog 145 [.agg t.c, .int .i64 n] (.bool (innerB t n)) := by
  refine PCall.of h145 mixed h145_d Tryz.func145 rfl call145 (by simp [Tryz.f145]) (by simp [pureL, AV.pure, go_sem]) rfl ?_
  cases hp : isPortB t n with
  | false =>
    simp only [Tryz.f145, go_sem, ↓reduceIte]
    repeat' (first
      | ((first | refine PCallK.intro (c_isPort _ _) ?_); simp only [go_sem, ↓reduceIte, hp])
      | ((first | refine condK_split _ _ _ (fun hc => ?_) (fun hc => ?_) | refine gsel_split _ _ _ _ (fun hc => ?_) (fun hc => ?_)) <;> simp only [go_sem, ↓reduceIte, hc, Bool.not_true, Bool.not_false, hp]))
    all_goals first
      | rfl
      | (simp only [innerB]; rfl)
      | grind [innerB]
      | (simp only [innerB]; grind)
      | (simp [innerB, *]; done)
      | (simp_all [innerB]; done)
      | skip
  | true =>
    obtain ⟨h1, h2, p, h3, h4, h5⟩ := port_get hp
    simp only [Tryz.f145, go_sem, ↓reduceIte]
    repeat' (first
      | ((first | refine PCallK.intro (c_isPort _ _) ?_); simp only [go_sem, ↓reduceIte, hp, h1, h2, h5])
      | ((first | refine condK_split _ _ _ (fun hc => ?_) (fun hc => ?_) | refine gsel_split _ _ _ _ (fun hc => ?_) (fun hc => ?_)) <;> simp only [go_sem, ↓reduceIte, hc, Bool.not_true, Bool.not_false, hp, h1, h2, h5]))
    all_goals first
      | rfl
      | (simp only [innerB]; rfl)
      | grind [innerB]
      | (simp only [innerB]; grind)
      | (simp [innerB, *]; done)
      | (simp_all [innerB]; done)
      | skip

theorem c_outer (t : Tenant) (n : Int) : PCall Tryz.prog 70 [.agg t.c, .int .i64 n] (.bool (outerB t n)) := by
  refine PCall.of h70 mixed h70_d Tryz.func70 rfl call70 (by simp [Tryz.f70]) (by simp [pureL, AV.pure, go_sem]) rfl ?_
  cases hp : isPortB t n with
  | false =>
    simp only [Tryz.f70, go_sem, ↓reduceIte]
    repeat' (first
      | ((first | refine PCallK.intro (c_isPort _ _) ?_); simp only [go_sem, ↓reduceIte, hp])
      | ((first | refine condK_split _ _ _ (fun hc => ?_) (fun hc => ?_) | refine gsel_split _ _ _ _ (fun hc => ?_) (fun hc => ?_)) <;> simp only [go_sem, ↓reduceIte, hc, Bool.not_true, Bool.not_false, hp]))
    all_goals first
      | rfl
      | (simp only [outerB]; rfl)
      | grind [outerB]
      | (simp only [outerB]; grind)
      | (simp [outerB, *]; done)
      | (simp_all [outerB]; done)
      | skip
  | true =>
    obtain ⟨h1, h2, p, h3, h4, h5⟩ := port_get hp
    simp only [Tryz.f70, go_sem, ↓reduceIte]
    repeat' (first
      | ((first | refine PCallK.intro (c_isPort _ _) ?_); simp only [go_sem, ↓reduceIte, hp, h1, h2, h5])
      | ((first | refine condK_split _ _ _ (fun hc => ?_) (fun hc => ?_) | refine gsel_split _ _ _ _ (fun hc => ?_) (fun hc => ?_)) <;> simp only [go_sem, ↓reduceIte, hc, Bool.not_true, Bool.not_false, hp, h1, h2, h5]))
    all_goals first
      | rfl
      | (simp only [outerB]; rfl)
      | grind [outerB]
      | (simp only [outerB]; grind)
      | (simp [outerB, *]; done)
      | (simp_all [outerB]; done)
      | skip

theorem c_has (l : List ByteArray) (s : ByteArray) : PCall Tryz.prog 148 [.sl none (lStr l), .str s] (.bool (hasS l s)) := by
  refine PCall.fit call148 fun hf => ?_
  have hl := fits hf
  rw [lStr_len] at hl
  refine PCall.of h148 mixed h148_d Tryz.func148 rfl call148 (by simp [Tryz.f148]) (by simp [pureL, AV.pure, go_sem]) rfl ?_
  simp only [Tryz.f148, go_sem, ↓reduceIte]
  refine awp_all l (fun r => r.any (fun y => decide (y = s))) (fun k => [(0, .sl none (lStr l)), (1, .str s), (5, .int .i64 k)]) hl rfl ?_ ?_
  · intro k y ys hd hx hF h0 h1 hw
    simp only [go_sem, ↓reduceIte, h0, h1, lStr_get hx, toList_beq]
    repeat' (first
      | ((first | refine condK_split _ _ _ (fun hc => ?_) (fun hc => ?_) | refine gsel_split _ _ _ _ (fun hc => ?_) (fun hc => ?_)) <;> simp only [go_sem, ↓reduceIte, hc, Bool.not_true, Bool.not_false, h0, h1, hw, lStr_get hx, toList_beq]))
    all_goals first
      | (rw [hasS, hF, List.any_cons, hc]; rfl)
      | (rw [List.any_cons, hc]; rfl)
  · intro hF hlt
    simp only [go_sem, ↓reduceIte, hlt, decide_false]
    rw [hasS, hF]; rfl

theorem c_portsO (x : Policy) (hb : bulkL x.c ≤ 1073741824) : PCall Tryz.prog 147 [.agg x.c] (.sl none (lI64 (portsO x))) := by
  have hn := Nat.le_trans (ptsO_len x) hb
  refine PCall.ofB h147 mixed h147_d Tryz.func147 rfl call147 (by simp [Tryz.f147]) (by simp [pureL, AV.pure, go_sem]) (by simp [pureL, AV.pure, go_sem]) ?_
  simp only [Tryz.f147, go_sem, ↓reduceIte]
  repeat' (first
    | ((first | refine PCallK.intro (c_ptsO _ hb) ?_); simp only [go_sem, ↓reduceIte])
    | ((first | refine condK_split _ _ _ (fun hc => ?_) (fun hc => ?_) | refine gsel_split _ _ _ _ (fun hc => ?_) (fun hc => ?_)) <;> simp only [go_sem, ↓reduceIte, hc, Bool.not_true, Bool.not_false]))
  have step : ∀ (y : Policy) (ys : List Policy) (o : List Int), portGo o (y :: ys) = portGo (if y.kind = 2 ∧ y.field = portS then putI o y.n else o) ys := fun y ys o => by rw [portGo]
  have len1 : ∀ (o : List Int) (n : Int), (putI o n).length ≤ o.length + 1 := fun o n => putI_len o n
  refine awp_lst (ptsO x) (fun (o : Option Nat × List Int) r => portGo o.2 r) (fun k o => o.2.length ≤ k) (fun k o => [(3, .sl o.1 (lI64 o.2)), (4, .sl none (lPolicy (ptsO x))), (5, .int .i64 k)]) (fun k o => [some x.c]) (some 1, []) (by omega) (by simp) rfl rfl ?_ ?_
  · intro k o y ys hd hx hI hF h0 h1 hw
    have hk2 := drop_len hd
    simp only [go_sem, ↓reduceIte, h0, h1, lPolicy_get hx, toList_beq]
    repeat' (first
      | ((first | refine PCallK.intro (c_putI o.2 y.n (show o.2.length ≤ 1073741824 by omega)) ?_); simp only [go_sem, ↓reduceIte, h0, h1, hw, lPolicy_get hx, toList_beq])
      | ((first | refine condK_split _ _ _ (fun hc => ?_) (fun hc => ?_) | refine gsel_split _ _ _ _ (fun hc => ?_) (fun hc => ?_)) <;> simp only [go_sem, ↓reduceIte, hc, Bool.not_true, Bool.not_false, h0, h1, hw, lPolicy_get hx, toList_beq]))
    all_goals first
      | exact ⟨(none, putI o.2 y.n), by rw [step, if_pos (by simp_all [portS])], by have := len1 o.2 y.n; simp only; omega, rfl, rfl⟩
      | exact ⟨o, by rw [step, if_neg (by simp_all [portS])], by omega, rfl, rfl⟩
      | skip
  · intro o hI hF
    simp only [go_sem, ↓reduceIte, Int.lt_irrefl, decide_false]
    rw [portsO, hF, portGo]

theorem c_ckPr (s : Setup) (t : Tenant) (hl : okF s.fields) (hb : bulkL t.c ≤ 1073741824) : PCall Tryz.prog 66 [.agg s.c, .agg t.c] (.int .i64 (ckPr s t)) := by
  have hbp := Tenant.bl_program hb
  have hn := lStage_bn hbp
  refine PCall.of h66 mixed h66_d Tryz.func66 rfl call66 (by simp [Tryz.f66]) (by simp [pureL, AV.pure, go_sem]) rfl ?_
  simp only [Tryz.f66, go_sem, ↓reduceIte, toList_beq]
  repeat' (first
    | ((first | refine PCallK.intro (c_ckT _ _ hl hbp) ?_); simp only [go_sem, ↓reduceIte, toList_beq])
    | ((first | refine condK_split _ _ _ (fun hc => ?_) (fun hc => ?_) | refine gsel_split _ _ _ _ (fun hc => ?_) (fun hc => ?_)) <;> simp only [go_sem, ↓reduceIte, hc, Bool.not_true, Bool.not_false, toList_beq]))
  all_goals first
    | rfl
    | (simp only [ckPr]; rfl)
    | grind [ckPr]
    | (simp only [ckPr]; grind)
    | (simp [ckPr, *]; done)
    | (simp_all [ckPr]; done)
    | skip
  refine awp_all t.program (fun r => ckPrGo t r) (fun k => [(3, .ptr 1 0), (6, .int .i64 k)]) (by omega) rfl ?_ ?_
  · intro k y ys hd hx hF h0 h1 hw
    have hby : bulkL y.c ≤ 1073741824 := by have := lStage_bk hbp (List.mem_of_getElem? hx); simpa only [AV.bulk] using this
    have hp1 := portsO_len y.policy
    have hp2 := Nat.le_trans (ptsO_len y.policy) (Stage.bs_policy hby)
    simp only [go_sem, ↓reduceIte, h0, h1, lStage_get hx, toList_beq]
    repeat' (first
      | ((first | refine PCallK.intro (c_portsO _ (Stage.bs_policy hby)) ?_); simp only [go_sem, ↓reduceIte, h0, h1, hw, lStage_get hx, toList_beq])
      | ((first | refine condK_split _ _ _ (fun hc => ?_) (fun hc => ?_) | refine gsel_split _ _ _ _ (fun hc => ?_) (fun hc => ?_)) <;> simp only [go_sem, ↓reduceIte, hc, Bool.not_true, Bool.not_false, h0, h1, hw, lStage_get hx, toList_beq]))
    refine awp_all (portsO y.policy) (fun r => r.all (isPortB t)) (fun i => [(3, .ptr 1 0), (6, .int .i64 k), (7, .sl none (lI64 (portsO y.policy))), (8, .int .i64 i)]) (by omega) rfl ?_ ?_
    · intro i z zs hd3 hx3 hF3 h03 h13 hw3
      simp only [go_sem, ↓reduceIte, h03, h13, lI64_get hx3]
      repeat' (first
        | ((first | refine PCallK.intro (c_isPort _ _) ?_); simp only [go_sem, ↓reduceIte, h03, h13, hw3, lI64_get hx3])
        | ((first | refine condK_split _ _ _ (fun hc => ?_) (fun hc => ?_) | refine gsel_split _ _ _ _ (fun hc => ?_) (fun hc => ?_)) <;> simp only [go_sem, ↓reduceIte, hc, Bool.not_true, Bool.not_false, h03, h13, hw3, lI64_get hx3]))
      all_goals first
        | (have h5 : (portsO y.policy).all (isPortB t) = false := by rw [hF3, List.all_cons]; simp_all
           grind [ckPr, ckPrGo])
        | simp_all
    · intro hF3 hlt3
      have h5 : (portsO y.policy).all (isPortB t) = true := by rw [hF3]; rfl
      simp only [go_sem, ↓reduceIte, hlt3, decide_false, h0, h1, lStage_get hx, toList_beq]
      repeat' (first
        | ((first | refine PCallK.intro (c_has _ _) ?_); simp only [go_sem, ↓reduceIte, h0, h1, hw, lStage_get hx, toList_beq])
        | ((first | refine condK_split _ _ _ (fun hc => ?_) (fun hc => ?_) | refine gsel_split _ _ _ _ (fun hc => ?_) (fun hc => ?_)) <;> simp only [go_sem, ↓reduceIte, hc, Bool.not_true, Bool.not_false, h0, h1, hw, lStage_get hx, toList_beq]))
      all_goals first
        | rfl
        | (simp only [ckPr, ckPrGo, portS]; rfl)
        | grind [ckPr, ckPrGo, portS]
        | (simp only [ckPr, ckPrGo, portS]; grind)
        | (simp [ckPr, ckPrGo, portS, *]; done)
        | (simp_all [ckPr, ckPrGo, portS]; done)
        | skip
  · intro hF hlt
    simp only [go_sem, ↓reduceIte, hlt, decide_false]
    all_goals first
      | rfl
      | (simp only [ckPr, ckPrGo]; rfl)
      | grind [ckPr, ckPrGo]
      | (simp only [ckPr, ckPrGo]; grind)
      | (simp [ckPr, ckPrGo, *]; done)
      | (simp_all [ckPr, ckPrGo]; done)
      | skip

end Go.AI

namespace Go.AI
open Go.Proofs
set_option maxRecDepth 50000

theorem c_Names (n : Network) (h1 : n.nodes.length ≤ 1073741824) (h2 : n.edges.length ≤ 1073741824) : PCall Tryz.prog 111 [.agg n.c] (.tup [.sl none (lStr (nodeNames n)), .sl none (lStr (edgeNames n))]) := by
  refine PCall.ofB h111 mixed h111_d Tryz.func111 rfl call111 (by simp [Tryz.f111]) (by simp [pureL, AV.pure, go_sem]) (by simp [pureL, AV.pure, go_sem]) ?_
  simp only [Tryz.f111, go_sem, ↓reduceIte]
  refine awp_lst n.nodes (fun o r => o ++ r.map (·.name)) (fun k o => o.length = k) (fun k o => [(1, .ptr 0 0), (4, .sl (some 1) (lStr o)), (5, .sl (some 1) (lStr [])), (6, .int .i64 k)]) (fun k o => [some n.c]) [] (by omega) rfl rfl rfl ?_ ?_
  · intro k o y ys hd hx hI hF h0 h1 hw
    have hk2 := drop_len hd
    simp only [go_sem, ↓reduceIte, h0, h1, hw, lNode_get hx]
    repeat' (first
      | ((first | refine condK_split _ _ _ (fun hc => ?_) (fun hc => ?_) | refine gsel_split _ _ _ _ (fun hc => ?_) (fun hc => ?_)) <;> simp only [go_sem, ↓reduceIte, hc, Bool.not_true, Bool.not_false, h0, h1, hw, lNode_get hx]))
    exact ⟨by omega, by omega, o ++ [y.name], by simp, by simp [hI], rfl, rfl⟩
  · intro o hI hF
    simp only [go_sem, ↓reduceIte, Int.lt_irrefl, decide_false]
    have ho : o = nodeNames n := by simpa [nodeNames] using hF.symm
    subst ho
    refine awp_lst n.edges (fun o r => o ++ r.map (·.name)) (fun k o => o.length = k) (fun k o => [(1, .ptr 0 0), (4, .sl (some 1) (lStr (nodeNames n))), (5, .sl (some 1) (lStr o)), (7, .int .i64 k)]) (fun k o => [some n.c]) [] (by omega) rfl rfl rfl ?_ ?_
    · intro k o y ys hd hx hI hF h0 h1 hw
      have hk2 := drop_len hd
      simp only [go_sem, ↓reduceIte, h0, h1, hw, lEdge_get hx]
      repeat' (first
        | ((first | refine condK_split _ _ _ (fun hc => ?_) (fun hc => ?_) | refine gsel_split _ _ _ _ (fun hc => ?_) (fun hc => ?_)) <;> simp only [go_sem, ↓reduceIte, hc, Bool.not_true, Bool.not_false, h0, h1, hw, lEdge_get hx]))
      exact ⟨by omega, by omega, o ++ [y.name], by simp, by simp [hI], rfl, rfl⟩
    · intro o hI hF
      simp only [go_sem, ↓reduceIte, Int.lt_irrefl, decide_false]
      have ho : o = edgeNames n := by simpa [edgeNames] using hF.symm
      subst ho
      rfl

theorem c_knB (n : Network) (h1 : n.nodes.length ≤ 1073741824) (h2 : n.edges.length ≤ 1073741824) : ∀ x : Regex, PCall Tryz.prog 69 [.agg n.c, .agg x.c] (.bool (knB (nodeNames n) x)) := by
  refine Regex.ind _ fun x ih => ?_
  refine PCall.fit call69 fun hf => ?_
  have hl : x.args.length ≤ 9223372036854775807 := Regex.fit_args (fit1 (show fitL [.agg x.c] from hf.2))
  refine PCall.of h69 mixed h69_d Tryz.func69 rfl call69 (by simp [Tryz.f69]) (by simp [pureL, AV.pure, go_sem]) rfl ?_
  simp only [Tryz.f69, go_sem, ↓reduceIte]
  repeat' (first
    | ((first | refine PCallK.intro (c_Names n h1 h2) ?_ | refine PCallK.intro (c_has _ _) ?_); simp only [go_sem, ↓reduceIte])
    | ((first | refine condK_split _ _ _ (fun hc => ?_) (fun hc => ?_) | refine gsel_split _ _ _ _ (fun hc => ?_) (fun hc => ?_)) <;> simp only [go_sem, ↓reduceIte, hc, Bool.not_true, Bool.not_false]))
  all_goals first
    | rfl
    | (simp only [knB_eq]; rfl)
    | grind [knB_eq]
    | (simp only [knB_eq]; grind)
    | (simp [knB_eq, *]; done)
    | (simp_all [knB_eq]; done)
    | skip
  all_goals
    refine awp_all x.args (fun r => knBs (nodeNames n) r) (fun k => [(2, .ptr 0 0), (3, .ptr 1 0), (7, .int .i64 k)]) hl rfl ?_ ?_
    · intro k y ys hd hx hF h0 h1 hw
      have hm := List.mem_of_getElem? hx
      simp only [go_sem, ↓reduceIte, h0, h1, lRegex_get hx]
      repeat' (first
        | ((first | refine PCallK.intro (ih _ hm) ?_); simp only [go_sem, ↓reduceIte, h0, h1, hw, lRegex_get hx])
        | ((first | refine condK_split _ _ _ (fun hc => ?_) (fun hc => ?_) | refine gsel_split _ _ _ _ (fun hc => ?_) (fun hc => ?_)) <;> simp only [go_sem, ↓reduceIte, hc, Bool.not_true, Bool.not_false, h0, h1, hw, lRegex_get hx]))
      all_goals first
        | rfl
        | (simp only [knB_eq, knBs_cons]; rfl)
        | grind [knB_eq, knBs_cons]
        | (simp only [knB_eq, knBs_cons]; grind)
        | (simp [knB_eq, knBs_cons, *]; done)
        | (simp_all [knB_eq, knBs_cons]; done)
        | skip
    · intro hF hlt
      simp only [go_sem, ↓reduceIte, hlt, decide_false]
      all_goals first
        | rfl
        | (simp only [knB_eq, knBs_nil]; rfl)
        | grind [knB_eq, knBs_nil]
        | (simp only [knB_eq, knBs_nil]; grind)
        | (simp [knB_eq, knBs_nil, *]; done)
        | (simp_all [knB_eq, knBs_nil]; done)
        | skip

set_option maxHeartbeats 2000000 in
theorem c_ckPo (s : Setup) (t : Tenant) (hb : bulkL t.c ≤ 1073741824) : PCall Tryz.prog 65 [.agg s.c, .agg t.c] (.int .i64 (ckPo s t)) := by
  have hbp := Tenant.bl_ports hb
  have hn := lPort_bn hbp
  have hn2 := lWire_bn (Tenant.bl_wires hb)
  refine PCall.of h65 mixed h65_d Tryz.func65 rfl call65 (by simp [Tryz.f65]) (by simp [pureL, AV.pure, go_sem]) rfl ?_
  simp only [Tryz.f65, go_sem, ↓reduceIte, toList_beq]
  repeat' (first
    | ((first | refine PCallK.intro (c_Name8 _ (Tenant.bk_name hb)) ?_); simp only [go_sem, ↓reduceIte, toList_beq])
    | ((first | refine condK_split _ _ _ (fun hc => ?_) (fun hc => ?_) | refine gsel_split _ _ _ _ (fun hc => ?_) (fun hc => ?_)) <;> simp only [go_sem, ↓reduceIte, hc, Bool.not_true, Bool.not_false, toList_beq]))
  all_goals first
    | rfl
    | (simp only [ckPo]; rfl)
    | grind [ckPo]
    | (simp only [ckPo]; grind)
    | (simp [ckPo, *]; done)
    | (simp_all [ckPo]; done)
    | skip
  refine awp_all t.ports (fun r => okGo pnm qnm t.ports (t.ports.length - r.length) r) (fun k => [(2, .ptr 0 0), (3, .ptr 1 0), (6, .int .i64 k)]) (by omega) rfl ?_ ?_
  · intro k y ys hd hx hF2 h0 h1 hw
    have hk2 := drop_len hd
    have hmy := List.mem_of_getElem? hx
    have e1 : t.ports.length - (ys.length + 1) = k := by omega
    have e2 : t.ports.length - ys.length = k + 1 := by omega
    have ht : (t.ports.take k).length = k := take_len (by omega)
    have hby : bulkL y.c ≤ 1073741824 := by have := lPort_bk hbp hmy; simpa only [AV.bulk] using this
    simp only [List.length_cons, e1, Nat.sub_self] at hF2
    simp only [go_sem, ↓reduceIte, h0, h1, lPort_get hx, toList_beq]
    repeat' (first
      | ((first | refine PCallK.intro (c_Name8 _ (Port.bk_name hby)) ?_); simp only [go_sem, ↓reduceIte, h0, h1, hw, lPort_get hx, toList_beq])
      | ((first | refine condK_split _ _ _ (fun hc => ?_) (fun hc => ?_) | refine gsel_split _ _ _ _ (fun hc => ?_) (fun hc => ?_)) <;> simp only [go_sem, ↓reduceIte, hc, Bool.not_true, Bool.not_false, h0, h1, hw, lPort_get hx, toList_beq]))
    all_goals first
      | (have hp : pnm y = false := by grind [ckPo, pnm, qnm, peg, qeg, pwr, qwr]
         have h5 : okGo pnm qnm t.ports 0 t.ports = false := by rw [hF2, okGo, hp]; rfl
         have h6 : okAll pnm qnm t.ports = false := h5
         grind [ckPo, pnm, qnm, peg, qeg, pwr, qwr])
      | skip
    have hp : pnm y = true := by grind [ckPo, pnm, qnm, peg, qeg, pwr, qwr]
    refine awp_all (t.ports.take k) (fun r => r.any (fun z => qnm z y)) (fun i => [(2, .ptr 0 0), (3, .ptr 1 0), (6, .int .i64 k), (8, .int .i64 i)]) (by omega) rfl ?_ ?_
    · intro i z zs hd3 hx3 hF3 h03 h13 hw3
      rw [ht] at h13
      have hx4 := take_get hx3
      have h14 : (i : Int) < (t.ports.length : Int) := by omega
      have hmz := List.mem_of_getElem? hx4
      simp only [go_sem, ↓reduceIte, h03, h13, h14, h0, h1, lPort_get hx4, lPort_get hx, toList_beq]
      repeat' (first
        | ((first | refine condK_split _ _ _ (fun hc => ?_) (fun hc => ?_) | refine gsel_split _ _ _ _ (fun hc => ?_) (fun hc => ?_)) <;> simp only [go_sem, ↓reduceIte, hc, Bool.not_true, Bool.not_false, h03, h13, h14, hw3, h0, h1, lPort_get hx4, lPort_get hx, toList_beq]))
      all_goals first
        | (have hq : qnm z y = true := by grind [ckPo, pnm, qnm, peg, qeg, pwr, qwr]
           have h5 : okGo pnm qnm t.ports 0 t.ports = false := by rw [hF2, okGo, hF3, List.any_cons, hq]; simp
           have h6 : okAll pnm qnm t.ports = false := h5
           grind [ckPo, pnm, qnm, peg, qeg, pwr, qwr])
        | (have hq : qnm z y = false := by grind [ckPo, pnm, qnm, peg, qeg, pwr, qwr]
           first | (rw [List.any_cons, hq]; rfl) | (rw [hq]; rfl))
        | skip
    · intro hF3 hlt3
      rw [ht] at hlt3
      simp only [go_sem, ↓reduceIte, ht, hlt3, decide_false, hw]
      rw [e1, e2, okGo, hF3, hp]; rfl
  · intro hF2 hlt2
    have hok : okAll pnm qnm t.ports = true := by simp only [Nat.sub_self] at hF2; exact hF2
    simp only [go_sem, ↓reduceIte, hlt2, decide_false]
    refine awp_all t.ports (fun r => okGo (peg s.network.edges.length) qeg t.ports (t.ports.length - r.length) r) (fun k => [(2, .ptr 0 0), (3, .ptr 1 0), (9, .int .i64 k)]) (by omega) rfl ?_ ?_
    · intro k y ys hd hx hF2 h0 h1 hw
      have hk2 := drop_len hd
      have hmy := List.mem_of_getElem? hx
      have e1 : t.ports.length - (ys.length + 1) = k := by omega
      have e2 : t.ports.length - ys.length = k + 1 := by omega
      have ht : (t.ports.take k).length = k := take_len (by omega)
      simp only [List.length_cons, e1, Nat.sub_self] at hF2
      simp only [go_sem, ↓reduceIte, h0, h1, lPort_get hx, toList_beq]
      repeat' (first
        | ((first | refine condK_split _ _ _ (fun hc => ?_) (fun hc => ?_) | refine gsel_split _ _ _ _ (fun hc => ?_) (fun hc => ?_)) <;> simp only [go_sem, ↓reduceIte, hc, Bool.not_true, Bool.not_false, h0, h1, hw, lPort_get hx, toList_beq]))
      all_goals first
        | (have hp : (peg s.network.edges.length) y = false := by grind [ckPo, pnm, qnm, peg, qeg, pwr, qwr]
           have h5 : okGo (peg s.network.edges.length) qeg t.ports 0 t.ports = false := by rw [hF2, okGo, hp]; rfl
           have h6 : okAll (peg s.network.edges.length) qeg t.ports = false := h5
           grind [ckPo, pnm, qnm, peg, qeg, pwr, qwr])
        | skip
      have hp : (peg s.network.edges.length) y = true := by grind [ckPo, pnm, qnm, peg, qeg, pwr, qwr]
      refine awp_all (t.ports.take k) (fun r => r.any (fun z => qeg z y)) (fun i => [(2, .ptr 0 0), (3, .ptr 1 0), (9, .int .i64 k), (10, .int .i64 y.edge), (11, .int .i64 i)]) (by omega) rfl ?_ ?_
      · intro i z zs hd3 hx3 hF3 h03 h13 hw3
        rw [ht] at h13
        have hx4 := take_get hx3
        have h14 : (i : Int) < (t.ports.length : Int) := by omega
        have hmz := List.mem_of_getElem? hx4
        simp only [go_sem, ↓reduceIte, h03, h13, h14, h0, h1, lPort_get hx4, lPort_get hx, toList_beq]
        repeat' (first
          | ((first | refine condK_split _ _ _ (fun hc => ?_) (fun hc => ?_) | refine gsel_split _ _ _ _ (fun hc => ?_) (fun hc => ?_)) <;> simp only [go_sem, ↓reduceIte, hc, Bool.not_true, Bool.not_false, h03, h13, h14, hw3, h0, h1, lPort_get hx4, lPort_get hx, toList_beq]))
        all_goals first
          | (have hq : qeg z y = true := by grind [ckPo, pnm, qnm, peg, qeg, pwr, qwr]
             have h5 : okGo (peg s.network.edges.length) qeg t.ports 0 t.ports = false := by rw [hF2, okGo, hF3, List.any_cons, hq]; simp
             have h6 : okAll (peg s.network.edges.length) qeg t.ports = false := h5
             grind [ckPo, pnm, qnm, peg, qeg, pwr, qwr])
          | (have hq : qeg z y = false := by grind [ckPo, pnm, qnm, peg, qeg, pwr, qwr]
             first | (rw [List.any_cons, hq]; rfl) | (rw [hq]; rfl))
          | skip
      · intro hF3 hlt3
        rw [ht] at hlt3
        simp only [go_sem, ↓reduceIte, ht, hlt3, decide_false, hw]
        rw [e1, e2, okGo, hF3, hp]; rfl
    · intro hF2b hlt2
      have hokb : okAll (peg s.network.edges.length) qeg t.ports = true := by simp only [Nat.sub_self] at hF2b; exact hF2b
      simp only [go_sem, ↓reduceIte, hlt2, decide_false]
      refine awp_all t.wires (fun r => okGo (pwr t) qwr t.wires (t.wires.length - r.length) r) (fun k => [(3, .ptr 1 0), (12, .int .i64 k)]) (by omega) rfl ?_ ?_
      · intro k y ys hd hx hF2 h0 h1 hw
        have hk2 := drop_len hd
        have hmy := List.mem_of_getElem? hx
        have e1 : t.wires.length - (ys.length + 1) = k := by omega
        have e2 : t.wires.length - ys.length = k + 1 := by omega
        have ht : (t.wires.take k).length = k := take_len (by omega)
        simp only [List.length_cons, e1, Nat.sub_self] at hF2
        simp only [go_sem, ↓reduceIte, h0, h1, lWire_get hx, toList_beq]
        repeat' (first
          | ((first | refine PCallK.intro (c_inner _ _) ?_); simp only [go_sem, ↓reduceIte, h0, h1, hw, lWire_get hx, toList_beq])
          | ((first | refine condK_split _ _ _ (fun hc => ?_) (fun hc => ?_) | refine gsel_split _ _ _ _ (fun hc => ?_) (fun hc => ?_)) <;> simp only [go_sem, ↓reduceIte, hc, Bool.not_true, Bool.not_false, h0, h1, hw, lWire_get hx, toList_beq]))
        all_goals first
          | (have hp : (pwr t) y = false := by grind [ckPo, pnm, qnm, peg, qeg, pwr, qwr]
             have h5 : okGo (pwr t) qwr t.wires 0 t.wires = false := by rw [hF2, okGo, hp]; rfl
             have h6 : okAll (pwr t) qwr t.wires = false := h5
             grind [ckPo, pnm, qnm, peg, qeg, pwr, qwr])
          | skip
        have hp : (pwr t) y = true := by grind [ckPo, pnm, qnm, peg, qeg, pwr, qwr]
        refine awp_all (t.wires.take k) (fun r => r.any (fun z => qwr z y)) (fun i => [(3, .ptr 1 0), (12, .int .i64 k), (13, .int .i64 i)]) (by omega) rfl ?_ ?_
        · intro i z zs hd3 hx3 hF3 h03 h13 hw3
          rw [ht] at h13
          have hx4 := take_get hx3
          have h14 : (i : Int) < (t.wires.length : Int) := by omega
          have hmz := List.mem_of_getElem? hx4
          simp only [go_sem, ↓reduceIte, h03, h13, h14, h0, h1, lWire_get hx4, lWire_get hx, toList_beq]
          repeat' (first
            | ((first | refine condK_split _ _ _ (fun hc => ?_) (fun hc => ?_) | refine gsel_split _ _ _ _ (fun hc => ?_) (fun hc => ?_)) <;> simp only [go_sem, ↓reduceIte, hc, Bool.not_true, Bool.not_false, h03, h13, h14, hw3, h0, h1, lWire_get hx4, lWire_get hx, toList_beq]))
          all_goals first
            | (have hq : qwr z y = true := by grind [ckPo, pnm, qnm, peg, qeg, pwr, qwr]
               have h5 : okGo (pwr t) qwr t.wires 0 t.wires = false := by rw [hF2, okGo, hF3, List.any_cons, hq]; simp
               have h6 : okAll (pwr t) qwr t.wires = false := h5
               grind [ckPo, pnm, qnm, peg, qeg, pwr, qwr])
            | (have hq : qwr z y = false := by grind [ckPo, pnm, qnm, peg, qeg, pwr, qwr]
               first | (rw [List.any_cons, hq]; rfl) | (rw [hq]; rfl))
            | skip
        · intro hF3 hlt3
          rw [ht] at hlt3
          simp only [go_sem, ↓reduceIte, ht, hlt3, decide_false, hw]
          rw [e1, e2, okGo, hF3, hp]; rfl
      · intro hF2c hlt2
        have hokc : okAll (pwr t) qwr t.wires = true := by simp only [Nat.sub_self] at hF2c; exact hF2c
        simp only [go_sem, ↓reduceIte, hlt2, decide_false]
        all_goals first
          | rfl
          | (simp only [ckPo]; rfl)
          | grind [ckPo]
          | (simp only [ckPo]; grind)
          | (simp [ckPo, *]; done)
          | (simp_all [ckPo]; done)
          | skip

end Go.AI

namespace Go.AI
open Go.Proofs
set_option maxRecDepth 50000

set_option maxHeartbeats 4000000 in
theorem c_ck18 (s : Setup) (t : Tenant) (hl : okF s.fields) (hs : bulkL s.c ≤ 1073741824) (hb : bulkL t.c ≤ 1073741824) : PCall Tryz.prog 13 [.agg s.c, .agg t.c] (.int .i64 (ck18 s t)) := by
  have hsn := Setup.bs_network hs
  have g1 := lNode_bn (Network.bl_nodes hsn)
  have g2 := lEdge_bn (Network.bl_edges hsn)
  have hbr := Tenant.bl_routes hb
  have hn := lRoute_bn hbr
  have hn2 := lDemand_bn (Tenant.bl_demands hb)
  refine PCall.of h13 mixed h13_d Tryz.func13 rfl call13 (by simp [Tryz.f13]) (by simp [pureL, AV.pure, go_sem]) rfl ?_
  simp only [Tryz.f13, go_sem, ↓reduceIte]
  repeat' (first
    | ((first | refine PCallK.intro (c_ckPo _ _ hb) ?_ | refine PCallK.intro (c_ckPr _ _ hl hb) ?_); simp only [go_sem, ↓reduceIte])
    | ((first | refine condK_split _ _ _ (fun hc => ?_) (fun hc => ?_) | refine gsel_split _ _ _ _ (fun hc => ?_) (fun hc => ?_)) <;> simp only [go_sem, ↓reduceIte, hc, Bool.not_true, Bool.not_false]))
  all_goals first
    | rfl
    | (simp only [ck18]; rfl)
    | grind [ck18]
    | (simp only [ck18]; grind)
    | (simp [ck18, *]; done)
    | (simp_all [ck18]; done)
    | skip
  refine awp_all t.routes (fun r => rouGo s r) (fun k => [(2, .ptr 0 0), (3, .ptr 1 0), (6, .int .i64 k)]) (by omega) rfl ?_ ?_
  · intro k y ys hd hx hF h0 h1 hw
    have hby : bulkL y.c ≤ 1073741824 := by have := lRoute_bk hbr (List.mem_of_getElem? hx); simpa only [AV.bulk] using this
    simp only [go_sem, ↓reduceIte, h0, h1, lRoute_get hx]
    repeat' (first
      | ((first | refine PCallK.intro (c_ckTP _ _ hl (Route.bs_pred hby)) ?_ | refine PCallK.intro (c_ckR _ (Route.bs_path hby)) ?_ | refine PCallK.intro (c_knB _ g1 g2 _) ?_); simp only [go_sem, ↓reduceIte, h0, h1, hw, lRoute_get hx])
      | ((first | refine condK_split _ _ _ (fun hc => ?_) (fun hc => ?_) | refine gsel_split _ _ _ _ (fun hc => ?_) (fun hc => ?_)) <;> simp only [go_sem, ↓reduceIte, hc, Bool.not_true, Bool.not_false, h0, h1, hw, lRoute_get hx]))
    all_goals first
      | rfl
      | (simp only [ck18, rouGo, rouE]; rfl)
      | grind [ck18, rouGo, rouE]
      | (simp only [ck18, rouGo, rouE]; grind)
      | (simp [ck18, rouGo, rouE, *]; done)
      | (simp_all [ck18, rouGo, rouE]; done)
      | skip
  · intro hF hlt
    simp only [go_sem, ↓reduceIte, hlt, decide_false]
    refine awp_all t.demands (fun r => okGo (pdm t) qdm t.demands (t.demands.length - r.length) r) (fun k => [(3, .ptr 1 0), (7, .int .i64 k)]) (by omega) rfl ?_ ?_
    · intro k y ys hd hx hF2 h0 h1 hw
      have hk2 := drop_len hd
      have hmy := List.mem_of_getElem? hx
      have e1 : t.demands.length - (ys.length + 1) = k := by omega
      have e2 : t.demands.length - ys.length = k + 1 := by omega
      have ht : (t.demands.take k).length = k := take_len (by omega)
      simp only [List.length_cons, e1, Nat.sub_self] at hF2
      simp only [go_sem, ↓reduceIte, h0, h1, lDemand_get hx, toList_beq]
      repeat' (first
        | ((first | refine PCallK.intro (c_outer _ _) ?_); simp only [go_sem, ↓reduceIte, h0, h1, hw, lDemand_get hx, toList_beq])
        | ((first | refine condK_split _ _ _ (fun hc => ?_) (fun hc => ?_) | refine gsel_split _ _ _ _ (fun hc => ?_) (fun hc => ?_)) <;> simp only [go_sem, ↓reduceIte, hc, Bool.not_true, Bool.not_false, h0, h1, hw, lDemand_get hx, toList_beq]))
      all_goals first
        | (have hp : (pdm t) y = false := by grind [ck18, pdm, qdm, rouGo]
           have h5 : okGo (pdm t) qdm t.demands 0 t.demands = false := by rw [hF2, okGo, hp]; rfl
           have h6 : okAll (pdm t) qdm t.demands = false := h5
           grind [ck18, pdm, qdm, rouGo])
        | skip
      have hp : (pdm t) y = true := by grind [ck18, pdm, qdm, rouGo]
      refine awp_all (t.demands.take k) (fun r => r.any (fun z => qdm z y)) (fun i => [(3, .ptr 1 0), (7, .int .i64 k), (8, .ptr 2 0), (9, .int .i64 i)]) (by omega) rfl ?_ ?_
      · intro i z zs hd3 hx3 hF3 h03 h13 hw3
        rw [ht] at h13
        have hx4 := take_get hx3
        have h14 : (i : Int) < (t.demands.length : Int) := by omega
        have hmz := List.mem_of_getElem? hx4
        simp only [go_sem, ↓reduceIte, h03, h13, h14, h0, h1, lDemand_get hx4, lDemand_get hx, toList_beq]
        repeat' (first
          | ((first | refine condK_split _ _ _ (fun hc => ?_) (fun hc => ?_) | refine gsel_split _ _ _ _ (fun hc => ?_) (fun hc => ?_)) <;> simp only [go_sem, ↓reduceIte, hc, Bool.not_true, Bool.not_false, h03, h13, h14, hw3, h0, h1, lDemand_get hx4, lDemand_get hx, toList_beq]))
        all_goals first
          | (have hq : qdm z y = true := by grind [ck18, pdm, qdm, rouGo]
             have h5 : okGo (pdm t) qdm t.demands 0 t.demands = false := by rw [hF2, okGo, hF3, List.any_cons, hq]; simp
             have h6 : okAll (pdm t) qdm t.demands = false := h5
             grind [ck18, pdm, qdm, rouGo])
          | (have hq : qdm z y = false := by grind [ck18, pdm, qdm, rouGo]
             first | (rw [List.any_cons, hq]; rfl) | (rw [hq]; rfl))
          | skip
      · intro hF3 hlt3
        rw [ht] at hlt3
        simp only [go_sem, ↓reduceIte, ht, hlt3, decide_false, hw]
        rw [e1, e2, okGo, hF3, hp]; rfl
    · intro hF2c hlt2
      have hokc : okAll (pdm t) qdm t.demands = true := by simp only [Nat.sub_self] at hF2c; exact hF2c
      simp only [go_sem, ↓reduceIte, hlt2, decide_false]
      all_goals first
        | rfl
        | (simp only [ck18, rouGo]; rfl)
        | grind [ck18, rouGo]
        | (simp only [ck18, rouGo]; grind)
        | (simp [ck18, rouGo, *]; done)
        | (simp_all [ck18, rouGo]; done)
        | skip

end Go.AI
