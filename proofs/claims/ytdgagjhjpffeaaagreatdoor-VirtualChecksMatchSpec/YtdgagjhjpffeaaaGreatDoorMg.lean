/- Contracts: bytes, names. -/
import Derived.Test.YtdgagjhjpffeaaaGreatDoorMs
import Derived.Test.YtdgagjhjpffeaaaGreatDoorMf
import Derived.Test.YtdgagjhjpffeaaaGreatDoorMe
set_option linter.unusedSimpArgs false
set_option linter.unusedVariables false
namespace Go.AI
open Go.Proofs
set_option maxRecDepth 50000

theorem c_letter (c : UInt8) : PCall Tryz.prog 292 [.int .u8 c.toNat] (.bool (loB c)) := by
  refine PCall.of h292 mixed h292_d Tryz.func292 rfl call292 (by simp [Tryz.f292]) (by simp [pureL, AV.pure, go_sem]) rfl ?_
  simp only [Tryz.f292, go_sem, ↓reduceIte]
  repeat' (first
    | ((first | refine condK_split _ _ _ (fun hc => ?_) (fun hc => ?_) | refine gsel_split _ _ _ _ (fun hc => ?_) (fun hc => ?_)) <;> simp only [go_sem, ↓reduceIte, hc, Bool.not_true, Bool.not_false]))
  all_goals (simp only [loB, bz]; grind)

theorem c_digit (c : UInt8) : PCall Tryz.prog 326 [.int .u8 c.toNat] (.bool (dgB c)) := by
  refine PCall.of h326 mixed h326_d Tryz.func326 rfl call326 (by simp [Tryz.f326]) (by simp [pureL, AV.pure, go_sem]) rfl ?_
  simp only [Tryz.f326, go_sem, ↓reduceIte]
  repeat' (first
    | ((first | refine condK_split _ _ _ (fun hc => ?_) (fun hc => ?_) | refine gsel_split _ _ _ _ (fun hc => ?_) (fun hc => ?_)) <;> simp only [go_sem, ↓reduceIte, hc, Bool.not_true, Bool.not_false]))
  all_goals (simp only [dgB, bz]; grind)

theorem c_wordByte (c : UInt8) : PCall Tryz.prog 319 [.int .u8 c.toNat] (.bool (wdB c)) := by
  refine PCall.of h319 mixed h319_d Tryz.func319 rfl call319 (by simp [Tryz.f319]) (by simp [pureL, AV.pure, go_sem]) rfl ?_
  simp only [Tryz.f319, go_sem, ↓reduceIte]
  repeat' (first
    | ((first | refine PCallK.intro (c_letter _) ?_ | refine PCallK.intro (c_digit _) ?_); simp only [go_sem, ↓reduceIte])
    | ((first | refine condK_split _ _ _ (fun hc => ?_) (fun hc => ?_) | refine gsel_split _ _ _ _ (fun hc => ?_) (fun hc => ?_)) <;> simp only [go_sem, ↓reduceIte, hc, Bool.not_true, Bool.not_false]))
  all_goals (simp only [wdB, bz]; grind)

theorem c_run (s : ByteArray) (hs : s.size ≤ 1073741824) : PCall Tryz.prog 294 [.str s] (.int .i64 (runN s.data.toList)) := by
  refine PCall.of h294 mixed h294_d Tryz.func294 rfl call294 (by simp [Tryz.f294]) (by simp [pureL, AV.pure, go_sem]) rfl ?_
  simp only [Tryz.f294, go_sem, ↓reduceIte]
  refine awp_alls s (fun l => s.size - l.length + runN l) (fun k => [(0, .str s), (3, .int .i64 k)]) (by omega) rfl ?_ ?_
  · intro k x xs hd hx hF h0 h1 hw hl
    rw [blen] at hF
    simp only [List.length_cons, runN] at hF
    simp only [go_sem, ↓reduceIte, h0, h1, hx]
    repeat' (first
      | ((first | refine PCallK.intro (c_wordByte _) ?_); simp only [go_sem, ↓reduceIte, hw])
      | ((first | refine condK_split _ _ _ (fun hc => ?_) (fun hc => ?_) | refine gsel_split _ _ _ _ (fun hc => ?_) (fun hc => ?_)) <;> simp only [go_sem, ↓reduceIte, hc, Bool.not_true, Bool.not_false, hw]))
    · simp only [Bool.not_eq_true'] at hc
      rw [hc] at hF
      have : runN s.data.toList = k := by simp at hF; omega
      rw [this]
    · simp only [Bool.not_eq_false'] at hc
      simp only [runN, hc]
      simp; omega
  · intro hF hlt
    simp only [go_sem, ↓reduceIte, hlt, decide_false]
    rw [blen] at hF
    simp [runN] at hF
    rw [hF]

theorem evOk0 : EvOk Tryz.prog (evTree.evt [] noOrc) := ETree.ok mixedE (fun _ h => by cases h) (noOrc_ok _) evTree_all

theorem words_pure : pureL (words.map AV.str) = true := by kernel_rfl
theorem c_Words : PCall Tryz.prog 318 [] (.sl (some 1) (words.map AV.str)) := PCall.run evOk0 100 rfl words_pure (by kernel_rfl)

theorem c_isWord (s : ByteArray) : PCall Tryz.prog 293 [.str s] (.bool (wordB s)) := by
  refine PCall.of h293 mixed h293_d Tryz.func293 rfl call293 (by simp [Tryz.f293]) (by simp [pureL, AV.pure, go_sem]) rfl ?_
  simp only [Tryz.f293, go_sem, ↓reduceIte]
  repeat' (first
    | ((first | refine PCallK.intro (c_Words) ?_); simp only [go_sem, ↓reduceIte])
    | ((first | refine condK_split _ _ _ (fun hc => ?_) (fun hc => ?_) | refine gsel_split _ _ _ _ (fun hc => ?_) (fun hc => ?_)) <;> simp only [go_sem, ↓reduceIte, hc, Bool.not_true, Bool.not_false]))
  refine awp_all words (fun l => l.any (fun y => decide (y = s))) (fun k => [(0, .str s), (3, .sl (some 1) (words.map AV.str)), (4, .int .i64 k)]) (by decide) rfl ?_ ?_
  · intro k x xs hd hx hF h0 h1 hw
    have hg : (words.map AV.str)[k]? = some (.str x) := by simp [hx]
    simp only [go_sem, ↓reduceIte, h0, h1, hg, List.length_map, toList_beq]
    repeat' (first
      | ((first | refine condK_split _ _ _ (fun hc => ?_) (fun hc => ?_) | refine gsel_split _ _ _ _ (fun hc => ?_) (fun hc => ?_)) <;> simp only [go_sem, ↓reduceIte, hc, Bool.not_true, Bool.not_false, h0, h1, hg, hw, List.length_map, toList_beq]))
    · simp only [wordB, hF, List.any_cons, hc, Bool.true_or]
  · intro hF hlt
    simp only [go_sem, ↓reduceIte, hlt, decide_false, List.length_map]
    rw [wordB, hF]; rfl

theorem c_Name10 (s : ByteArray) (hs : s.size ≤ 1073741824) : PCall Tryz.prog 259 [.str s] (.bool (tnB s)) := by
  refine PCall.of h259 mixed h259_d Tryz.func259 rfl call259 (by simp [Tryz.f259]) (by simp [pureL, AV.pure, go_sem]) rfl ?_
  by_cases hz : s.size = 0
  · have hz2 : ((s.size : Int) == 0) = true := by simp [hz]
    simp only [Tryz.f259, go_sem, ↓reduceIte, hz2]
    simp [tnB, hz]
  · have h0 : (0 : Int) < (s.size : Int) := by omega
    obtain ⟨x, xs, hx⟩ : ∃ x xs, s.data.toList = x :: xs := by
      cases h : s.data.toList with
      | nil => rw [← blen, h] at hz; simp at hz
      | cons x xs => exact ⟨x, xs, rfl⟩
    have hx0 : (s.data[0]?).getD 0 = x := by rw [← Array.getElem?_toList, hx]; rfl
    have hne : ((s.size : Int) == 0) = false := by simp [hz]
    simp only [Tryz.f259, go_sem, ↓reduceIte, hne]
    repeat' (first
      | ((first | refine PCallK.intro (c_letter _) ?_ | refine PCallK.intro (c_isWord _) ?_ | refine PCallK.intro (c_run _ hs) ?_); simp only [go_sem, ↓reduceIte, h0, hx0, hx])
      | ((first | refine condK_split _ _ _ (fun hc => ?_) (fun hc => ?_) | refine gsel_split _ _ _ _ (fun hc => ?_) (fun hc => ?_)) <;> simp only [go_sem, ↓reduceIte, hc, Bool.not_true, Bool.not_false, h0, hx0, hx]))
    all_goals (simp only [tnB, hx]; grind)

theorem c_Plain (s : ByteArray) (hs : s.size ≤ 1073741824) : PCall Tryz.prog 217 [.str s] (.bool (tnB s)) := by
  refine PCall.of h217 mixed h217_d Tryz.func217 rfl call217 (by simp [Tryz.f217]) (by simp [pureL, AV.pure, go_sem]) rfl ?_
  simp only [Tryz.f217, go_sem, ↓reduceIte]
  repeat' (first
    | ((first | refine PCallK.intro (c_Name10 _ hs) ?_); simp only [go_sem, ↓reduceIte])
    | ((first | refine condK_split _ _ _ (fun hc => ?_) (fun hc => ?_) | refine gsel_split _ _ _ _ (fun hc => ?_) (fun hc => ?_)) <;> simp only [go_sem, ↓reduceIte, hc, Bool.not_true, Bool.not_false]))

theorem c_Named (s : ByteArray) (hs : s.size ≤ 1073741824) : PCall Tryz.prog 172 [.str s] (.bool (fnB s)) := by
  refine PCall.of h172 mixed h172_d Tryz.func172 rfl call172 (by simp [Tryz.f172]) (by simp [pureL, AV.pure, go_sem]) rfl ?_
  simp only [Tryz.f172, go_sem, ↓reduceIte]
  repeat' (first
    | ((first | refine PCallK.intro (c_Plain _ hs) ?_); simp only [go_sem, ↓reduceIte])
    | ((first | refine condK_split _ _ _ (fun hc => ?_) (fun hc => ?_) | refine gsel_split _ _ _ _ (fun hc => ?_) (fun hc => ?_)) <;> simp only [go_sem, ↓reduceIte, hc, Bool.not_true, Bool.not_false]))
  all_goals first
    | rfl
    | (simp only [toList_beq, fnB, portS, hc, Bool.false_or, Bool.true_or, Bool.not_false]; rfl)
    | grind [toList_beq, fnB, portS, Bool.false_or, Bool.true_or, Bool.not_false]
    | (simp only [toList_beq, fnB, portS, hc, Bool.false_or, Bool.true_or, Bool.not_false]; grind)
    | (simp [toList_beq, fnB, portS, hc, Bool.false_or, Bool.true_or, Bool.not_false, *]; done)
    | (simp_all [toList_beq, fnB, portS, hc, Bool.false_or, Bool.true_or, Bool.not_false]; done)
    | skip

theorem c_Name8 (s : ByteArray) (hs : s.size ≤ 1073741824) : PCall Tryz.prog 114 [.str s] (.bool (nmB s)) := by
  refine PCall.of h114 mixed h114_d Tryz.func114 rfl call114 (by simp [Tryz.f114]) (by simp [pureL, AV.pure, go_sem]) rfl ?_
  simp only [Tryz.f114, go_sem, ↓reduceIte]
  refine awp_alls s (fun l => nmGo (s.size - l.length) l) (fun k => [(0, .str s), (3, .int .i64 k)]) (by omega) rfl ?_ ?_
  · intro k x xs hd hx hF h0 h1 hw hl
    have e1 : s.size - (x :: xs).length = k := by simp; omega
    have e2 : s.size - xs.length = k + 1 := by omega
    rw [e1, blen, Nat.sub_self] at hF
    simp only [go_sem, ↓reduceIte, h0, h1, hx, e2]
    repeat' (first
      | ((first | refine condK_split _ _ _ (fun hc => ?_) (fun hc => ?_) | refine gsel_split _ _ _ _ (fun hc => ?_) (fun hc => ?_)) <;> simp only [go_sem, ↓reduceIte, hc, Bool.not_true, Bool.not_false, h0, h1, hx, hw, e1, e2]))
    all_goals first | (simp only [nmB, hF, nmGo, loB, dgB, bz]; grind) | (simp only [nmGo, loB, dgB, bz]; grind) | skip
  · intro hF hlt
    simp only [go_sem, ↓reduceIte, hlt, decide_false]
    rw [blen, Nat.sub_self] at hF
    repeat' (first
      | ((first | refine condK_split _ _ _ (fun hc => ?_) (fun hc => ?_) | refine gsel_split _ _ _ _ (fun hc => ?_) (fun hc => ?_)) <;> simp only [go_sem, ↓reduceIte, hc, Bool.not_true, Bool.not_false]))
    all_goals (simp only [nmB, hF, nmGo]; grind)

end Go.AI

namespace Go.AI
open Go.Proofs
set_option maxRecDepth 50000

theorem fit1 {cs : List AV} {l : List AV} (h : fitL (.agg cs :: l)) : fitL cs := h.1
theorem fits {o : Option Nat} {es : List AV} {l : List AV} (h : fitL (.sl o es :: l)) : es.length ≤ 9223372036854775807 := h.1.1

theorem c_more (a b : Sizes) : PCall Tryz.prog 171 [.agg a.c, .agg b.c] (.agg (a.more b).c) := by
  refine PCall.ofB h171 mixed h171_d Tryz.func171 rfl call171 (by simp [Tryz.f171]) (by simp [pureL, AV.pure, go_sem]) (by simp [pureL, AV.pure, go_sem]) ?_
  simp only [Tryz.f171, go_sem, ↓reduceIte]
  rfl

theorem c_szP : ∀ x : Pred, PCall Tryz.prog 119 [.agg x.c] (.agg (szP x).c) := by
  refine Pred.ind _ fun x ih => ?_
  refine PCall.fit call119 fun hf => ?_
  have hl := Pred.fit_args (fit1 hf)
  refine PCall.ofB h119 mixed h119_d Tryz.func119 rfl call119 (by simp [Tryz.f119]) (by simp [pureL, AV.pure, go_sem]) (by simp [pureL, AV.pure, go_sem]) ?_
  simp only [Tryz.f119, go_sem, ↓reduceIte]
  refine awp_lst x.args (fun o l => szPs l o) (fun _ _ => True) (fun k o => [(1, .ptr 0 0), (2, .ptr 1 0), (3, .ptr 2 0), (4, .int .i64 k)]) (fun k o => [some x.c, some Sizes.z.c, some o.c]) ⟨1, 1⟩ hl trivial rfl rfl ?_ ?_
  · intro k o y ys hd hx _ hF h0 h1 hw
    have hm := List.mem_of_getElem? hx
    simp only [go_sem, ↓reduceIte, h0, h1, lPred_get hx]
    repeat' (first
      | ((first | refine PCallK.intro (ih _ hm) ?_ | refine PCallK.intro (c_more _ _) ?_); simp only [go_sem, ↓reduceIte, h0, h1, hw, lPred_get hx])
      | ((first | refine condK_split _ _ _ (fun hc => ?_) (fun hc => ?_) | refine gsel_split _ _ _ _ (fun hc => ?_) (fun hc => ?_)) <;> simp only [go_sem, ↓reduceIte, hc, Bool.not_true, Bool.not_false, h0, h1, hw, lPred_get hx]))
    exact ⟨_, szPs_cons _ _ _, rfl, rfl⟩
  · intro o _ hF
    simp only [go_sem, ↓reduceIte, Int.lt_irrefl, decide_false]
    rw [szP_eq, hF, szPs_nil]

theorem c_szR : ∀ x : Regex, PCall Tryz.prog 120 [.agg x.c] (.agg (szR x).c) := by
  refine Regex.ind _ fun x ih => ?_
  refine PCall.fit call120 fun hf => ?_
  have hl := Regex.fit_args (fit1 hf)
  refine PCall.ofB h120 mixed h120_d Tryz.func120 rfl call120 (by simp [Tryz.f120]) (by simp [pureL, AV.pure, go_sem]) (by simp [pureL, AV.pure, go_sem]) ?_
  simp only [Tryz.f120, go_sem, ↓reduceIte]
  refine awp_lst x.args (fun o l => szRs l o) (fun _ _ => True) (fun k o => [(1, .ptr 0 0), (2, .ptr 1 0), (3, .ptr 2 0), (4, .int .i64 k)]) (fun k o => [some x.c, some Sizes.z.c, some o.c]) ⟨1, 1⟩ hl trivial rfl rfl ?_ ?_
  · intro k o y ys hd hx _ hF h0 h1 hw
    have hm := List.mem_of_getElem? hx
    simp only [go_sem, ↓reduceIte, h0, h1, lRegex_get hx]
    repeat' (first
      | ((first | refine PCallK.intro (ih _ hm) ?_ | refine PCallK.intro (c_more _ _) ?_); simp only [go_sem, ↓reduceIte, h0, h1, hw, lRegex_get hx])
      | ((first | refine condK_split _ _ _ (fun hc => ?_) (fun hc => ?_) | refine gsel_split _ _ _ _ (fun hc => ?_) (fun hc => ?_)) <;> simp only [go_sem, ↓reduceIte, hc, Bool.not_true, Bool.not_false, h0, h1, hw, lRegex_get hx]))
    exact ⟨_, szRs_cons _ _ _, rfl, rfl⟩
  · intro o _ hF
    simp only [go_sem, ↓reduceIte, Int.lt_irrefl, decide_false]
    rw [szR_eq, hF, szRs_nil]

theorem c_szO : ∀ x : Policy, PCall Tryz.prog 95 [.agg x.c] (.agg (szO x).c) := by
  refine Policy.ind _ fun x ih => ?_
  refine PCall.fit call95 fun hf => ?_
  have hl := Policy.fit_args (fit1 hf)
  refine PCall.ofB h95 mixed h95_d Tryz.func95 rfl call95 (by simp [Tryz.f95]) (by simp [pureL, AV.pure, go_sem]) (by simp [pureL, AV.pure, go_sem]) ?_
  simp only [Tryz.f95, go_sem, ↓reduceIte]
  repeat' (first
    | ((first | refine PCallK.intro (c_szP _) ?_ | refine PCallK.intro (c_more _ _) ?_); simp only [go_sem, ↓reduceIte])
    | ((first | refine condK_split _ _ _ (fun hc => ?_) (fun hc => ?_) | refine gsel_split _ _ _ _ (fun hc => ?_) (fun hc => ?_)) <;> simp only [go_sem, ↓reduceIte, hc, Bool.not_true, Bool.not_false]))
  · have hs : szO x = szOs x.args (Sizes.more ⟨1, 1⟩ (szP x.pred)) := by rw [szO_eq, if_pos (by simpa using hc)]
    refine awp_lst x.args (fun o l => szOs l o) (fun _ _ => True) (fun k o => [(1, .ptr 0 0), (2, .ptr 1 0), (3, .ptr 2 0), (4, .int .i64 k)]) (fun k o => [some x.c, some Sizes.z.c, some o.c]) (Sizes.more ⟨1, 1⟩ (szP x.pred)) hl trivial rfl rfl ?_ ?_
    · intro k o y ys hd hx _ hF h0 h1 hw
      have hm := List.mem_of_getElem? hx
      simp only [go_sem, ↓reduceIte, h0, h1, lPolicy_get hx]
      repeat' (first
        | ((first | refine PCallK.intro (ih _ hm) ?_ | refine PCallK.intro (c_more _ _) ?_); simp only [go_sem, ↓reduceIte, h0, h1, hw, lPolicy_get hx])
        | ((first | refine condK_split _ _ _ (fun hc => ?_) (fun hc => ?_) | refine gsel_split _ _ _ _ (fun hc => ?_) (fun hc => ?_)) <;> simp only [go_sem, ↓reduceIte, hc, Bool.not_true, Bool.not_false, h0, h1, hw, lPolicy_get hx]))
      exact ⟨_, szOs_cons _ _ _, rfl, rfl⟩
    · intro o _ hF
      rw [szOs_nil] at hF
      simp only [go_sem, ↓reduceIte, Int.lt_irrefl, decide_false]
      rw [hs, hF]
  · have hs : szO x = szOs x.args ⟨1, 1⟩ := by rw [szO_eq, if_neg (by simpa using hc)]
    refine awp_lst x.args (fun o l => szOs l o) (fun _ _ => True) (fun k o => [(1, .ptr 0 0), (2, .ptr 1 0), (3, .ptr 2 0), (4, .int .i64 k)]) (fun k o => [some x.c, some Sizes.z.c, some o.c]) (⟨1, 1⟩) hl trivial rfl rfl ?_ ?_
    · intro k o y ys hd hx _ hF h0 h1 hw
      have hm := List.mem_of_getElem? hx
      simp only [go_sem, ↓reduceIte, h0, h1, lPolicy_get hx]
      repeat' (first
        | ((first | refine PCallK.intro (ih _ hm) ?_ | refine PCallK.intro (c_more _ _) ?_); simp only [go_sem, ↓reduceIte, h0, h1, hw, lPolicy_get hx])
        | ((first | refine condK_split _ _ _ (fun hc => ?_) (fun hc => ?_) | refine gsel_split _ _ _ _ (fun hc => ?_) (fun hc => ?_)) <;> simp only [go_sem, ↓reduceIte, hc, Bool.not_true, Bool.not_false, h0, h1, hw, lPolicy_get hx]))
      exact ⟨_, szOs_cons _ _ _, rfl, rfl⟩
    · intro o _ hF
      rw [szOs_nil] at hF
      simp only [go_sem, ↓reduceIte, Int.lt_irrefl, decide_false]
      rw [hs, hF]

theorem c_starsO : ∀ x : Policy, PCall Tryz.prog 52 [.agg x.c] (.int .i64 (starsO x)) := by
  refine Policy.ind _ fun x ih => ?_
  refine PCall.fit call52 fun hf => ?_
  have hl := Policy.fit_args (fit1 hf)
  refine PCall.of h52 mixed h52_d Tryz.func52 rfl call52 (by simp [Tryz.f52]) (by simp [pureL, AV.pure, go_sem]) rfl ?_
  simp only [Tryz.f52, go_sem, ↓reduceIte]
  refine awp_lst x.args (fun o l => starsOs l o) (fun _ _ => True) (fun k o => [(1, .ptr 0 0), (3, .int .i64 o), (4, .int .i64 k)]) (fun k o => [some x.c]) 0 hl trivial rfl rfl ?_ ?_
  · intro k o y ys hd hx _ hF h0 h1 hw
    have hm := List.mem_of_getElem? hx
    simp only [go_sem, ↓reduceIte, h0, h1, lPolicy_get hx]
    repeat' (first
      | ((first | refine PCallK.intro (ih _ hm) ?_); simp only [go_sem, ↓reduceIte, h0, h1, hw, lPolicy_get hx])
      | ((first | refine condK_split _ _ _ (fun hc => ?_) (fun hc => ?_) | refine gsel_split _ _ _ _ (fun hc => ?_) (fun hc => ?_)) <;> simp only [go_sem, ↓reduceIte, hc, Bool.not_true, Bool.not_false, h0, h1, hw, lPolicy_get hx]))
    exact ⟨_, starsOs_cons _ _ _, rfl, rfl⟩
  · intro o _ hF
    rw [starsOs_nil] at hF
    simp only [go_sem, ↓reduceIte, Int.lt_irrefl, decide_false]
    repeat' (first
      | ((first | refine condK_split _ _ _ (fun hc => ?_) (fun hc => ?_) | refine gsel_split _ _ _ _ (fun hc => ?_) (fun hc => ?_)) <;> simp only [go_sem, ↓reduceIte, hc, Bool.not_true, Bool.not_false]))
    all_goals first
      | rfl
      | (simp only [starsO_eq, hF, i64]; rfl)
      | grind [starsO_eq, i64]
      | (simp only [starsO_eq, hF, i64]; grind)
      | (simp [starsO_eq, hF, i64, *]; done)
      | (simp_all [starsO_eq, hF, i64]; done)
      | skip

theorem c_putsO : ∀ x : Policy, PCall Tryz.prog 118 [.agg x.c] (.int .i64 (putsO x)) := by
  refine Policy.ind _ fun x ih => ?_
  refine PCall.fit call118 fun hf => ?_
  have hl := Policy.fit_args (fit1 hf)
  refine PCall.of h118 mixed h118_d Tryz.func118 rfl call118 (by simp [Tryz.f118]) (by simp [pureL, AV.pure, go_sem]) rfl ?_
  simp only [Tryz.f118, go_sem, ↓reduceIte]
  refine awp_lst x.args (fun o l => putsOs l o) (fun _ _ => True) (fun k o => [(1, .ptr 0 0), (3, .int .i64 o), (4, .int .i64 k)]) (fun k o => [some x.c]) 0 hl trivial rfl rfl ?_ ?_
  · intro k o y ys hd hx _ hF h0 h1 hw
    have hm := List.mem_of_getElem? hx
    simp only [go_sem, ↓reduceIte, h0, h1, lPolicy_get hx]
    repeat' (first
      | ((first | refine PCallK.intro (ih _ hm) ?_); simp only [go_sem, ↓reduceIte, h0, h1, hw, lPolicy_get hx])
      | ((first | refine condK_split _ _ _ (fun hc => ?_) (fun hc => ?_) | refine gsel_split _ _ _ _ (fun hc => ?_) (fun hc => ?_)) <;> simp only [go_sem, ↓reduceIte, hc, Bool.not_true, Bool.not_false, h0, h1, hw, lPolicy_get hx]))
    exact ⟨_, putsOs_cons _ _ _, rfl, rfl⟩
  · intro o _ hF
    rw [putsOs_nil] at hF
    simp only [go_sem, ↓reduceIte, Int.lt_irrefl, decide_false]
    repeat' (first
      | ((first | refine condK_split _ _ _ (fun hc => ?_) (fun hc => ?_) | refine gsel_split _ _ _ _ (fun hc => ?_) (fun hc => ?_)) <;> simp only [go_sem, ↓reduceIte, hc, Bool.not_true, Bool.not_false]))
    all_goals first
      | rfl
      | (simp only [putsO_eq, hF, i64]; rfl)
      | grind [putsO_eq, i64]
      | (simp only [putsO_eq, hF, i64]; grind)
      | (simp [putsO_eq, hF, i64, *]; done)
      | (simp_all [putsO_eq, hF, i64]; done)
      | skip

theorem c_lightO (x : Policy) : PCall Tryz.prog 53 [.agg x.c] (.bool (lightO x)) := by
  refine PCall.of h53 mixed h53_d Tryz.func53 rfl call53 (by simp [Tryz.f53]) (by simp [pureL, AV.pure, go_sem]) rfl ?_
  simp only [Tryz.f53, go_sem, ↓reduceIte]
  repeat' (first
    | ((first | refine PCallK.intro (c_starsO _) ?_ | refine PCallK.intro (c_putsO _) ?_); simp only [go_sem, ↓reduceIte])
    | ((first | refine condK_split _ _ _ (fun hc => ?_) (fun hc => ?_) | refine gsel_split _ _ _ _ (fun hc => ?_) (fun hc => ?_)) <;> simp only [go_sem, ↓reduceIte, hc, Bool.not_true, Bool.not_false]))
  all_goals first
    | rfl
    | (simp only [lightO]; rfl)
    | grind [lightO]
    | (simp only [lightO]; grind)
    | (simp [lightO, *]; done)
    | (simp_all [lightO]; done)
    | skip

theorem c_fewP (x : Pred) : PCall Tryz.prog 54 [.agg x.c] (.bool (fewP x)) := by
  refine PCall.of h54 mixed h54_d Tryz.func54 rfl call54 (by simp [Tryz.f54]) (by simp [pureL, AV.pure, go_sem]) rfl ?_
  simp only [Tryz.f54, go_sem, ↓reduceIte]
  repeat' (first
    | ((first | refine PCallK.intro (c_szP _) ?_); simp only [go_sem, ↓reduceIte])
    | ((first | refine condK_split _ _ _ (fun hc => ?_) (fun hc => ?_) | refine gsel_split _ _ _ _ (fun hc => ?_) (fun hc => ?_)) <;> simp only [go_sem, ↓reduceIte, hc, Bool.not_true, Bool.not_false]))
  all_goals first
    | rfl
    | (simp only [fewP]; rfl)
    | grind [fewP]
    | (simp only [fewP]; grind)
    | (simp [fewP, *]; done)
    | (simp_all [fewP]; done)
    | skip

theorem c_fewR (x : Regex) : PCall Tryz.prog 55 [.agg x.c] (.bool (fewR x)) := by
  refine PCall.of h55 mixed h55_d Tryz.func55 rfl call55 (by simp [Tryz.f55]) (by simp [pureL, AV.pure, go_sem]) rfl ?_
  simp only [Tryz.f55, go_sem, ↓reduceIte]
  repeat' (first
    | ((first | refine PCallK.intro (c_szR _) ?_); simp only [go_sem, ↓reduceIte])
    | ((first | refine condK_split _ _ _ (fun hc => ?_) (fun hc => ?_) | refine gsel_split _ _ _ _ (fun hc => ?_) (fun hc => ?_)) <;> simp only [go_sem, ↓reduceIte, hc, Bool.not_true, Bool.not_false]))
  all_goals first
    | rfl
    | (simp only [fewR]; rfl)
    | grind [fewR]
    | (simp only [fewR]; grind)
    | (simp [fewR, *]; done)
    | (simp_all [fewR]; done)
    | skip

theorem c_fewO (x : Policy) : PCall Tryz.prog 117 [.agg x.c] (.bool (fewO x)) := by
  refine PCall.of h117 mixed h117_d Tryz.func117 rfl call117 (by simp [Tryz.f117]) (by simp [pureL, AV.pure, go_sem]) rfl ?_
  simp only [Tryz.f117, go_sem, ↓reduceIte]
  repeat' (first
    | ((first | refine PCallK.intro (c_szO _) ?_ | refine PCallK.intro (c_szP _) ?_); simp only [go_sem, ↓reduceIte])
    | ((first | refine condK_split _ _ _ (fun hc => ?_) (fun hc => ?_) | refine gsel_split _ _ _ _ (fun hc => ?_) (fun hc => ?_)) <;> simp only [go_sem, ↓reduceIte, hc, Bool.not_true, Bool.not_false]))
  all_goals first
    | rfl
    | (simp only [fewO]; rfl)
    | grind [fewO]
    | (simp only [fewO]; grind)
    | (simp [fewO, *]; done)
    | (simp_all [fewO]; done)
    | skip

end Go.AI

namespace Go.AI
open Go.Proofs
set_option maxRecDepth 50000

theorem c_fewG (x : List Stage) : PCall Tryz.prog 51 [.sl none (lStage x)] (.bool (fewG x)) := by
  refine PCall.fit call51 fun hf => ?_
  have hl := fits hf
  rw [lStage_len] at hl
  refine PCall.of h51 mixed h51_d Tryz.func51 rfl call51 (by simp [Tryz.f51]) (by simp [pureL, AV.pure, go_sem]) rfl ?_
  simp only [Tryz.f51, go_sem, ↓reduceIte]
  refine awp_all x (fun r => fewGo (r.take (12 - (x.length - r.length)))) (fun k => [(0, .sl none (lStage x)), (3, .int .i64 k)]) hl rfl ?_ ?_
  · intro k y ys hd hx hF h0 h1 hw
    have hk := drop_len hd
    have e1 : x.length - (ys.length + 1) = k := by omega
    have e2 : x.length - ys.length = k + 1 := by omega
    simp only [List.length_cons, e1, Nat.sub_self, Nat.sub_zero] at hF
    simp only [go_sem, ↓reduceIte, h0, h1, lStage_get hx, e1, e2]
    rcases Nat.lt_or_ge k 12 with h12 | h12
    · have e3 : 12 - k = (12 - (k + 1)) + 1 := by omega
      rw [e3, List.take_succ_cons] at hF
      repeat' (first
        | ((first | refine PCallK.intro (c_fewO _) ?_); simp only [go_sem, ↓reduceIte, h0, h1, hw, lStage_get hx, e1, e2])
        | ((first | refine condK_split _ _ _ (fun hc => ?_) (fun hc => ?_) | refine gsel_split _ _ _ _ (fun hc => ?_) (fun hc => ?_)) <;> simp only [go_sem, ↓reduceIte, hc, Bool.not_true, Bool.not_false, h0, h1, hw, lStage_get hx, e1, e2]))
      all_goals first
        | rfl
        | (simp only [fewG, fewGo, e3]; rfl)
        | grind [fewG, fewGo]
        | (simp only [fewG, fewGo, e3]; grind)
        | (simp [fewG, fewGo, e3, *]; done)
        | (simp_all [fewG, fewGo, e3]; done)
        | skip
    · have e3 : 12 - k = 0 := by omega
      rw [e3, List.take_zero] at hF
      have h13 : ¬ (k : Int) < 12 := by omega
      simp only [go_sem, ↓reduceIte, h13, decide_false]
      repeat' (first
        | ((first | refine PCallK.intro (c_fewO _) ?_); simp only [go_sem, ↓reduceIte, h0, h1, hw, lStage_get hx, e1, e2])
        | ((first | refine condK_split _ _ _ (fun hc => ?_) (fun hc => ?_) | refine gsel_split _ _ _ _ (fun hc => ?_) (fun hc => ?_)) <;> simp only [go_sem, ↓reduceIte, hc, Bool.not_true, Bool.not_false, h0, h1, hw, lStage_get hx, e1, e2]))
      all_goals first
        | rfl
        | (simp only [fewG, fewGo]; rfl)
        | grind [fewG, fewGo]
        | (simp only [fewG, fewGo]; grind)
        | (simp [fewG, fewGo, *]; done)
        | (simp_all [fewG, fewGo]; done)
        | skip
  · intro hF hlt
    simp only [go_sem, ↓reduceIte, hlt, decide_false]
    repeat' (first
      | ((first | refine condK_split _ _ _ (fun hc => ?_) (fun hc => ?_) | refine gsel_split _ _ _ _ (fun hc => ?_) (fun hc => ?_)) <;> simp only [go_sem, ↓reduceIte, hc, Bool.not_true, Bool.not_false]))
    all_goals first
      | rfl
      | (simp only [fewG, fewGo]; rfl)
      | grind [fewG, fewGo]
      | (simp only [fewG, fewGo]; grind)
      | (simp [fewG, fewGo, *]; done)
      | (simp_all [fewG, fewGo]; done)
      | skip

theorem c_fewT (t : Tenant) : PCall Tryz.prog 11 [.agg t.c] (.bool (fewT t)) := by
  refine PCall.fit call11 fun hf => ?_
  have hl1 := Tenant.fit_program (fit1 hf)
  have hl2 := Tenant.fit_routes (fit1 hf)
  refine PCall.of h11 mixed h11_d Tryz.func11 rfl call11 (by simp [Tryz.f11]) (by simp [pureL, AV.pure, go_sem]) rfl ?_
  simp only [Tryz.f11, go_sem, ↓reduceIte]
  repeat' (first
    | ((first | refine PCallK.intro (c_fewG _) ?_); simp only [go_sem, ↓reduceIte])
    | ((first | refine condK_split _ _ _ (fun hc => ?_) (fun hc => ?_) | refine gsel_split _ _ _ _ (fun hc => ?_) (fun hc => ?_)) <;> simp only [go_sem, ↓reduceIte, hc, Bool.not_true, Bool.not_false]))
  all_goals first
    | rfl
    | (simp only [fewT]; rfl)
    | grind [fewT]
    | (simp only [fewT]; grind)
    | (simp [fewT, *]; done)
    | (simp_all [fewT]; done)
    | skip
  refine awp_all t.program (fun r => r.all fun x => decide (starsO x.policy ≤ 2) && lightO x.policy) (fun k => [(1, .ptr 0 0), (4, .int .i64 k)]) hl1 rfl ?_ ?_
  · intro k y ys hd hx hF h0 h1 hw
    simp only [go_sem, ↓reduceIte, h0, h1, lStage_get hx]
    repeat' (first
      | ((first | refine PCallK.intro (c_starsO _) ?_ | refine PCallK.intro (c_lightO _) ?_); simp only [go_sem, ↓reduceIte, h0, h1, hw, lStage_get hx])
      | ((first | refine condK_split _ _ _ (fun hc => ?_) (fun hc => ?_) | refine gsel_split _ _ _ _ (fun hc => ?_) (fun hc => ?_)) <;> simp only [go_sem, ↓reduceIte, hc, Bool.not_true, Bool.not_false, h0, h1, hw, lStage_get hx]))
    all_goals first
      | rfl
      | (simp only [fewT, List.all_cons, List.all_nil]; rfl)
      | grind [fewT]
      | (simp only [fewT, List.all_cons, List.all_nil]; grind)
      | (simp [fewT, List.all_cons, List.all_nil, *]; done)
      | (simp_all [fewT, List.all_cons, List.all_nil]; done)
      | skip
    skip
  · intro hF hlt
    simp only [go_sem, ↓reduceIte, hlt, decide_false]
    refine awp_all t.routes (fun r => r.all fun x => fewP x.pred && fewR x.path) (fun k => [(1, .ptr 0 0), (5, .int .i64 k)]) hl2 rfl ?_ ?_
    · intro k y ys hd hx hF h0 h1 hw
      simp only [go_sem, ↓reduceIte, h0, h1, lRoute_get hx]
      repeat' (first
        | ((first | refine PCallK.intro (c_fewP _) ?_ | refine PCallK.intro (c_fewR _) ?_); simp only [go_sem, ↓reduceIte, h0, h1, hw, lRoute_get hx])
        | ((first | refine condK_split _ _ _ (fun hc => ?_) (fun hc => ?_) | refine gsel_split _ _ _ _ (fun hc => ?_) (fun hc => ?_)) <;> simp only [go_sem, ↓reduceIte, hc, Bool.not_true, Bool.not_false, h0, h1, hw, lRoute_get hx]))
      all_goals first
        | rfl
        | (simp only [fewT, List.all_cons, List.all_nil]; rfl)
        | grind [fewT]
        | (simp only [fewT, List.all_cons, List.all_nil]; grind)
        | (simp [fewT, List.all_cons, List.all_nil, *]; done)
        | (simp_all [fewT, List.all_cons, List.all_nil]; done)
        | skip
      skip
    · intro hF2 hlt2
      simp only [go_sem, ↓reduceIte, hlt2, decide_false]
      repeat' (first
        | ((first | refine condK_split _ _ _ (fun hc => ?_) (fun hc => ?_) | refine gsel_split _ _ _ _ (fun hc => ?_) (fun hc => ?_)) <;> simp only [go_sem, ↓reduceIte, hc, Bool.not_true, Bool.not_false]))
      all_goals first
        | rfl
        | (simp only [fewT, List.all_cons, List.all_nil]; rfl)
        | grind [fewT]
        | (simp only [fewT, List.all_cons, List.all_nil]; grind)
        | (simp [fewT, List.all_cons, List.all_nil, *]; done)
        | (simp_all [fewT, List.all_cons, List.all_nil]; done)
        | skip
      skip

theorem c_eqP : ∀ x y : Pred, PCall Tryz.prog 29 [.agg x.c, .agg y.c] (.bool (eqP x y)) := by
  refine Pred.ind _ fun x ih => fun y => ?_
  refine PCall.fit call29 fun hf => ?_
  have hl := Pred.fit_args (fit1 hf)
  refine PCall.of h29 mixed h29_d Tryz.func29 rfl call29 (by simp [Tryz.f29]) (by simp [pureL, AV.pure, go_sem]) rfl ?_
  simp only [Tryz.f29, go_sem, ↓reduceIte, toList_beq]
  repeat' (first
    | ((first | refine condK_split _ _ _ (fun hc => ?_) (fun hc => ?_) | refine gsel_split _ _ _ _ (fun hc => ?_) (fun hc => ?_)) <;> simp only [go_sem, ↓reduceIte, hc, Bool.not_true, Bool.not_false, toList_beq]))
  all_goals first
    | rfl
    | (simp only [eqP_eq]; rfl)
    | grind [eqP_eq]
    | (simp only [eqP_eq]; grind)
    | (simp [eqP_eq, *]; done)
    | (simp_all [eqP_eq]; done)
    | skip
  have hll : x.args.length = y.args.length := by grind
  refine awp_all x.args (fun r => eqPs r (y.args.drop (x.args.length - r.length))) (fun k => [(2, .ptr 0 0), (3, .ptr 1 0), (5, .int .i64 k)]) hl rfl ?_ ?_
  · intro k z zs hd hx hF h0 h1 hw
    have hk := drop_len hd
    obtain ⟨w, hy⟩ : ∃ w, y.args[k]? = some w := ⟨_, List.getElem?_eq_getElem (by omega)⟩
    have e1 : x.args.length - (z :: zs).length = k := by simp; omega
    have e2 : x.args.length - zs.length = k + 1 := by omega
    have e3 : y.args.drop k = w :: y.args.drop (k + 1) := by rw [List.drop_eq_getElem_cons (by omega)]; congr 1; grind
    have h2 : (k : Int) < (y.args.length : Int) := by omega
    rw [e1, e3, Nat.sub_self, List.drop_zero, eqPs_cons] at hF
    have hm := List.mem_of_getElem? hx
    simp only [go_sem, ↓reduceIte, h0, h1, h2, lPred_get hx, lPred_get hy, e1, e2, e3]
    repeat' (first
      | ((first | refine PCallK.intro (ih _ hm _) ?_); simp only [go_sem, ↓reduceIte, h0, h1, h2, hw, lPred_get hx, lPred_get hy, e1, e2, e3])
      | ((first | refine condK_split _ _ _ (fun hc => ?_) (fun hc => ?_) | refine gsel_split _ _ _ _ (fun hc => ?_) (fun hc => ?_)) <;> simp only [go_sem, ↓reduceIte, hc, Bool.not_true, Bool.not_false, h0, h1, h2, hw, lPred_get hx, lPred_get hy, e1, e2, e3]))
    all_goals first
      | rfl
      | (simp only [eqP_eq, eqPs_cons, hF]; rfl)
      | grind [eqP_eq, eqPs_cons]
      | (simp only [eqP_eq, eqPs_cons, hF]; grind)
      | (simp [eqP_eq, eqPs_cons, hF, *]; done)
      | (simp_all [eqP_eq, eqPs_cons, hF]; done)
      | skip
  · intro hF hlt
    simp only [go_sem, ↓reduceIte, hlt, decide_false]
    all_goals first
      | rfl
      | (simp only [eqP_eq, eqPs_nil]; rfl)
      | grind [eqP_eq, eqPs_nil]
      | (simp only [eqP_eq, eqPs_nil]; grind)
      | (simp [eqP_eq, eqPs_nil, *]; done)
      | (simp_all [eqP_eq, eqPs_nil]; done)
      | skip

end Go.AI

namespace Go.AI
open Go.Proofs
set_option maxRecDepth 50000

theorem c_eqS (x y : Stp) : PCall Tryz.prog 38 [.agg x.c, .agg y.c] (.bool (eqS x y)) := by
  refine PCall.fit call38 fun hf => ?_
  have hl := Stp.fit_key (fit1 hf)
  refine PCall.of h38 mixed h38_d Tryz.func38 rfl call38 (by simp [Tryz.f38]) (by simp [pureL, AV.pure, go_sem]) rfl ?_
  simp only [Tryz.f38, go_sem, ↓reduceIte, toList_beq]
  repeat' (first
    | ((first | refine condK_split _ _ _ (fun hc => ?_) (fun hc => ?_) | refine gsel_split _ _ _ _ (fun hc => ?_) (fun hc => ?_)) <;> simp only [go_sem, ↓reduceIte, hc, Bool.not_true, Bool.not_false, toList_beq]))
  all_goals first
    | rfl
    | (simp only [eqS]; rfl)
    | grind [eqS]
    | (simp only [eqS]; grind)
    | (simp [eqS, *]; done)
    | (simp_all [eqS]; done)
    | skip
  have hll : x.key.length = y.key.length := by grind
  refine awp_all x.key (fun r => keysEq r (y.key.drop (x.key.length - r.length))) (fun k => [(2, .ptr 0 0), (3, .ptr 1 0), (5, .int .i64 k)]) hl rfl ?_ ?_
  · intro k z zs hd hx hF h0 h1 hw
    have hk := drop_len hd
    obtain ⟨w, hy⟩ : ∃ w, y.key[k]? = some w := ⟨_, List.getElem?_eq_getElem (by omega)⟩
    have e1 : x.key.length - (z :: zs).length = k := by simp; omega
    have e2 : x.key.length - zs.length = k + 1 := by omega
    have e3 : y.key.drop k = w :: y.key.drop (k + 1) := by rw [List.drop_eq_getElem_cons (by omega)]; congr 1; grind
    have h2 : (k : Int) < (y.key.length : Int) := by omega
    rw [e1, e3, Nat.sub_self, List.drop_zero, keysEq_cons] at hF
    have hm := List.mem_of_getElem? hx
    simp only [go_sem, ↓reduceIte, h0, h1, h2, lStr_get hx, lStr_get hy, e1, e2, e3, toList_beq]
    repeat' (first
      | ((first | refine condK_split _ _ _ (fun hc => ?_) (fun hc => ?_) | refine gsel_split _ _ _ _ (fun hc => ?_) (fun hc => ?_)) <;> simp only [go_sem, ↓reduceIte, hc, Bool.not_true, Bool.not_false, h0, h1, h2, hw, lStr_get hx, lStr_get hy, e1, e2, e3, toList_beq]))
    all_goals first
      | rfl
      | (simp only [eqS, keysEq_cons, hF]; rfl)
      | grind [eqS, keysEq_cons]
      | (simp only [eqS, keysEq_cons, hF]; grind)
      | (simp [eqS, keysEq_cons, hF, *]; done)
      | (simp_all [eqS, keysEq_cons, hF]; done)
      | skip
  · intro hF hlt
    simp only [go_sem, ↓reduceIte, hlt, decide_false]
    all_goals first
      | rfl
      | (simp only [eqS, keysEq_nil]; rfl)
      | grind [eqS, keysEq_nil]
      | (simp only [eqS, keysEq_nil]; grind)
      | (simp [eqS, keysEq_nil, *]; done)
      | (simp_all [eqS, keysEq_nil]; done)
      | skip

end Go.AI

namespace Go.AI
open Go.Proofs
set_option maxRecDepth 50000

set_option maxHeartbeats 8000000 in
theorem c_fmP : ∀ x : Pred, bulkL x.c ≤ 1073741824 → PCall Tryz.prog 173 [.agg x.c] (.bool (fmP x)) := by
  refine Pred.ind _ fun x ih => fun hb => ?_
  have hl : x.args.length ≤ 9223372036854775807 := Nat.le_trans (lPred_bn (Pred.bl_args hb)) (by decide)
  refine PCall.of h173 mixed h173_d Tryz.func173 rfl call173 (by simp [Tryz.f173]) (by simp [pureL, AV.pure, go_sem]) rfl ?_
  simp only [Tryz.f173, go_sem, ↓reduceIte, toList_beq]
  repeat' (first
    | ((first | refine PCallK.intro (c_Named _ (Pred.bk_field hb)) ?_); simp only [go_sem, ↓reduceIte, toList_beq])
    | ((first | refine condK_split _ _ _ (fun hc => ?_) (fun hc => ?_) | refine gsel_split _ _ _ _ (fun hc => ?_) (fun hc => ?_)) <;> simp only [go_sem, ↓reduceIte, hc, Bool.not_true, Bool.not_false, toList_beq]))
  all_goals first
    | rfl
    | (simp only [fmP_eq, okP, noneP, w16]; rfl)
    | grind [fmP_eq, okP, noneP, w16]
    | (simp only [fmP_eq, okP, noneP, w16]; grind)
    | (simp [fmP_eq, okP, noneP, w16, *]; done)
    | (simp_all [fmP_eq, okP, noneP, w16]; done)
    | skip
  all_goals
    have ho : ((okP x).1 && x.args.length == (okP x).2) = true := by grind [okP, noneP, w16]
    refine awp_all x.args (fun r => fmPs r) (fun k => [(1, .ptr 0 0), (6, .int .i64 x.args.length), (8, .int .i64 k)]) hl (by grind) ?_ ?_
    · intro k y ys hd hx hF h0 h1 hw
      have hm := List.mem_of_getElem? hx
      have hby : bulkL y.c ≤ 1073741824 := by have := lPred_bk (Pred.bl_args hb) hm; simpa only [AV.bulk] using this
      simp only [go_sem, ↓reduceIte, h0, h1, lPred_get hx]
      repeat' (first
        | ((first | refine PCallK.intro (ih _ hm hby) ?_); simp only [go_sem, ↓reduceIte, h0, h1, hw, lPred_get hx])
        | ((first | refine condK_split _ _ _ (fun hc => ?_) (fun hc => ?_) | refine gsel_split _ _ _ _ (fun hc => ?_) (fun hc => ?_)) <;> simp only [go_sem, ↓reduceIte, hc, Bool.not_true, Bool.not_false, h0, h1, hw, lPred_get hx]))
      · rw [fmP_eq, ho, hF, fmPs_cons]
        simp only [Bool.not_eq_true'] at hc
        rw [hc]; rfl
      · rw [fmPs_cons]
        simp only [Bool.not_eq_false'] at hc
        rw [hc]; rfl
    · intro hF hlt
      simp only [go_sem, ↓reduceIte, hlt, decide_false]
      rw [fmP_eq, ho, hF, fmPs_nil]; rfl

end Go.AI

namespace Go.AI
open Go.Proofs
set_option maxRecDepth 50000

set_option maxHeartbeats 8000000 in
theorem c_fmO : ∀ x : Policy, bulkL x.c ≤ 1073741824 → PCall Tryz.prog 96 [.agg x.c] (.bool (fmO x)) := by
  refine Policy.ind _ fun x ih => fun hb => ?_
  have hl : x.args.length ≤ 9223372036854775807 := Nat.le_trans (lPolicy_bn (Policy.bl_args hb)) (by decide)
  refine PCall.of h96 mixed h96_d Tryz.func96 rfl call96 (by simp [Tryz.f96]) (by simp [pureL, AV.pure, go_sem]) rfl ?_
  simp only [Tryz.f96, go_sem, ↓reduceIte, toList_beq]
  repeat' (first
    | ((first | refine PCallK.intro (c_Named _ (Policy.bk_field hb)) ?_ | refine PCallK.intro (PCall.lend (c_eqP x.pred Pred.z)) ?_ | refine PCallK.intro (c_fmP _ (Policy.bs_pred hb)) ?_); simp only [go_sem, ↓reduceIte, toList_beq])
    | ((first | refine condK_split _ _ _ (fun hc => ?_) (fun hc => ?_) | refine gsel_split _ _ _ _ (fun hc => ?_) (fun hc => ?_)) <;> simp only [go_sem, ↓reduceIte, hc, Bool.not_true, Bool.not_false, toList_beq]))
  all_goals first
    | rfl
    | (simp only [fmO_eq, okO, w16]; rfl)
    | grind [fmO_eq, okO, w16]
    | (simp only [fmO_eq, okO, w16]; grind)
    | (simp [fmO_eq, okO, w16, *]; done)
    | (simp_all [fmO_eq, okO, w16]; done)
    | skip
  all_goals
    have ho : ((okO x).1 && x.args.length == (okO x).2) = true := by grind [okO, w16]
    refine awp_all x.args (fun r => fmOs r) (fun k => [(1, .ptr 0 0), (6, .int .i64 x.args.length), (8, .int .i64 k)]) hl (by grind) ?_ ?_
    · intro k y ys hd hx hF h0 h1 hw
      have hm := List.mem_of_getElem? hx
      have hby : bulkL y.c ≤ 1073741824 := by have := lPolicy_bk (Policy.bl_args hb) hm; simpa only [AV.bulk] using this
      simp only [go_sem, ↓reduceIte, h0, h1, lPolicy_get hx]
      repeat' (first
        | ((first | refine PCallK.intro (ih _ hm hby) ?_); simp only [go_sem, ↓reduceIte, h0, h1, hw, lPolicy_get hx])
        | ((first | refine condK_split _ _ _ (fun hc => ?_) (fun hc => ?_) | refine gsel_split _ _ _ _ (fun hc => ?_) (fun hc => ?_)) <;> simp only [go_sem, ↓reduceIte, hc, Bool.not_true, Bool.not_false, h0, h1, hw, lPolicy_get hx]))
      · rw [fmO_eq, ho, hF, fmOs_cons]
        simp only [Bool.not_eq_true'] at hc
        rw [hc]; rfl
      · rw [fmOs_cons]
        simp only [Bool.not_eq_false'] at hc
        rw [hc]; rfl
    · intro hF hlt
      simp only [go_sem, ↓reduceIte, hlt, decide_false]
      rw [fmO_eq, ho, hF, fmOs_nil]; rfl

set_option maxHeartbeats 8000000 in
theorem c_fmR : ∀ x : Regex, bulkL x.c ≤ 1073741824 → PCall Tryz.prog 151 [.agg x.c] (.bool (fmR x)) := by
  refine Regex.ind _ fun x ih => fun hb => ?_
  have hl : x.args.length ≤ 9223372036854775807 := Nat.le_trans (lRegex_bn (Regex.bl_args hb)) (by decide)
  refine PCall.of h151 mixed h151_d Tryz.func151 rfl call151 (by simp [Tryz.f151]) (by simp [pureL, AV.pure, go_sem]) rfl ?_
  simp only [Tryz.f151, go_sem, ↓reduceIte, toList_beq]
  repeat' (first
    | ((first | refine PCallK.intro (c_Plain _ (Regex.bk_node hb)) ?_); simp only [go_sem, ↓reduceIte, toList_beq])
    | ((first | refine condK_split _ _ _ (fun hc => ?_) (fun hc => ?_) | refine gsel_split _ _ _ _ (fun hc => ?_) (fun hc => ?_)) <;> simp only [go_sem, ↓reduceIte, hc, Bool.not_true, Bool.not_false, toList_beq]))
  all_goals first
    | rfl
    | (simp only [fmR_eq, okR]; rfl)
    | grind [fmR_eq, okR]
    | (simp only [fmR_eq, okR]; grind)
    | (simp [fmR_eq, okR, *]; done)
    | (simp_all [fmR_eq, okR]; done)
    | skip
  all_goals
    have ho : ((okR x).1 && x.args.length == (okR x).2) = true := by grind [okR]
    refine awp_all x.args (fun r => fmRs r) (fun k => [(1, .ptr 0 0), (4, .int .i64 x.args.length), (6, .int .i64 k)]) hl (by grind) ?_ ?_
    · intro k y ys hd hx hF h0 h1 hw
      have hm := List.mem_of_getElem? hx
      have hby : bulkL y.c ≤ 1073741824 := by have := lRegex_bk (Regex.bl_args hb) hm; simpa only [AV.bulk] using this
      simp only [go_sem, ↓reduceIte, h0, h1, lRegex_get hx]
      repeat' (first
        | ((first | refine PCallK.intro (ih _ hm hby) ?_); simp only [go_sem, ↓reduceIte, h0, h1, hw, lRegex_get hx])
        | ((first | refine condK_split _ _ _ (fun hc => ?_) (fun hc => ?_) | refine gsel_split _ _ _ _ (fun hc => ?_) (fun hc => ?_)) <;> simp only [go_sem, ↓reduceIte, hc, Bool.not_true, Bool.not_false, h0, h1, hw, lRegex_get hx]))
      · rw [fmR_eq, ho, hF, fmRs_cons]
        simp only [Bool.not_eq_true'] at hc
        rw [hc]; rfl
      · rw [fmRs_cons]
        simp only [Bool.not_eq_false'] at hc
        rw [hc]; rfl
    · intro hF hlt
      simp only [go_sem, ↓reduceIte, hlt, decide_false]
      rw [fmR_eq, ho, hF, fmRs_nil]; rfl

end Go.AI

namespace Go.AI
open Go.Proofs
set_option maxRecDepth 50000

theorem c_limit (z : Sizes) : PCall Tryz.prog 170 [.agg z.c] (.int .i64 (limE z)) := by
  refine PCall.of h170 mixed h170_d Tryz.func170 rfl call170 (by simp [Tryz.f170]) (by simp [pureL, AV.pure, go_sem]) rfl ?_
  simp only [Tryz.f170, go_sem, ↓reduceIte]
  repeat' (first
    | ((first | refine condK_split _ _ _ (fun hc => ?_) (fun hc => ?_) | refine gsel_split _ _ _ _ (fun hc => ?_) (fun hc => ?_)) <;> simp only [go_sem, ↓reduceIte, hc, Bool.not_true, Bool.not_false]))
  all_goals first
    | rfl
    | (simp only [limE]; rfl)
    | grind [limE]
    | (simp only [limE]; grind)
    | (simp [limE, *]; done)
    | (simp_all [limE]; done)
    | skip

theorem c_formed (z : Sizes) (b : Bool) : PCall Tryz.prog 94 [.agg z.c, .bool b] (.int .i64 (fmE z b)) := by
  refine PCall.of h94 mixed h94_d Tryz.func94 rfl call94 (by simp [Tryz.f94]) (by simp [pureL, AV.pure, go_sem]) rfl ?_
  simp only [Tryz.f94, go_sem, ↓reduceIte]
  repeat' (first
    | ((first | refine PCallK.intro (c_limit _) ?_); simp only [go_sem, ↓reduceIte])
    | ((first | refine condK_split _ _ _ (fun hc => ?_) (fun hc => ?_) | refine gsel_split _ _ _ _ (fun hc => ?_) (fun hc => ?_)) <;> simp only [go_sem, ↓reduceIte, hc, Bool.not_true, Bool.not_false]))
  all_goals first
    | rfl
    | (simp only [fmE]; rfl)
    | grind [fmE]
    | (simp only [fmE]; grind)
    | (simp [fmE, *]; done)
    | (simp_all [fmE]; done)
    | skip

theorem c_ckP (x : Pred) (hb : bulkL x.c ≤ 1073741824) : PCall Tryz.prog 149 [.agg x.c] (.int .i64 (ckP x)) := by
  refine PCall.of h149 mixed h149_d Tryz.func149 rfl call149 (by simp [Tryz.f149]) (by simp [pureL, AV.pure, go_sem]) rfl ?_
  simp only [Tryz.f149, go_sem, ↓reduceIte]
  repeat' (first
    | ((first | refine PCallK.intro (c_szP _) ?_ | refine PCallK.intro (c_fmP _ hb) ?_ | refine PCallK.intro (c_formed _ _) ?_); simp only [go_sem, ↓reduceIte])
    | ((first | refine condK_split _ _ _ (fun hc => ?_) (fun hc => ?_) | refine gsel_split _ _ _ _ (fun hc => ?_) (fun hc => ?_)) <;> simp only [go_sem, ↓reduceIte, hc, Bool.not_true, Bool.not_false]))
  all_goals first
    | rfl
    | (simp only [ckP]; rfl)
    | grind [ckP]
    | (simp only [ckP]; grind)
    | (simp [ckP, *]; done)
    | (simp_all [ckP]; done)
    | skip

theorem c_ckO (x : Policy) (hb : bulkL x.c ≤ 1073741824) : PCall Tryz.prog 41 [.agg x.c] (.int .i64 (ckO x)) := by
  refine PCall.of h41 mixed h41_d Tryz.func41 rfl call41 (by simp [Tryz.f41]) (by simp [pureL, AV.pure, go_sem]) rfl ?_
  simp only [Tryz.f41, go_sem, ↓reduceIte]
  repeat' (first
    | ((first | refine PCallK.intro (c_szO _) ?_ | refine PCallK.intro (c_fmO _ hb) ?_ | refine PCallK.intro (c_formed _ _) ?_); simp only [go_sem, ↓reduceIte])
    | ((first | refine condK_split _ _ _ (fun hc => ?_) (fun hc => ?_) | refine gsel_split _ _ _ _ (fun hc => ?_) (fun hc => ?_)) <;> simp only [go_sem, ↓reduceIte, hc, Bool.not_true, Bool.not_false]))
  all_goals first
    | rfl
    | (simp only [ckO]; rfl)
    | grind [ckO]
    | (simp only [ckO]; grind)
    | (simp [ckO, *]; done)
    | (simp_all [ckO]; done)
    | skip

theorem c_ckR (x : Regex) (hb : bulkL x.c ≤ 1073741824) : PCall Tryz.prog 68 [.agg x.c] (.int .i64 (ckR x)) := by
  refine PCall.of h68 mixed h68_d Tryz.func68 rfl call68 (by simp [Tryz.f68]) (by simp [pureL, AV.pure, go_sem]) rfl ?_
  simp only [Tryz.f68, go_sem, ↓reduceIte]
  repeat' (first
    | ((first | refine PCallK.intro (c_szR _) ?_ | refine PCallK.intro (c_fmR _ hb) ?_ | refine PCallK.intro (c_formed _ _) ?_); simp only [go_sem, ↓reduceIte])
    | ((first | refine condK_split _ _ _ (fun hc => ?_) (fun hc => ?_) | refine gsel_split _ _ _ _ (fun hc => ?_) (fun hc => ?_)) <;> simp only [go_sem, ↓reduceIte, hc, Bool.not_true, Bool.not_false]))
  all_goals first
    | rfl
    | (simp only [ckR]; rfl)
    | grind [ckR]
    | (simp only [ckR]; grind)
    | (simp [ckR, *]; done)
    | (simp_all [ckR]; done)
    | skip

set_option maxHeartbeats 8000000 in
theorem c_fmS (x : Stp) (hb : bulkL x.c ≤ 1073741824) : PCall Tryz.prog 291 [.agg x.c] (.bool (fmS x)) := by
  have hl : x.key.length ≤ 9223372036854775807 := Nat.le_trans (lStr_bn (Stp.bl_key hb)) (by decide)
  refine PCall.of h291 mixed h291_d Tryz.func291 rfl call291 (by simp [Tryz.f291]) (by simp [pureL, AV.pure, go_sem]) rfl ?_
  simp only [Tryz.f291, go_sem, ↓reduceIte, toList_beq]
  repeat' (first
    | ((first | refine PCallK.intro (PCall.lend (c_eqS x Stp.z)) ?_ | refine PCallK.intro (c_Plain _ (Stp.bk_var hb)) ?_); simp only [go_sem, ↓reduceIte, toList_beq])
    | ((first | refine condK_split _ _ _ (fun hc => ?_) (fun hc => ?_) | refine gsel_split _ _ _ _ (fun hc => ?_) (fun hc => ?_)) <;> simp only [go_sem, ↓reduceIte, hc, Bool.not_true, Bool.not_false, toList_beq]))
  all_goals first
    | rfl
    | (simp only [fmS]; rfl)
    | grind [fmS]
    | (simp only [fmS]; grind)
    | (simp [fmS, *]; done)
    | (simp_all [fmS]; done)
    | skip
  refine awp_all x.key (fun r => r.all fnB) (fun k => [(1, .ptr 0 0), (5, .int .i64 k)]) hl rfl ?_ ?_
  · intro k y ys hd hx hF h0 h1 hw
    have hm := List.mem_of_getElem? hx
    have hby : y.size ≤ 1073741824 := by have := lStr_bk (Stp.bl_key hb) hm; simp only [AV.bulk] at this; omega
    simp only [go_sem, ↓reduceIte, h0, h1, lStr_get hx]
    repeat' (first
      | ((first | refine PCallK.intro (c_Named _ hby) ?_); simp only [go_sem, ↓reduceIte, h0, h1, hw, lStr_get hx])
      | ((first | refine condK_split _ _ _ (fun hc => ?_) (fun hc => ?_) | refine gsel_split _ _ _ _ (fun hc => ?_) (fun hc => ?_)) <;> simp only [go_sem, ↓reduceIte, hc, Bool.not_true, Bool.not_false, h0, h1, hw, lStr_get hx]))
    all_goals first
      | rfl
      | (simp only [fmS, List.all_cons]; rfl)
      | grind [fmS]
      | (simp only [fmS, List.all_cons]; grind)
      | (simp [fmS, List.all_cons, *]; done)
      | (simp_all [fmS, List.all_cons]; done)
      | skip
  · intro hF hlt
    simp only [go_sem, ↓reduceIte, hlt, decide_false]
    repeat' (first
      | ((first | refine PCallK.intro (c_Named _ (Stp.bk_field hb)) ?_); simp only [go_sem, ↓reduceIte, toList_beq])
      | ((first | refine condK_split _ _ _ (fun hc => ?_) (fun hc => ?_) | refine gsel_split _ _ _ _ (fun hc => ?_) (fun hc => ?_)) <;> simp only [go_sem, ↓reduceIte, hc, Bool.not_true, Bool.not_false, toList_beq]))
    all_goals first
      | rfl
      | (simp only [fmS, List.all_nil]; rfl)
      | grind [fmS]
      | (simp only [fmS, List.all_nil]; grind)
      | (simp [fmS, List.all_nil, *]; done)
      | (simp_all [fmS, List.all_nil]; done)
      | skip

theorem c_ckS (x : Stp) (hb : bulkL x.c ≤ 1073741824) : PCall Tryz.prog 254 [.agg x.c] (.int .i64 (ckS x)) := by
  refine PCall.of h254 mixed h254_d Tryz.func254 rfl call254 (by simp [Tryz.f254]) (by simp [pureL, AV.pure, go_sem]) rfl ?_
  simp only [Tryz.f254, go_sem, ↓reduceIte]
  repeat' (first
    | ((first | refine PCallK.intro (c_fmS _ hb) ?_); simp only [go_sem, ↓reduceIte])
    | ((first | refine condK_split _ _ _ (fun hc => ?_) (fun hc => ?_) | refine gsel_split _ _ _ _ (fun hc => ?_) (fun hc => ?_)) <;> simp only [go_sem, ↓reduceIte, hc, Bool.not_true, Bool.not_false]))
  all_goals first
    | rfl
    | (simp only [ckS]; rfl)
    | grind [ckS]
    | (simp only [ckS]; grind)
    | (simp [ckS, *]; done)
    | (simp_all [ckS]; done)
    | skip

theorem c_ckG (x : List Stage) (hb : bulkL (lStage x) ≤ 1073741824) : PCall Tryz.prog 209 [.sl none (lStage x)] (.int .i64 (ckG x)) := by
  have hl : x.length ≤ 9223372036854775807 := Nat.le_trans (lStage_bn hb) (by decide)
  refine PCall.of h209 mixed h209_d Tryz.func209 rfl call209 (by simp [Tryz.f209]) (by simp [pureL, AV.pure, go_sem]) rfl ?_
  simp only [Tryz.f209, go_sem, ↓reduceIte]
  repeat' (first
    | ((first | refine condK_split _ _ _ (fun hc => ?_) (fun hc => ?_) | refine gsel_split _ _ _ _ (fun hc => ?_) (fun hc => ?_)) <;> simp only [go_sem, ↓reduceIte, hc, Bool.not_true, Bool.not_false]))
  all_goals first
    | rfl
    | (simp only [ckG]; rfl)
    | grind [ckG]
    | (simp only [ckG]; grind)
    | (simp [ckG, *]; done)
    | (simp_all [ckG]; done)
    | skip
  refine awp_all x (fun r => ckGo r) (fun k => [(0, .sl none (lStage x)), (3, .int .i64 k)]) hl rfl ?_ ?_
  · intro k y ys hd hx hF h0 h1 hw
    have hm := List.mem_of_getElem? hx
    have hby : bulkL y.c ≤ 1073741824 := by have := lStage_bk hb hm; simpa only [AV.bulk] using this
    simp only [go_sem, ↓reduceIte, h0, h1, lStage_get hx]
    repeat' (first
      | ((first | refine PCallK.intro (c_ckO _ (Stage.bs_policy hby)) ?_ | refine PCallK.intro (c_ckS _ (Stage.bs_step hby)) ?_); simp only [go_sem, ↓reduceIte, h0, h1, hw, lStage_get hx])
      | ((first | refine condK_split _ _ _ (fun hc => ?_) (fun hc => ?_) | refine gsel_split _ _ _ _ (fun hc => ?_) (fun hc => ?_)) <;> simp only [go_sem, ↓reduceIte, hc, Bool.not_true, Bool.not_false, h0, h1, hw, lStage_get hx]))
    all_goals first
      | rfl
      | (simp only [ckG, ckGo]; rfl)
      | grind [ckG, ckGo]
      | (simp only [ckG, ckGo]; grind)
      | (simp [ckG, ckGo, *]; done)
      | (simp_all [ckG, ckGo]; done)
      | skip
  · intro hF hlt
    simp only [go_sem, ↓reduceIte, hlt, decide_false]
    all_goals first
      | rfl
      | (simp only [ckG, ckGo]; rfl)
      | grind [ckG, ckGo]
      | (simp only [ckG, ckGo]; grind)
      | (simp [ckG, ckGo, *]; done)
      | (simp_all [ckG, ckGo]; done)
      | skip

end Go.AI
