/- Contracts of the program's names and sizes. -/
import Derived.Test.YtdgagjhjpffeaaaGreatDoorMg
import Derived.Test.YtdgagjhjpffeaaaGreatDoorMj
import Derived.Test.YtdgagjhjpffeaaaGreatDoorMf
import Derived.Sort.Walk0
set_option linter.unusedSimpArgs false
set_option linter.unusedVariables false
namespace Go.AI
open Go.Proofs
set_option maxRecDepth 50000
@[go_sem] theorem binK_slss {P : Program} {t : TypeId} {x y : ByteArray} {d : Tmp} {K : Kt} {e : Env} {H : Heap} : binK P .lss t (.str x) (.str y) d K e H = K ((d, .bool (Op.bytesLess x.toList y.toList)) :: e) H := by rw [binK_str]; simp [abin]
@[go_sem] theorem evo_g0 {P : Program} {o : Option TypeId} {e : Env} : evo P o e (.global 0) = .cptr (words.map AV.str) 0 := rfl
theorem ACallK.ofP {P : Program} {f : FuncId} {vs : List AV} {d : Option Tmp} {K : Kt} {e : Env} {H : Heap} {v : AV} (h : PCall P f vs v) (hk : K (put d v e) H) : ACallK P f vs d K e H :=
 (h H).mono fun v' H' hr => by obtain ⟨rfl, rfl⟩ := hr; exact hk
def SCall (P : Program) (f : FuncId) (vs : List AV) (H : Heap) (v : AV) : Prop := ACall P f vs H fun v' H' => v' = v /\ H' = H
theorem PCall.toS {P : Program} {f : FuncId} {vs : List AV} {H : Heap} {v : AV} (h : PCall P f vs v) : SCall P f vs H v := h H
theorem RCall.toS {P : Program} {f : FuncId} {vs : List AV} {H H2 : Heap} {v : AV} (h : RCall P f vs H v) (hv : hview H2 = hview H) : SCall P f vs H2 v := h H2 hv
theorem ACallK.ofS {P : Program} {f : FuncId} {vs : List AV} {d : Option Tmp} {K : Kt} {e : Env} {H : Heap} {v : AV} (h : SCall P f vs H v) (hk : K (put d v e) H) : ACallK P f vs d K e H :=
 h.mono fun v' H' hr => by obtain ⟨rfl, rfl⟩ := hr; exact hk
theorem aP {P : Program} {f : FuncId} {vs : List AV} {d : Option Tmp} {K : Kt} {e : Env} {H : Heap} {v : AV} (h : PCall P f vs v) (hk : K (put d v e) H) : ACallK P f vs d K e H := ACallK.ofP h hk
theorem aS {P : Program} {f : FuncId} {vs : List AV} {d : Option Tmp} {K : Kt} {e : Env} {H : Heap} {v : AV} (h : SCall P f vs H v) (hk : K (put d v e) H) : ACallK P f vs d K e H := ACallK.ofS h hk
def ltB (a b : ByteArray) : Bool := Op.bytesLess a.toList b.toList
theorem ltB_irr (a : ByteArray) : ltB a a = false := by
 unfold ltB; rw [Go.Proofs.bytesLess_eq]; simp [List.lt_irrefl]
theorem ltB_tr {a b c : ByteArray} (h1 : ltB a b = true) (h2 : ltB b c = true) : ltB a c = true := by
 unfold ltB at *; rw [Go.Proofs.bytesLess_eq, decide_eq_true_eq] at *; exact List.lt_trans h1 h2
theorem p_within5 (c lo hi : Int) : PCall Tryz.prog 315 [.int .u8 c, .int .u8 lo, .int .u8 hi] (.bool (decide (lo <= c) && decide (c <= hi))) := by
 refine pC h315_k rfl ?_
 simp only [Tryz.f315, go_sem]
 repeat' (first
  | ((first | refine cS ?_ ?_ | refine gS ?_ ?_) <;> (intro hc; simp only [go_sem, hc])))
 all_goals grind
theorem p_isLetter (c : UInt8) : PCall Tryz.prog 286 [.int .u8 c.toNat] (.bool (loB c)) := by
 refine pC h286_k rfl ?_
 simp only [Tryz.f286, go_sem]
 repeat' (first
  | (refine pK (p_within5 _ _ _) ?_; simp only [go_sem])
  | ((first | refine cS ?_ ?_ | refine gS ?_ ?_) <;> (intro hc; simp only [go_sem, hc])))
 all_goals first | rfl | (simp only [loB, bz])
theorem p_isDigit (c : UInt8) : PCall Tryz.prog 317 [.int .u8 c.toNat] (.bool (dgB c)) := by
 refine pC h317_k rfl ?_
 simp only [Tryz.f317, go_sem]
 repeat' (first
  | (refine pK (p_within5 _ _ _) ?_; simp only [go_sem])
  | ((first | refine cS ?_ ?_ | refine gS ?_ ?_) <;> (intro hc; simp only [go_sem, hc])))
 all_goals first | rfl | (simp only [dgB, bz])
theorem p_isWordByte (c : UInt8) : PCall Tryz.prog 290 [.int .u8 c.toNat] (.bool (wdB c)) := by
 refine pC h290_k rfl ?_
 simp only [Tryz.f290, go_sem]
 repeat' (first
  | ((first | refine pK (p_isLetter _) ?_ | refine pK (p_isDigit _) ?_); simp only [go_sem])
  | ((first | refine cS ?_ ?_ | refine gS ?_ ?_) <;> (intro hc; simp only [go_sem, hc])))
 all_goals (simp only [wdB, bz]; grind)
theorem p_nan1 (s : ByteArray) : PCall Tryz.prog 303 [.str s] (.bool false) := by
 refine pC h303_k rfl ?_
 simp only [Tryz.f303, go_sem, beq_self_eq_true, Bool.not_true]
theorem p_nan2 (s : ByteArray) : PCall Tryz.prog 316 [.str s] (.bool false) := by
 refine pC h316_k rfl ?_
 simp only [Tryz.f316, go_sem, beq_self_eq_true, Bool.not_true]
theorem p_less (a b : ByteArray) : PCall Tryz.prog 272 [.str a, .str b] (.bool (ltB a b)) := by
 refine pC h272_k rfl ?_
 simp only [Tryz.f272, go_sem]
 repeat' (first
  | (refine pK (p_nan1 _) ?_; simp only [go_sem])
  | ((first | refine cS ?_ ?_ | refine gS ?_ ?_) <;> (intro hc; simp only [go_sem, hc])))
 all_goals rfl
end Go.AI
namespace Go.AI
open Go.Proofs
set_option maxRecDepth 50000
def bsI (s : ByteArray) : Nat := (words.takeWhile fun w => ltB w s).length
theorem words_sorted : ∀ i j : Nat, i < j -> j < 49 -> ltB (words.getD i ⟨#[]⟩) (words.getD j ⟨#[]⟩) = true := by
 have h : ((List.range 49).all fun j => (List.range j).all fun i => ltB (words.getD i ⟨#[]⟩) (words.getD j ⟨#[]⟩)) = true := by kernel_rfl
 intro i j hi hj
 have h1 := List.all_eq_true.1 h j (List.mem_range.2 hj)
 exact List.all_eq_true.1 h1 i (List.mem_range.2 hi)
theorem words_len : words.length = 49 := rfl
theorem takeWhile_len {α : Type} {p : α -> Bool} : ∀ (l : List α) (n : Nat), n <= l.length -> (∀ k x, l[k]? = some x -> k < n -> p x = true) -> (∀ x, l[n]? = some x -> p x = false) -> (l.takeWhile p).length = n
 | [], n, hn, _, _ => by simp at hn; subst hn; rfl
 | y :: l, 0, _, _, h2 => by
  have := h2 y rfl
  simp [List.takeWhile, this]
 | y :: l, n + 1, hn, h1, h2 => by
  have hy := h1 0 y rfl (by omega)
  simp only [List.takeWhile, hy, List.length_cons]
  rw [takeWhile_len l n (by simp at hn; omega) (fun k x hk hl => h1 (k + 1) x (by simpa using hk) (by omega)) (fun x hx => h2 x (by simpa using hx))]
theorem wordB_at {s : ByteArray} {i : Nat} (hi : i <= 49) (h1 : ∀ k, k < i -> ltB (words.getD k ⟨#[]⟩) s = true) (h2 : ∀ k, i <= k -> k < 49 -> ltB (words.getD k ⟨#[]⟩) s = false) :
  wordB s = (decide (i < 49) && decide (words.getD i ⟨#[]⟩ = s)) := by
 rw [Bool.eq_iff_iff, Bool.and_eq_true, decide_eq_true_eq, decide_eq_true_eq, wordB, List.any_eq_true]
 constructor
 ·rintro ⟨w, hw, he⟩
  have he : w = s := by simpa using he
  subst he
  obtain ⟨m, hm⟩ := List.getElem?_of_mem hw
  have hml : m < 49 := by have := (List.getElem?_eq_some_iff.1 hm).1; rw [words_len] at this; exact this
  have hmg : words.getD m ⟨#[]⟩ = w := by rw [List.getD_eq_getElem?_getD, hm]; rfl
  rcases Nat.lt_or_ge m i with h | h
  ·have := h1 m h; rw [hmg, ltB_irr] at this; cases this
  ·rcases Nat.lt_or_ge i m with h' | h'
   ·have := words_sorted i m h' hml
    rw [hmg] at this
    rw [h2 i (Nat.le_refl _) (by omega)] at this; cases this
   ·have : i = m := by omega
    subst this
    exact ⟨hml, hmg⟩
 ·rintro ⟨hl, he⟩
  have hm : words.getD i ⟨#[]⟩ ∈ words := by
   have := List.getElem?_eq_getElem (l := words) (i := i) (by rw [words_len]; exact hl)
   rw [List.getD_eq_getElem?_getD, this]
   exact List.getElem_mem _
  exact ⟨_, hm, decide_eq_true he⟩
theorem word_get {k : Nat} (h : k < 49) : (words.map AV.str)[k]? = some (.str (words.getD k ⟨#[]⟩)) := by
 rw [List.getElem?_map, List.getD_eq_getElem?_getD, List.getElem?_eq_getElem (by rw [words_len]; exact h)]; rfl
@[go_sem] theorem words_pureL : pureL (words.map AV.str) = true := by kernel_rfl
@[go_sem] theorem words_len2 : (words.map AV.str).length = 49 := rfl
@[go_sem] theorem binK_shr1 {P : Program} {t : TypeId} {x : Int} {d : Tmp} {K : Kt} {e : Env} {H : Heap} : binK P .shr t (.int .u64 x) (.int .u64 1) d K e H = K ((d, .int .u64 (x.fdiv 2)) :: e) H := by
 rw [binK_int]; simp [abin, IntKind.bits]
theorem half {i j : Nat} (hj : j <= 49) (hi : i < j) : IntKind.i64.wrap ((IntKind.u64.wrap (IntKind.i64.wrap ((i : Int) + (j : Int)))).fdiv 2) = (((i + j) / 2 : Nat) : Int) := by
 have e1 : IntKind.i64.wrap ((i : Int) + (j : Int)) = ((i + j : Nat) : Int) := w64 (by omega) (by omega)
 rw [e1]
 have e2 : IntKind.u64.wrap ((i + j : Nat) : Int) = ((i + j : Nat) : Int) := by
  simp [IntKind.wrap, IntKind.signed, IntKind.bits]; omega
 rw [e2]
 have e3 : ((i + j : Nat) : Int).fdiv 2 = (((i + j) / 2 : Nat) : Int) := by
  rw [Int.fdiv_eq_ediv_of_nonneg _ (by decide)]; omega
 rw [e3]
 exact w64 (by omega) (by omega)
set_option maxHeartbeats 2000000 in
theorem p_search (s : ByteArray) : PCall Tryz.prog 287 [.sl none (words.map AV.str), .str s] (.tup [.int .i64 (bsI s), .bool (wordB s)]) := by
 refine pB h287_k rfl ?_
 simp only [Tryz.f287, go_sem]
 refine awp_wh (σ := Nat × Nat) (fun s2 => [(0, .sl none (words.map AV.str)), (1, .str s), (6, .int .i64 49), (7, .int .i64 s2.1), (8, .int .i64 s2.2)]) (fun _ => []) (fun s2 => s2.1 <= s2.2 /\ s2.2 <= 49 /\ (∀ k, k < s2.1 -> ltB (words.getD k ⟨#[]⟩) s = true) /\ (∀ k, s2.2 <= k -> k < 49 -> ltB (words.getD k ⟨#[]⟩) s = false)) (fun s2 => s2.2 - s2.1) (0, 49) ⟨by omega, by omega, fun k hk => by omega, fun k h1 h2 => by omega⟩ rfl rfl ?_
 rintro ⟨i, j⟩ ⟨hij, hj, h1, h2⟩
 by_cases hlt : i < j
 ·have g1 : (i : Int) < (j : Int) := by omega
  have g2 : (0 : Int) <= (((i + j) / 2 : Nat) : Int) := by omega
  have g3 : (((i + j) / 2 : Nat) : Int).toNat = (i + j) / 2 := by omega
  have hm : (i + j) / 2 < 49 := by omega
  have hw := w64s (k := (i + j) / 2) (by omega)
  simp only [go_sem, g1, decide_true, half hj hlt, g2, g3, word_get hm]
  repeat' (first
   | (refine pK (p_less _ _) ?_; simp only [go_sem, g1, half hj hlt, g2, g3, word_get hm, hw])
   | ((first | refine cS ?_ ?_ | refine gS ?_ ?_) <;> (intro hc; simp only [go_sem, hc, g1, half hj hlt, g2, g3, word_get hm, hw])))
  ·exact ⟨((i + j) / 2 + 1, j), ⟨by omega, hj, fun k hk => by
    rcases Nat.lt_or_ge k ((i + j) / 2) with h | h
    ·exact ltB_tr (words_sorted _ _ h hm) hc
    ·have : k = (i + j) / 2 := by omega
     subst this; exact hc, h2⟩, by omega, rfl, rfl⟩
  ·exact ⟨(i, (i + j) / 2), ⟨by omega, by omega, h1, fun k hk hk9 => by
    rcases Nat.lt_or_ge ((i + j) / 2) k with h | h
    ·cases hq : ltB (words.getD k ⟨#[]⟩) s with
     | false => rfl
     | true => rw [ltB_tr (words_sorted _ _ h hk9) hq] at hc; cases hc
    ·have : k = (i + j) / 2 := by omega
     subst this; exact hc⟩, by omega, rfl, rfl⟩
 ·have hij : i = j := by omega
  subst hij
  have g1 : ¬ (i : Int) < (i : Int) := by omega
  have hwb : wordB s = (decide (i < 49) && decide (words.getD i ⟨#[]⟩ = s)) := wordB_at hj h1 h2
  have hbs : bsI s = i := takeWhile_len words i (by rw [words_len]; exact hj) (fun k x hk hl => by
   have := h1 k hl; rw [List.getD_eq_getElem?_getD, hk] at this; exact this) (fun x hx => by
   have := h2 i (Nat.le_refl _) (by have := (List.getElem?_eq_some_iff.1 hx).1; rw [words_len] at this; exact this)
   rw [List.getD_eq_getElem?_getD, hx] at this; exact this)
  by_cases h49 : i < 49
  ·have g3 : (i : Int) < 49 := by omega
   have g4 : (0 : Int) <= (i : Int) := by omega
   simp only [go_sem, g1, decide_false, g3, g4, decide_true, word_get h49, toList_beq]
   repeat' (first
    | (refine pK (p_nan2 _) ?_; simp only [go_sem, g1, g3, g4, word_get h49, toList_beq, Int.toNat_natCast])
    | ((first | refine cS ?_ ?_ | refine gS ?_ ?_) <;> (intro hc; simp only [go_sem, hc, g1, g3, g4, word_get h49, toList_beq, Int.toNat_natCast])))
   all_goals (rw [hbs, hwb, hc]; simp only [h49, decide_true, Bool.and_false, Bool.not_false, Bool.and_true])
  ·have g3 : ¬ (i : Int) < 49 := by omega
   simp only [go_sem, g1, decide_false, g3]
   repeat' (first
    | (refine pK (p_nan2 _) ?_; simp only [go_sem, g1, g3])
    | ((first | refine cS ?_ ?_ | refine gS ?_ ?_) <;> (intro hc; simp only [go_sem, hc, g1, g3])))
   all_goals (rw [hbs, hwb]; simp [h49])
theorem ext_size (s : ByteArray) {k : Nat} (h : k <= s.size) : (s.extract k s.size).size = s.size - k := by simp [ByteArray.size_extract]
theorem ext_get (s : ByteArray) {k : Nat} (h : k < s.size) : ((s.extract k s.size).data[0]?).getD 0 = (s.data[k]?).getD 0 := by
 have : (s.extract k s.size).data = s.data.extract k s.size := by simp [ByteArray.data_extract]
 have h2 : s.size = s.data.size := rfl
 rw [this, Array.getElem?_extract]
 have h3 : 0 < s.size - k := by omega
 simp [<- h2, h, h3]
theorem p_Name1 (s : ByteArray) (h : 0 < s.size) : PCall Tryz.prog 289 [.str s] (.bool (wdB ((s.data[0]?).getD 0))) := by
 have h0 : (0 : Int) < (s.size : Int) := by omega
 refine pC h289_k rfl ?_
 simp only [Tryz.f289, go_sem, h0]
 repeat' (first
  | (refine pK (p_isWordByte _) ?_; simp only [go_sem, h0])
  | ((first | refine cS ?_ ?_ | refine gS ?_ ?_) <;> (intro hc; simp only [go_sem, hc, h0])))
theorem p_prefix (s : ByteArray) (hs : s.size <= 1073741824) : PCall Tryz.prog 288 [.str s, .fn (.func 289) [] []] (.str (s.extract 0 (runN s.data.toList))) := by
 refine pC h288_k rfl ?_
 simp only [Tryz.f288, go_sem]
 refine awp_alls s (fun l => s.size - l.length + runN l) (fun k => [(0, .str s), (1, .fn (.func 289) [] []), (5, .int .i64 k)]) (by omega) rfl ?_ ?_
 ·intro k x xs hd hx hF h0 h1 hw hl
  rw [blen] at hF
  simp only [List.length_cons, runN] at hF
  have hk : k < s.size := by omega
  have hk2 : (k : Int) <= (s.size : Int) := by omega
  have hp : 0 < (s.extract k s.size).size := by rw [ext_size s (by omega)]; omega
  simp only [go_sem, h0, h1, hk2]
  repeat' (first
   | (refine aP (p_Name1 _ hp) ?_; simp only [go_sem, hw, ext_get s hk, hx])
   | ((first | refine cS ?_ ?_ | refine gS ?_ ?_) <;> (intro hc; simp only [go_sem, hc, hw, ext_get s hk, hx])))
  ·rw [runN, if_pos hc]; omega
  ·rw [if_neg (by rw [hc]; decide)] at hF
   have : runN s.data.toList = k := by omega
   exact ⟨by omega, by omega, by rw [this]⟩
 ·intro hF hlt
  simp only [go_sem, hlt, decide_false]
  rw [blen] at hF
  have : runN s.data.toList = s.size := by simp only [runN, List.length_nil] at hF; omega
  exact ⟨by omega, by rw [this]⟩
theorem ext_all {s : ByteArray} {n : Nat} (h : n <= s.size) : (s.extract 0 n = s) ↔ n = s.size := by
 constructor
 ·intro he
  have := congrArg ByteArray.size he
  rw [ByteArray.size_extract] at this
  omega
 ·rintro rfl
  exact ByteArray.extract_zero_size
theorem runN_le : ∀ l : List UInt8, runN l <= l.length
 | [] => by simp [runN]
 | c :: l => by have := runN_le l; unfold runN; split <;> simp <;> omega
theorem p_tokName (s : ByteArray) (hs : s.size <= 1073741824) : PCall Tryz.prog 252 [.str s] (.bool (tnB s)) := by
  have hr : runN s.data.toList <= s.size := by have := runN_le s.data.toList; rw [blen] at this; exact this
  have hx : decide (s.extract 0 (runN s.data.toList) = s) = ((runN s.data.toList : Int) == (s.size : Int)) := by
    rw [Bool.eq_iff_iff, decide_eq_true_eq, ext_all hr, beq_iff_eq]; omega
  refine pC h252_k rfl ?_
  by_cases hz : s = ⟨#[]⟩
  · subst hz
    simp only [Tryz.f252, go_sem, toList_beq, decide_true]
    rfl
  · have h0 : (0 : Int) < (s.size : Int) := by
      have : s.size ≠ 0 := fun h => hz (ByteArray.size_eq_zero_iff.1 h)
      omega
    simp only [Tryz.f252, go_sem, toList_beq, hz, decide_false, h0]
    repeat' (first
      | ((first | refine pK (p_isLetter _) ?_ | refine pK (p_search _) ?_ | refine pK (p_prefix _ hs) ?_); simp only [go_sem, toList_beq, hz, decide_false, h0, hx])
      | ((first | refine cS ?_ ?_ | refine gS ?_ ?_) <;> (intro hc; simp only [go_sem, hc, toList_beq, hz, decide_false, h0, hx])))
    all_goals first
      | rfl
      | (obtain ⟨x, xs, hx2⟩ : ∃ x xs, s.data.toList = x :: xs := by
          cases h : s.data.toList with
          | nil => rw [<- blen, h] at h0; simp at h0
          | cons x xs => exact ⟨x, xs, rfl⟩
         have hx0 : (s.data[0]?).getD 0 = x := by rw [<- Array.getElem?_toList, hx2]; rfl
         simp only [hx0] at *
         simp only [tnB, hx2]
         simp only [hx2] at *
         grind)
      | skip
theorem p_Plain (s : ByteArray) (hs : s.size <= 1073741824) : PCall Tryz.prog 205 [.str s] (.bool (tnB s)) := by
 refine pC h205_k rfl ?_
 simp only [Tryz.f205, go_sem]
 repeat' (first
  | (refine pK (p_tokName _ hs) ?_; simp only [go_sem])
  | ((first | refine cS ?_ ?_ | refine gS ?_ ?_) <;> (intro hc; simp only [go_sem, hc])))
theorem p_named (s : ByteArray) (hs : s.size <= 1073741824) : PCall Tryz.prog 221 [.str s] (.bool (fnB s)) := by
 refine pC h221_k rfl ?_
 simp only [Tryz.f221, go_sem, toList_beq]
 repeat' (first
  | (refine pK (p_Plain _ hs) ?_; simp only [go_sem, toList_beq])
  | ((first | refine cS ?_ ?_ | refine gS ?_ ?_) <;> (intro hc; simp only [go_sem, hc, toList_beq])))
 all_goals first
  | rfl
  | (simp only [toList_beq, fnB, portS, hc, Bool.false_or, Bool.true_or, Bool.not_false]; rfl)
  | grind [toList_beq, fnB, portS, Bool.false_or, Bool.true_or, Bool.not_false]
  | (simp only [toList_beq, fnB, portS, hc, Bool.false_or, Bool.true_or, Bool.not_false]; grind)
  | (simp [toList_beq, fnB, portS, hc, Bool.false_or, Bool.true_or, Bool.not_false, *]; done)
  | (simp_all [toList_beq, fnB, portS, hc, Bool.false_or, Bool.true_or, Bool.not_false]; done)
  | skip
theorem p_value (n : Int) : PCall Tryz.prog 222 [.int .i64 n] (.bool (w16 n)) := by
 refine pC h222_k rfl ?_
 simp only [Tryz.f222, go_sem]
 repeat' (first
  | ((first | refine cS ?_ ?_ | refine gS ?_ ?_) <;> (intro hc; simp only [go_sem, hc])))
 all_goals first
  | rfl
  | (simp only [w16]; rfl)
  | grind [w16]
  | (simp only [w16]; grind)
  | (simp [w16, *]; done)
  | (simp_all [w16]; done)
  | skip
def tickB (n : Int) : Bool := decide (0 <= n) && decide (n <= 1073741824)
theorem p_tick (n : Int) : PCall Tryz.prog 248 [.int .i64 n] (.bool (tickB n)) := by
 refine pC h248_k rfl ?_
 simp only [Tryz.f248, go_sem]
 repeat' (first
  | ((first | refine cS ?_ ?_ | refine gS ?_ ?_) <;> (intro hc; simp only [go_sem, hc])))
 all_goals first
  | rfl
  | (simp only [tickB]; rfl)
  | grind [tickB]
  | (simp only [tickB]; grind)
  | (simp [tickB, *]; done)
  | (simp_all [tickB]; done)
  | skip
end Go.AI
namespace Go.AI
open Go.Proofs
set_option maxRecDepth 50000
theorem pfit1 {cs : List AV} {l : List AV} (h : fitL (.agg cs :: l)) : fitL cs := h.1
theorem pfits {o : Option Nat} {es : List AV} {l : List AV} (h : fitL (.sl o es :: l)) : es.length <= 9223372036854775807 := h.1.1
def idxGo {α : Type} (p : α -> Bool) : Nat -> List α -> Int
 | _, [] => -1
 | i, x :: l => if p x then (i : Int) else idxGo p (i + 1) l
def idxI {α : Type} (p : α -> Bool) (l : List α) : Int := idxGo p 0 l
theorem idxGo_any {α : Type} (p : α -> Bool) : ∀ (l : List α) (i : Nat), decide (0 <= idxGo p i l) = l.any p
 | [], i => rfl
 | x :: l, i => by
  rw [idxGo, List.any_cons]
  cases h : p x with
  | true => simp
  | false => simp [idxGo_any p l (i + 1)]
theorem any_not {α : Type} (p : α -> Bool) (l : List α) : (!(l.any fun x => !p x)) = l.all p := by
 induction l with
 | nil => rfl
 | cons x l ih => simp only [List.any_cons, List.all_cons, Bool.not_or, Bool.not_not, ih]
@[go_sem] theorem getlast {α : Type} (l : List α) (x : α) : (l ++ [x])[l.length]? = some x := by simp
theorem p_IndexPred {H : Heap} (l : List Pred) (hl : l.length <= 9223372036854775807) (g : FuncId) (fi ca : List AV) (p : Pred -> Bool)
  (h : ∀ x ∈ l, SCall Tryz.prog g (fi.map AV.borrow ++ (.agg x.c :: ca.map AV.borrow)) H (.bool (p x))) :
  SCall Tryz.prog 314 [.sl none (lPred l), .fn (.func g) fi ca] H (.int .i64 (idxI p l)) := by
 unfold SCall
 refine aC h314_k rfl ?_
 simp only [Tryz.f314, go_sem]
 refine awp_all l (fun r => idxGo p (l.length - r.length) r) (fun k => [(0, .sl none (lPred l)), (1, .fn (.func g) fi ca), (7, .int .i64 l.length), (8, .int .i64 k)]) hl rfl ?_ ?_
 ·intro k x xs hd hx hF h0 h1 hw
  have hk2 := drop_len hd
  have e1 : l.length - (xs.length + 1) = k := by omega
  have e2 : l.length - xs.length = k + 1 := by omega
  simp only [List.length_cons, e1, Nat.sub_self] at hF
  simp only [go_sem, h0, h1, lPred_get hx, e1, e2]
  repeat' (first
   | (refine aS (h x (List.mem_of_getElem? hx)) ?_; simp only [go_sem, h0, h1, hw, lPred_get hx, e1, e2])
   | ((first | refine cS ?_ ?_ | refine gS ?_ ?_) <;> (intro hc; simp only [go_sem, hc, h0, h1, hw, lPred_get hx, e1, e2])))
  ·rw [idxI, hF, idxGo, if_pos hc]
  ·rw [idxGo, if_neg (by rw [hc]; decide)]
 ·intro hF hlt
  simp only [go_sem, hlt, decide_false]
  rw [Nat.sub_self] at hF
  rw [idxI, hF]; rfl
theorem p_ContainsPred {H : Heap} (l : List Pred) (hl : l.length <= 9223372036854775807) (g : FuncId) (fi ca : List AV) (p : Pred -> Bool)
  (h : ∀ x ∈ l, SCall Tryz.prog g (fi.map AV.borrow ++ (.agg x.c :: ca.map AV.borrow)) H (.bool (p x))) :
  SCall Tryz.prog 284 [.sl none (lPred l), .fn (.func g) fi ca] H (.bool (l.any p)) := by
 unfold SCall
 refine aC h284_k rfl ?_
 simp only [Tryz.f284, go_sem]
 repeat' (first
  | (refine aS (p_IndexPred l hl g fi ca p h) ?_; simp only [go_sem])
  | ((first | refine cS ?_ ?_ | refine gS ?_ ?_) <;> (intro hc; simp only [go_sem, hc])))
 rw [idxI, idxGo_any]
theorem p_everyPred (l : List Pred) (hl : l.length <= 9223372036854775807) (n : Int) (g : FuncId) (p : Pred -> Bool) (h : ∀ x ∈ l, PCall Tryz.prog g [.agg x.c] (.bool (p x))) :
  PCall Tryz.prog 249 [.sl none (lPred l), .int .i64 n, .fn (.func g) [] []] (.bool (((l.length : Int) == n) && l.all p)) := by
 refine pC h249_k rfl ?_
 simp only [Tryz.f249, go_sem]
 have h1 : ∀ x ∈ l, SCall Tryz.prog 285 [.agg x.c, .ptr 0 0] [some [.fn (.func g) [] []]] (.bool (!p x)) := by
  intro x hx
  refine ACall.drop rfl ?_
  refine aC h285_k rfl ?_
  simp only [Tryz.f285, go_sem]
  repeat' (first
   | (refine aP (h x hx) ?_; simp only [go_sem])
   | ((first | refine cS ?_ ?_ | refine gS ?_ ?_) <;> (intro hc; simp only [go_sem, hc])))
  exact ⟨_, rfl⟩
 repeat' (first
  | (refine aS (p_ContainsPred l hl 285 [] [.ptr 0 0] (fun x => !p x) h1) ?_; simp only [go_sem, any_not])
  | ((first | refine cS ?_ ?_ | refine gS ?_ ?_) <;> (intro hc; simp only [go_sem, hc, any_not])))
theorem p_IndexPolicy {H : Heap} (l : List Policy) (hl : l.length <= 9223372036854775807) (g : FuncId) (fi ca : List AV) (p : Policy -> Bool)
  (h : ∀ x ∈ l, SCall Tryz.prog g (fi.map AV.borrow ++ (.agg x.c :: ca.map AV.borrow)) H (.bool (p x))) :
  SCall Tryz.prog 295 [.sl none (lPolicy l), .fn (.func g) fi ca] H (.int .i64 (idxI p l)) := by
 unfold SCall
 refine aC h295_k rfl ?_
 simp only [Tryz.f295, go_sem]
 refine awp_all l (fun r => idxGo p (l.length - r.length) r) (fun k => [(0, .sl none (lPolicy l)), (1, .fn (.func g) fi ca), (7, .int .i64 l.length), (8, .int .i64 k)]) hl rfl ?_ ?_
 ·intro k x xs hd hx hF h0 h1 hw
  have hk2 := drop_len hd
  have e1 : l.length - (xs.length + 1) = k := by omega
  have e2 : l.length - xs.length = k + 1 := by omega
  simp only [List.length_cons, e1, Nat.sub_self] at hF
  simp only [go_sem, h0, h1, lPolicy_get hx, e1, e2]
  repeat' (first
   | (refine aS (h x (List.mem_of_getElem? hx)) ?_; simp only [go_sem, h0, h1, hw, lPolicy_get hx, e1, e2])
   | ((first | refine cS ?_ ?_ | refine gS ?_ ?_) <;> (intro hc; simp only [go_sem, hc, h0, h1, hw, lPolicy_get hx, e1, e2])))
  ·rw [idxI, hF, idxGo, if_pos hc]
  ·rw [idxGo, if_neg (by rw [hc]; decide)]
 ·intro hF hlt
  simp only [go_sem, hlt, decide_false]
  rw [Nat.sub_self] at hF
  rw [idxI, hF]; rfl
theorem p_ContainsPolicy {H : Heap} (l : List Policy) (hl : l.length <= 9223372036854775807) (g : FuncId) (fi ca : List AV) (p : Policy -> Bool)
  (h : ∀ x ∈ l, SCall Tryz.prog g (fi.map AV.borrow ++ (.agg x.c :: ca.map AV.borrow)) H (.bool (p x))) :
  SCall Tryz.prog 261 [.sl none (lPolicy l), .fn (.func g) fi ca] H (.bool (l.any p)) := by
 unfold SCall
 refine aC h261_k rfl ?_
 simp only [Tryz.f261, go_sem]
 repeat' (first
  | (refine aS (p_IndexPolicy l hl g fi ca p h) ?_; simp only [go_sem])
  | ((first | refine cS ?_ ?_ | refine gS ?_ ?_) <;> (intro hc; simp only [go_sem, hc])))
 rw [idxI, idxGo_any]
theorem p_everyPolicy (l : List Policy) (hl : l.length <= 9223372036854775807) (n : Int) (g : FuncId) (p : Policy -> Bool) (h : ∀ x ∈ l, PCall Tryz.prog g [.agg x.c] (.bool (p x))) :
  PCall Tryz.prog 223 [.sl none (lPolicy l), .int .i64 n, .fn (.func g) [] []] (.bool (((l.length : Int) == n) && l.all p)) := by
 refine pC h223_k rfl ?_
 simp only [Tryz.f223, go_sem]
 have h1 : ∀ x ∈ l, SCall Tryz.prog 262 [.agg x.c, .ptr 0 0] [some [.fn (.func g) [] []]] (.bool (!p x)) := by
  intro x hx
  refine ACall.drop rfl ?_
  refine aC h262_k rfl ?_
  simp only [Tryz.f262, go_sem]
  repeat' (first
   | (refine aP (h x hx) ?_; simp only [go_sem])
   | ((first | refine cS ?_ ?_ | refine gS ?_ ?_) <;> (intro hc; simp only [go_sem, hc])))
  exact ⟨_, rfl⟩
 repeat' (first
  | (refine aS (p_ContainsPolicy l hl 262 [] [.ptr 0 0] (fun x => !p x) h1) ?_; simp only [go_sem, any_not])
  | ((first | refine cS ?_ ?_ | refine gS ?_ ?_) <;> (intro hc; simp only [go_sem, hc, any_not])))
theorem p_with (a b : Sizes) : PCall Tryz.prog 219 [.agg a.c, .agg b.c] (.agg (a.more b).c) := by
 refine pB h219_k rfl ?_
 simp only [Tryz.f219, go_sem]
 rfl
theorem p_allPred (l : List Pred) (hl : l.length <= 9223372036854775807) (h : ∀ x ∈ l, PCall Tryz.prog 199 [.agg x.c] (.agg (szP x).c)) :
  PCall Tryz.prog 247 [.sl none (lPred l), .fn (.func 199) [] []] (.agg (szPs l ⟨1, 1⟩).c) := by
 refine pB h247_k rfl ?_
 simp only [Tryz.f247, go_sem]
 refine awp_lst l (fun o l => szPs l o) (fun _ _ => True) (fun k o => [(1, .fn (.func 199) [] []), (4, .ptr 0 0), (5, .ptr 1 0), (9, .sl none (lPred l)), (10, .int .i64 l.length), (11, .int .i64 k)]) (fun k o => [some Sizes.z.c, some o.c]) ⟨1, 1⟩ hl trivial rfl rfl ?_ ?_
 ·intro k o y ys hd hx _ hF h0 h1 hw
  simp only [go_sem, h0, h1, lPred_get hx]
  repeat' (first
   | ((first | refine pK (h _ (List.mem_of_getElem? hx)) ?_ | refine pK (p_with _ _) ?_); simp only [go_sem, h0, h1, hw, lPred_get hx])
   | ((first | refine cS ?_ ?_ | refine gS ?_ ?_) <;> (intro hc; simp only [go_sem, hc, h0, h1, hw, lPred_get hx])))
  exact ⟨_, szPs_cons _ _ _, rfl, rfl⟩
 ·intro o _ hF
  simp only [go_sem, Int.lt_irrefl, decide_false]
  rw [hF, szPs_nil]
theorem p_EqualPred (a b : List Pred) (ha : a.length <= 9223372036854775807) (h : ∀ x ∈ a, ∀ y, PCall Tryz.prog 220 [.agg x.c, .agg y.c] (.bool (eqP x y))) :
  PCall Tryz.prog 260 [.sl none (lPred a), .sl none (lPred b), .fn (.func 220) [] []] (.bool (((a.length : Int) == (b.length : Int)) && eqPs a b)) := by
 refine pC h260_k rfl ?_
 simp only [Tryz.f260, go_sem]
 repeat' (first
  | ((first | refine cS ?_ ?_ | refine gS ?_ ?_) <;> (intro hc; simp only [go_sem, hc])))
 ·simp at hc; simp [hc]
 ·have hlen : a.length = b.length := by simp at hc; omega
  refine awp_lst a (fun (_ : Unit) r => eqPs r (b.drop (a.length - r.length))) (fun _ _ => True) (fun k _ => [(1, .sl none (lPred b)), (2, .fn (.func 220) [] []), (15, .sl none (lPred a)), (16, .int .i64 a.length), (17, .int .i64 k)]) (fun k _ => []) () ha trivial rfl rfl ?_ ?_
  ·intro k _ x xs hd hx _ hF h0 h1 hw
   have hk2 := drop_len hd
   obtain ⟨y, hy⟩ : ∃ y, b[k]? = some y := ⟨_, List.getElem?_eq_getElem (by omega)⟩
   have e1 : a.length - (xs.length + 1) = k := by omega
   have e2 : a.length - xs.length = k + 1 := by omega
   have hbd : b.drop k = y :: b.drop (k + 1) := by
    obtain ⟨hlt, rfl⟩ := List.getElem?_eq_some_iff.1 hy
    exact List.drop_eq_getElem_cons hlt
   simp only [List.length_cons, e1, Nat.sub_self, List.drop_zero, hbd, eqPs_cons] at hF
   simp only [go_sem, h0, h1, lPred_get hx, lPred_get hy]
   repeat' (first
    | (refine aP (h _ (List.mem_of_getElem? hx) y) ?_; simp only [go_sem, h0, h1, hw, lPred_get hx, lPred_get hy])
    | ((first | refine cS ?_ ?_ | refine gS ?_ ?_) <;> (intro hc; simp only [go_sem, hc, h0, h1, hw, lPred_get hx, lPred_get hy])))
   ·simp only [Bool.not_eq_true'] at hc
    rw [hF, hc, Bool.false_and, Bool.and_false]
   ·simp only [Bool.not_eq_false'] at hc
    exact ⟨(), by rw [e1, e2, hbd, eqPs_cons, hc, Bool.true_and]⟩
  ·intro _ _ hF
   simp only [go_sem, Int.lt_irrefl, decide_false]
   rw [Nat.sub_self, List.drop_zero, eqPs_nil] at hF
   rw [hF, hlen]; simp
theorem p_allPolicy (l : List Policy) (hl : l.length <= 9223372036854775807) (h : ∀ x ∈ l, PCall Tryz.prog 153 [.agg x.c] (.agg (szO x).c)) :
  PCall Tryz.prog 218 [.sl none (lPolicy l), .fn (.func 153) [] []] (.agg (szOs l ⟨1, 1⟩).c) := by
 refine pB h218_k rfl ?_
 simp only [Tryz.f218, go_sem]
 refine awp_lst l (fun o l => szOs l o) (fun _ _ => True) (fun k o => [(1, .fn (.func 153) [] []), (4, .ptr 0 0), (5, .ptr 1 0), (9, .sl none (lPolicy l)), (10, .int .i64 l.length), (11, .int .i64 k)]) (fun k o => [some Sizes.z.c, some o.c]) ⟨1, 1⟩ hl trivial rfl rfl ?_ ?_
 ·intro k o y ys hd hx _ hF h0 h1 hw
  simp only [go_sem, h0, h1, lPolicy_get hx]
  repeat' (first
   | ((first | refine pK (h _ (List.mem_of_getElem? hx)) ?_ | refine pK (p_with _ _) ?_); simp only [go_sem, h0, h1, hw, lPolicy_get hx])
   | ((first | refine cS ?_ ?_ | refine gS ?_ ?_) <;> (intro hc; simp only [go_sem, hc, h0, h1, hw, lPolicy_get hx])))
  exact ⟨_, szOs_cons _ _ _, rfl, rfl⟩
 ·intro o _ hF
  simp only [go_sem, Int.lt_irrefl, decide_false]
  rw [hF, szOs_nil]
end Go.AI
namespace Go.AI
open Go.Proofs
set_option maxRecDepth 50000
theorem p_sizePred : ∀ x : Pred, PCall Tryz.prog 199 [.agg x.c] (.agg (szP x).c) := by
 refine Pred.ind _ fun x ih => ?_
 refine PCall.fit h199_k.c fun hf => ?_
 have hl := Pred.fit_args (pfit1 hf)
 refine pB h199_k rfl ?_
 simp only [Tryz.f199, go_sem]
 repeat' (first
  | (refine pK (p_allPred _ hl (fun y hy => ih y hy)) ?_; simp only [go_sem])
  | ((first | refine cS ?_ ?_ | refine gS ?_ ?_) <;> (intro hc; simp only [go_sem, hc])))
 rw [szP_eq]
theorem i64_add (a b : Int) : i64 (i64 a + b) = i64 (a + b) := by
 simp only [i64, IntKind.wrap, IntKind.signed, IntKind.bits]
 simp
 split <;> split <;> split <;> omega
theorem more_comm (a b c : Sizes) : (a.more b).more c = (a.more c).more b := by
 unfold Sizes.more imax
 simp only [Sizes.mk.injEq]
 refine ⟨?_, ?_⟩
 ·rw [i64_add, i64_add]; congr 1; omega
 ·grind
theorem szOs_more (z : Sizes) : ∀ (l : List Policy) (o : Sizes), szOs l (o.more z) = (szOs l o).more z
 | [], o => by rw [szOs_nil, szOs_nil]
 | x :: l, o => by rw [szOs_cons, szOs_cons, more_comm, szOs_more z l]
theorem p_sizePolicy : ∀ x : Policy, PCall Tryz.prog 153 [.agg x.c] (.agg (szO x).c) := by
 refine Policy.ind _ fun x ih => ?_
 refine PCall.fit h153_k.c fun hf => ?_
 have hl := Policy.fit_args (pfit1 hf)
 refine pB h153_k rfl ?_
 simp only [Tryz.f153, go_sem]
 repeat' (first
  | ((first | refine pK (p_allPolicy _ hl (fun y hy => ih y hy)) ?_ | refine pK (p_sizePred _) ?_ | refine pK (p_with _ _) ?_); simp only [go_sem])
  | ((first | refine cS ?_ ?_ | refine gS ?_ ?_) <;> (intro hc; simp only [go_sem, hc])))
 ·rw [szO_eq, if_pos (by simpa using hc), szOs_more]
 ·rw [szO_eq, if_neg (by simpa using hc)]
theorem p_large (z : Sizes) : PCall Tryz.prog 204 [.agg z.c] (.int .i64 (limE z)) := by
 refine pC h204_k rfl ?_
 simp only [Tryz.f204, go_sem]
 repeat' (first
  | ((first | refine cS ?_ ?_ | refine gS ?_ ?_) <;> (intro hc; simp only [go_sem, hc])))
 all_goals first
  | rfl
  | (simp only [limE]; rfl)
  | grind [limE]
  | (simp only [limE]; grind)
  | (simp [limE, *]; done)
  | (simp_all [limE]; done)
  | skip
theorem p_check {H : Heap} (z : Sizes) (g : FuncId) (ca : List AV) (b : Bool) (h : SCall Tryz.prog g (ca.map AV.borrow) (H ++ [some z.c]) (.bool b)) :
  SCall Tryz.prog 138 [.agg z.c, .fn (.func g) [] ca] H (.int .i64 (fmE z b)) := by
 refine ACall.drop rfl ?_
 refine aC h138_k rfl ?_
 simp only [Tryz.f138, go_sem]
 repeat' (first
  | ((first | refine pK (p_large _) ?_ | refine aS (h) ?_); simp only [go_sem])
  | ((first | refine cS ?_ ?_ | refine gS ?_ ?_) <;> (intro hc; simp only [go_sem, hc])))
 all_goals simp_all [fmE]
theorem ibeq (a b : Nat) : ((a : Int) == (b : Int)) = (a == b) := by
 rw [Bool.eq_iff_iff]; simp; omega
theorem p_SamePred : ∀ x y : Pred, PCall Tryz.prog 220 [.agg x.c, .agg y.c] (.bool (eqP x y)) := by
 refine Pred.ind _ fun x ih => fun y => ?_
 refine PCall.fit h220_k.c fun hf => ?_
 have hl := Pred.fit_args (pfit1 hf)
 refine pC h220_k rfl ?_
 simp only [Tryz.f220, go_sem, toList_beq]
 repeat' (first
  | (refine pK (p_EqualPred _ _ hl (fun y hy z => ih y hy z)) ?_; simp only [go_sem, toList_beq])
  | ((first | refine cS ?_ ?_ | refine gS ?_ ?_) <;> (intro hc; simp only [go_sem, hc, toList_beq])))
 all_goals (rw [eqP_eq]; simp_all [ibeq])
theorem fmPs_all : ∀ l : List Pred, fmPs l = l.all fmP
 | [] => by rw [fmPs_nil]; rfl
 | x :: l => by rw [fmPs_cons, List.all_cons, fmPs_all l]
theorem fmOs_all : ∀ l : List Policy, fmOs l = l.all fmO
 | [] => by rw [fmOs_nil]; rfl
 | x :: l => by rw [fmOs_cons, List.all_cons, fmOs_all l]
theorem len0 {α : Type} (l : List α) : ((l.length : Int) == 0) = l.isEmpty := by
 cases l <;> simp; omega
theorem ieq_no {a b : Int} (h : a ≠ b) : (a == b) = false := by simp [h]
end Go.AI
namespace Go.AI
open Go.Proofs
set_option maxRecDepth 50000
theorem p_fP1
(field : ByteArray) (n m : Int) (args : List Pred) (hl : args.length <= 9223372036854775807) (hfs : field.size <= 1073741824) (hev : ∀ y ∈ args, PCall Tryz.prog 201 [.agg y.c] (.bool (fmP y))) : PCall Tryz.prog 201 [.agg (Pred.c ⟨1, field, n, m, args⟩)] (.bool (fmP ⟨1, field, n, m, args⟩)) := by
 refine pC h201_k rfl ?_
 simp only [Tryz.f201, go_sem, toList_beq, Int.reduceBEq, len0]
 repeat' (first
  | ((first | refine pK (p_named _ hfs) ?_ | refine pK (p_value _) ?_ | refine pK (p_tick _) ?_ | refine pK (p_everyPred _ hl _ _ fmP hev) ?_); simp only [go_sem, toList_beq, Int.reduceBEq, len0])
  | ((first | refine cS ?_ ?_ | refine gS ?_ ?_) <;> (intro hc; simp only [go_sem, hc, toList_beq, Int.reduceBEq, len0])))
 all_goals (rw [fmP_eq]; cases args <;> (simp_all [okP, noneP, w16, tickB, fmPs_all, fmPs_nil] <;> first | omega | grind | skip))
theorem p_fP2
(field : ByteArray) (n m : Int) (args : List Pred) (hl : args.length <= 9223372036854775807) (hfs : field.size <= 1073741824) (hev : ∀ y ∈ args, PCall Tryz.prog 201 [.agg y.c] (.bool (fmP y))) : PCall Tryz.prog 201 [.agg (Pred.c ⟨2, field, n, m, args⟩)] (.bool (fmP ⟨2, field, n, m, args⟩)) := by
 refine pC h201_k rfl ?_
 simp only [Tryz.f201, go_sem, toList_beq, Int.reduceBEq, len0]
 repeat' (first
  | ((first | refine pK (p_named _ hfs) ?_ | refine pK (p_value _) ?_ | refine pK (p_tick _) ?_ | refine pK (p_everyPred _ hl _ _ fmP hev) ?_); simp only [go_sem, toList_beq, Int.reduceBEq, len0])
  | ((first | refine cS ?_ ?_ | refine gS ?_ ?_) <;> (intro hc; simp only [go_sem, hc, toList_beq, Int.reduceBEq, len0])))
 all_goals (rw [fmP_eq]; cases args <;> (simp_all [okP, noneP, w16, tickB, fmPs_all, fmPs_nil] <;> first | omega | grind | skip))
theorem p_fP3
(field : ByteArray) (n m : Int) (args : List Pred) (hl : args.length <= 9223372036854775807) (hfs : field.size <= 1073741824) (hev : ∀ y ∈ args, PCall Tryz.prog 201 [.agg y.c] (.bool (fmP y))) : PCall Tryz.prog 201 [.agg (Pred.c ⟨3, field, n, m, args⟩)] (.bool (fmP ⟨3, field, n, m, args⟩)) := by
 refine pC h201_k rfl ?_
 simp only [Tryz.f201, go_sem, toList_beq, Int.reduceBEq, len0]
 repeat' (first
  | ((first | refine pK (p_named _ hfs) ?_ | refine pK (p_value _) ?_ | refine pK (p_tick _) ?_ | refine pK (p_everyPred _ hl _ _ fmP hev) ?_); simp only [go_sem, toList_beq, Int.reduceBEq, len0])
  | ((first | refine cS ?_ ?_ | refine gS ?_ ?_) <;> (intro hc; simp only [go_sem, hc, toList_beq, Int.reduceBEq, len0])))
 all_goals (rw [fmP_eq]; cases args <;> (simp_all [okP, noneP, w16, tickB, fmPs_all, fmPs_nil] <;> first | omega | grind | skip))
theorem p_fP4
(field : ByteArray) (n m : Int) (args : List Pred) (hl : args.length <= 9223372036854775807) (hfs : field.size <= 1073741824) (hev : ∀ y ∈ args, PCall Tryz.prog 201 [.agg y.c] (.bool (fmP y))) : PCall Tryz.prog 201 [.agg (Pred.c ⟨4, field, n, m, args⟩)] (.bool (fmP ⟨4, field, n, m, args⟩)) := by
 refine pC h201_k rfl ?_
 simp only [Tryz.f201, go_sem, toList_beq, Int.reduceBEq, len0]
 repeat' (first
  | ((first | refine pK (p_named _ hfs) ?_ | refine pK (p_value _) ?_ | refine pK (p_tick _) ?_ | refine pK (p_everyPred _ hl _ _ fmP hev) ?_); simp only [go_sem, toList_beq, Int.reduceBEq, len0])
  | ((first | refine cS ?_ ?_ | refine gS ?_ ?_) <;> (intro hc; simp only [go_sem, hc, toList_beq, Int.reduceBEq, len0])))
 all_goals (rw [fmP_eq]; cases args <;> (simp_all [okP, noneP, w16, tickB, fmPs_all, fmPs_nil] <;> first | omega | grind | skip))
theorem p_fP5
(field : ByteArray) (n m : Int) (args : List Pred) (hl : args.length <= 9223372036854775807) (hfs : field.size <= 1073741824) (hev : ∀ y ∈ args, PCall Tryz.prog 201 [.agg y.c] (.bool (fmP y))) : PCall Tryz.prog 201 [.agg (Pred.c ⟨5, field, n, m, args⟩)] (.bool (fmP ⟨5, field, n, m, args⟩)) := by
 refine pC h201_k rfl ?_
 simp only [Tryz.f201, go_sem, toList_beq, Int.reduceBEq, len0]
 repeat' (first
  | ((first | refine pK (p_named _ hfs) ?_ | refine pK (p_value _) ?_ | refine pK (p_tick _) ?_ | refine pK (p_everyPred _ hl _ _ fmP hev) ?_); simp only [go_sem, toList_beq, Int.reduceBEq, len0])
  | ((first | refine cS ?_ ?_ | refine gS ?_ ?_) <;> (intro hc; simp only [go_sem, hc, toList_beq, Int.reduceBEq, len0])))
 all_goals (rw [fmP_eq]; cases args <;> (simp_all [okP, noneP, w16, tickB, fmPs_all, fmPs_nil] <;> first | omega | grind | skip))
theorem p_fP6
(field : ByteArray) (n m : Int) (args : List Pred) (hl : args.length <= 9223372036854775807) (hfs : field.size <= 1073741824) (hev : ∀ y ∈ args, PCall Tryz.prog 201 [.agg y.c] (.bool (fmP y))) : PCall Tryz.prog 201 [.agg (Pred.c ⟨6, field, n, m, args⟩)] (.bool (fmP ⟨6, field, n, m, args⟩)) := by
 refine pC h201_k rfl ?_
 simp only [Tryz.f201, go_sem, toList_beq, Int.reduceBEq, len0]
 repeat' (first
  | ((first | refine pK (p_named _ hfs) ?_ | refine pK (p_value _) ?_ | refine pK (p_tick _) ?_ | refine pK (p_everyPred _ hl _ _ fmP hev) ?_); simp only [go_sem, toList_beq, Int.reduceBEq, len0])
  | ((first | refine cS ?_ ?_ | refine gS ?_ ?_) <;> (intro hc; simp only [go_sem, hc, toList_beq, Int.reduceBEq, len0])))
 all_goals (rw [fmP_eq]; cases args <;> (simp_all [okP, noneP, w16, tickB, fmPs_all, fmPs_nil] <;> first | omega | grind | skip))
theorem p_fP7
(field : ByteArray) (n m : Int) (args : List Pred) (hl : args.length <= 9223372036854775807) (hfs : field.size <= 1073741824) (hev : ∀ y ∈ args, PCall Tryz.prog 201 [.agg y.c] (.bool (fmP y))) : PCall Tryz.prog 201 [.agg (Pred.c ⟨7, field, n, m, args⟩)] (.bool (fmP ⟨7, field, n, m, args⟩)) := by
 refine pC h201_k rfl ?_
 simp only [Tryz.f201, go_sem, toList_beq, Int.reduceBEq, len0]
 repeat' (first
  | ((first | refine pK (p_named _ hfs) ?_ | refine pK (p_value _) ?_ | refine pK (p_tick _) ?_ | refine pK (p_everyPred _ hl _ _ fmP hev) ?_); simp only [go_sem, toList_beq, Int.reduceBEq, len0])
  | ((first | refine cS ?_ ?_ | refine gS ?_ ?_) <;> (intro hc; simp only [go_sem, hc, toList_beq, Int.reduceBEq, len0])))
 all_goals (rw [fmP_eq]; cases args <;> (simp_all [okP, noneP, w16, tickB, fmPs_all, fmPs_nil] <;> first | omega | grind | skip))
theorem p_fP8
(field : ByteArray) (n m : Int) (args : List Pred) (hl : args.length <= 9223372036854775807) (hfs : field.size <= 1073741824) (hev : ∀ y ∈ args, PCall Tryz.prog 201 [.agg y.c] (.bool (fmP y))) : PCall Tryz.prog 201 [.agg (Pred.c ⟨8, field, n, m, args⟩)] (.bool (fmP ⟨8, field, n, m, args⟩)) := by
 refine pC h201_k rfl ?_
 simp only [Tryz.f201, go_sem, toList_beq, Int.reduceBEq, len0]
 repeat' (first
  | ((first | refine pK (p_named _ hfs) ?_ | refine pK (p_value _) ?_ | refine pK (p_tick _) ?_ | refine pK (p_everyPred _ hl _ _ fmP hev) ?_); simp only [go_sem, toList_beq, Int.reduceBEq, len0])
  | ((first | refine cS ?_ ?_ | refine gS ?_ ?_) <;> (intro hc; simp only [go_sem, hc, toList_beq, Int.reduceBEq, len0])))
 all_goals (rw [fmP_eq]; cases args <;> (simp_all [okP, noneP, w16, tickB, fmPs_all, fmPs_nil] <;> first | omega | grind | skip))
theorem p_fP9
(field : ByteArray) (n m : Int) (args : List Pred) (hl : args.length <= 9223372036854775807) (hfs : field.size <= 1073741824) (hev : ∀ y ∈ args, PCall Tryz.prog 201 [.agg y.c] (.bool (fmP y))) : PCall Tryz.prog 201 [.agg (Pred.c ⟨9, field, n, m, args⟩)] (.bool (fmP ⟨9, field, n, m, args⟩)) := by
 refine pC h201_k rfl ?_
 simp only [Tryz.f201, go_sem, toList_beq, Int.reduceBEq, len0]
 repeat' (first
  | ((first | refine pK (p_named _ hfs) ?_ | refine pK (p_value _) ?_ | refine pK (p_tick _) ?_ | refine pK (p_everyPred _ hl _ _ fmP hev) ?_); simp only [go_sem, toList_beq, Int.reduceBEq, len0])
  | ((first | refine cS ?_ ?_ | refine gS ?_ ?_) <;> (intro hc; simp only [go_sem, hc, toList_beq, Int.reduceBEq, len0])))
 all_goals (rw [fmP_eq]; cases args <;> (simp_all [okP, noneP, w16, tickB, fmPs_all, fmPs_nil] <;> first | omega | grind | skip))
theorem p_fP0 (kind : Int) (h1 : kind ≠ 1) (h2 : kind ≠ 2) (h3 : kind ≠ 3) (h4 : kind ≠ 4) (h5 : kind ≠ 5) (h6 : kind ≠ 6) (h7 : kind ≠ 7) (h8 : kind ≠ 8) (h9 : kind ≠ 9)
  (field : ByteArray) (n m : Int) (args : List Pred) : PCall Tryz.prog 201 [.agg (Pred.c ⟨kind, field, n, m, args⟩)] (.bool (fmP ⟨kind, field, n, m, args⟩)) := by
 refine pC h201_k rfl ?_
 simp only [Tryz.f201, go_sem, toList_beq, len0, ieq_no h1, ieq_no h2, ieq_no h3, ieq_no h4, ieq_no h5, ieq_no h6, ieq_no h7, ieq_no h8, ieq_no h9]
 repeat' (first
  | ((first | refine cS ?_ ?_ | refine gS ?_ ?_) <;> (intro hc; simp only [go_sem, hc, toList_beq, len0, ieq_no h1, ieq_no h2, ieq_no h3, ieq_no h4, ieq_no h5, ieq_no h6, ieq_no h7, ieq_no h8, ieq_no h9])))
 all_goals (rw [fmP_eq]; simp [okP, *])
theorem p_formedPred : ∀ x : Pred, bulkL x.c <= 1073741824 -> PCall Tryz.prog 201 [.agg x.c] (.bool (fmP x)) := by
 refine Pred.ind _ fun x ih => fun hb => ?_
 have hl : x.args.length <= 9223372036854775807 := Nat.le_trans (lPred_bn (Pred.bl_args hb)) (by decide)
 have hfs := Pred.bk_field hb
 have hev : ∀ y ∈ x.args, PCall Tryz.prog 201 [.agg y.c] (.bool (fmP y)) := fun y hm =>
  ih y hm (by have := lPred_bk (Pred.bl_args hb) hm; simpa only [AV.bulk] using this)
 obtain ⟨kind, field, n, m, args⟩ := x
 by_cases h1 : kind = 1
 ·subst h1; exact p_fP1 field n m args hl hfs hev
 by_cases h2 : kind = 2
 ·subst h2; exact p_fP2 field n m args hl hfs hev
 by_cases h3 : kind = 3
 ·subst h3; exact p_fP3 field n m args hl hfs hev
 by_cases h4 : kind = 4
 ·subst h4; exact p_fP4 field n m args hl hfs hev
 by_cases h5 : kind = 5
 ·subst h5; exact p_fP5 field n m args hl hfs hev
 by_cases h6 : kind = 6
 ·subst h6; exact p_fP6 field n m args hl hfs hev
 by_cases h7 : kind = 7
 ·subst h7; exact p_fP7 field n m args hl hfs hev
 by_cases h8 : kind = 8
 ·subst h8; exact p_fP8 field n m args hl hfs hev
 by_cases h9 : kind = 9
 ·subst h9; exact p_fP9 field n m args hl hfs hev
 exact p_fP0 kind h1 h2 h3 h4 h5 h6 h7 h8 h9 field n m args
end Go.AI
namespace Go.AI
open Go.Proofs
set_option maxRecDepth 50000
theorem p_fO1
(pred : Pred) (field : ByteArray) (n : Int) (args : List Policy) (hl : args.length <= 9223372036854775807) (hfs : field.size <= 1073741824) (hp : bulkL pred.c <= 1073741824) (hev : ∀ y ∈ args, PCall Tryz.prog 155 [.agg y.c] (.bool (fmO y))) : PCall Tryz.prog 155 [.agg (Policy.c ⟨1, pred, field, n, args⟩)] (.bool (fmO ⟨1, pred, field, n, args⟩)) := by
 refine pC h155_k rfl ?_
 simp only [Tryz.f155, go_sem, toList_beq, Int.reduceBEq, len0]
 repeat' (first
  | ((first | refine pK (PCall.lend (p_SamePred pred Pred.z)) ?_ | refine pK (p_named _ hfs) ?_ | refine pK (p_value _) ?_ | refine pK (p_formedPred _ hp) ?_ | refine pK (p_everyPolicy _ hl _ _ fmO hev) ?_); simp only [go_sem, toList_beq, Int.reduceBEq, len0])
  | ((first | refine cS ?_ ?_ | refine gS ?_ ?_) <;> (intro hc; simp only [go_sem, hc, toList_beq, Int.reduceBEq, len0])))
 all_goals (rw [fmO_eq]; cases args <;> (simp_all [okO, w16, fmOs_all, fmOs_nil] <;> first | omega | grind | skip))
theorem p_fO2
(pred : Pred) (field : ByteArray) (n : Int) (args : List Policy) (hl : args.length <= 9223372036854775807) (hfs : field.size <= 1073741824) (hp : bulkL pred.c <= 1073741824) (hev : ∀ y ∈ args, PCall Tryz.prog 155 [.agg y.c] (.bool (fmO y))) : PCall Tryz.prog 155 [.agg (Policy.c ⟨2, pred, field, n, args⟩)] (.bool (fmO ⟨2, pred, field, n, args⟩)) := by
 refine pC h155_k rfl ?_
 simp only [Tryz.f155, go_sem, toList_beq, Int.reduceBEq, len0]
 repeat' (first
  | ((first | refine pK (PCall.lend (p_SamePred pred Pred.z)) ?_ | refine pK (p_named _ hfs) ?_ | refine pK (p_value _) ?_ | refine pK (p_formedPred _ hp) ?_ | refine pK (p_everyPolicy _ hl _ _ fmO hev) ?_); simp only [go_sem, toList_beq, Int.reduceBEq, len0])
  | ((first | refine cS ?_ ?_ | refine gS ?_ ?_) <;> (intro hc; simp only [go_sem, hc, toList_beq, Int.reduceBEq, len0])))
 all_goals (rw [fmO_eq]; cases args <;> (simp_all [okO, w16, fmOs_all, fmOs_nil] <;> first | omega | grind | skip))
theorem p_fO3
(pred : Pred) (field : ByteArray) (n : Int) (args : List Policy) (hl : args.length <= 9223372036854775807) (hfs : field.size <= 1073741824) (hp : bulkL pred.c <= 1073741824) (hev : ∀ y ∈ args, PCall Tryz.prog 155 [.agg y.c] (.bool (fmO y))) : PCall Tryz.prog 155 [.agg (Policy.c ⟨3, pred, field, n, args⟩)] (.bool (fmO ⟨3, pred, field, n, args⟩)) := by
 refine pC h155_k rfl ?_
 simp only [Tryz.f155, go_sem, toList_beq, Int.reduceBEq, len0]
 repeat' (first
  | ((first | refine pK (PCall.lend (p_SamePred pred Pred.z)) ?_ | refine pK (p_named _ hfs) ?_ | refine pK (p_value _) ?_ | refine pK (p_formedPred _ hp) ?_ | refine pK (p_everyPolicy _ hl _ _ fmO hev) ?_); simp only [go_sem, toList_beq, Int.reduceBEq, len0])
  | ((first | refine cS ?_ ?_ | refine gS ?_ ?_) <;> (intro hc; simp only [go_sem, hc, toList_beq, Int.reduceBEq, len0])))
 all_goals (rw [fmO_eq]; cases args <;> (simp_all [okO, w16, fmOs_all, fmOs_nil] <;> first | omega | grind | skip))
theorem p_fO4
(pred : Pred) (field : ByteArray) (n : Int) (args : List Policy) (hl : args.length <= 9223372036854775807) (hfs : field.size <= 1073741824) (hp : bulkL pred.c <= 1073741824) (hev : ∀ y ∈ args, PCall Tryz.prog 155 [.agg y.c] (.bool (fmO y))) : PCall Tryz.prog 155 [.agg (Policy.c ⟨4, pred, field, n, args⟩)] (.bool (fmO ⟨4, pred, field, n, args⟩)) := by
 refine pC h155_k rfl ?_
 simp only [Tryz.f155, go_sem, toList_beq, Int.reduceBEq, len0]
 repeat' (first
  | ((first | refine pK (PCall.lend (p_SamePred pred Pred.z)) ?_ | refine pK (p_named _ hfs) ?_ | refine pK (p_value _) ?_ | refine pK (p_formedPred _ hp) ?_ | refine pK (p_everyPolicy _ hl _ _ fmO hev) ?_); simp only [go_sem, toList_beq, Int.reduceBEq, len0])
  | ((first | refine cS ?_ ?_ | refine gS ?_ ?_) <;> (intro hc; simp only [go_sem, hc, toList_beq, Int.reduceBEq, len0])))
 all_goals (rw [fmO_eq]; cases args <;> (simp_all [okO, w16, fmOs_all, fmOs_nil] <;> first | omega | grind | skip))
theorem p_fO5
(pred : Pred) (field : ByteArray) (n : Int) (args : List Policy) (hl : args.length <= 9223372036854775807) (hfs : field.size <= 1073741824) (hp : bulkL pred.c <= 1073741824) (hev : ∀ y ∈ args, PCall Tryz.prog 155 [.agg y.c] (.bool (fmO y))) : PCall Tryz.prog 155 [.agg (Policy.c ⟨5, pred, field, n, args⟩)] (.bool (fmO ⟨5, pred, field, n, args⟩)) := by
 refine pC h155_k rfl ?_
 simp only [Tryz.f155, go_sem, toList_beq, Int.reduceBEq, len0]
 repeat' (first
  | ((first | refine pK (PCall.lend (p_SamePred pred Pred.z)) ?_ | refine pK (p_named _ hfs) ?_ | refine pK (p_value _) ?_ | refine pK (p_formedPred _ hp) ?_ | refine pK (p_everyPolicy _ hl _ _ fmO hev) ?_); simp only [go_sem, toList_beq, Int.reduceBEq, len0])
  | ((first | refine cS ?_ ?_ | refine gS ?_ ?_) <;> (intro hc; simp only [go_sem, hc, toList_beq, Int.reduceBEq, len0])))
 all_goals (rw [fmO_eq]; cases args <;> (simp_all [okO, w16, fmOs_all, fmOs_nil] <;> first | omega | grind | skip))
theorem p_fO0 (kind : Int) (h1 : kind ≠ 1) (h2 : kind ≠ 2) (h3 : kind ≠ 3) (h4 : kind ≠ 4) (h5 : kind ≠ 5)
  (pred : Pred) (field : ByteArray) (n : Int) (args : List Policy) : PCall Tryz.prog 155 [.agg (Policy.c ⟨kind, pred, field, n, args⟩)] (.bool (fmO ⟨kind, pred, field, n, args⟩)) := by
 refine pC h155_k rfl ?_
 simp only [Tryz.f155, go_sem, toList_beq, len0, ieq_no h1, ieq_no h2, ieq_no h3, ieq_no h4, ieq_no h5]
 repeat' (first
  | (refine pK (PCall.lend (p_SamePred pred Pred.z)) ?_; simp only [go_sem, toList_beq, len0, ieq_no h1, ieq_no h2, ieq_no h3, ieq_no h4, ieq_no h5])
  | ((first | refine cS ?_ ?_ | refine gS ?_ ?_) <;> (intro hc; simp only [go_sem, hc, toList_beq, len0, ieq_no h1, ieq_no h2, ieq_no h3, ieq_no h4, ieq_no h5])))
 all_goals (rw [fmO_eq]; simp [okO, *])
theorem p_formedPolicy : ∀ x : Policy, bulkL x.c <= 1073741824 -> PCall Tryz.prog 155 [.agg x.c] (.bool (fmO x)) := by
 refine Policy.ind _ fun x ih => fun hb => ?_
 have hl : x.args.length <= 9223372036854775807 := Nat.le_trans (lPolicy_bn (Policy.bl_args hb)) (by decide)
 have hfs := Policy.bk_field hb
 have hp := Policy.bs_pred hb
 have hev : ∀ y ∈ x.args, PCall Tryz.prog 155 [.agg y.c] (.bool (fmO y)) := fun y hm =>
  ih y hm (by have := lPolicy_bk (Policy.bl_args hb) hm; simpa only [AV.bulk] using this)
 obtain ⟨kind, pred, field, n, args⟩ := x
 by_cases h1 : kind = 1
 ·subst h1; exact p_fO1 pred field n args hl hfs hp hev
 by_cases h2 : kind = 2
 ·subst h2; exact p_fO2 pred field n args hl hfs hp hev
 by_cases h3 : kind = 3
 ·subst h3; exact p_fO3 pred field n args hl hfs hp hev
 by_cases h4 : kind = 4
 ·subst h4; exact p_fO4 pred field n args hl hfs hp hev
 by_cases h5 : kind = 5
 ·subst h5; exact p_fO5 pred field n args hl hfs hp hev
 exact p_fO0 kind h1 h2 h3 h4 h5 pred field n args
theorem p_CkO1 {H : Heap} (x : Policy) (hb : bulkL x.c <= 1073741824) (o : Nat) (ho : H[o]? = some (some x.c)) : SCall Tryz.prog 154 [.ptr o 0] H (.bool (fmO x)) := by
 refine ACall.drop rfl ?_
 refine aC h154_k rfl ?_
 simp only [Tryz.f154, go_sem, ho]
 repeat' (first
  | (refine pK (p_formedPolicy _ hb) ?_; simp only [go_sem, ho])
  | ((first | refine cS ?_ ?_ | refine gS ?_ ?_) <;> (intro hc; simp only [go_sem, hc, ho])))
theorem p_CheckPolicy (x : Policy) (hb : bulkL x.c <= 1073741824) : PCall Tryz.prog 79 [.agg x.c] (.int .i64 (ckO x)) := by
 refine pC h79_k rfl ?_
 simp only [Tryz.f79, go_sem]
 repeat' (first
  | ((first | refine pK (p_sizePolicy _) ?_ | refine aS (p_check (szO x) 154 [.ptr 0 0] (fmO x) (p_CkO1 x hb 0 rfl)) ?_); simp only [go_sem])
  | ((first | refine cS ?_ ?_ | refine gS ?_ ?_) <;> (intro hc; simp only [go_sem, hc])))
 all_goals rfl
end Go.AI
namespace Go.AI
open Go.Proofs
set_option maxRecDepth 50000
@[go_sem] theorem lPred_one (o : Option Nat) (x : Pred) : AV.sl o [AV.agg (x.cf none)] = AV.sl o (lPred [x]) := by rw [lPred_eq]; rfl
@[go_sem] theorem lPred_two (o : Option Nat) (x y : Pred) : AV.sl o [AV.agg (x.cf none), AV.agg (y.cf none)] = AV.sl o (lPred [x, y]) := by rw [lPred_eq]; rfl
@[go_sem] theorem lPolicy_one (o : Option Nat) (x : Policy) : AV.sl o [AV.agg (x.cf none none)] = AV.sl o (lPolicy [x]) := by rw [lPolicy_eq]; rfl
@[go_sem] theorem lPolicy_two (o : Option Nat) (x y : Policy) : AV.sl o [AV.agg (x.cf none none), AV.agg (y.cf none none)] = AV.sl o (lPolicy [x, y]) := by rw [lPolicy_eq]; rfl
@[go_sem] theorem lStage_one (o : Option Nat) (x : Stage) : AV.sl o [AV.agg (x.cf none none none)] = AV.sl o (lStage [x]) := rfl
def bAt (n : Int) : Pred := ⟨3, portS, n, 0, []⟩
def bFalse : Pred := ⟨2, ⟨#[]⟩, 0, 0, []⟩
def bOr (x y : Pred) : Pred := ⟨8, ⟨#[]⟩, 0, 0, [x, y]⟩
def bNot (x : Pred) : Pred := ⟨6, ⟨#[]⟩, 0, 0, [x]⟩
def bFilter (x : Pred) : Policy := ⟨1, x, ⟨#[]⟩, 0, []⟩
def bSet (s : ByteArray) (n : Int) : Policy := ⟨2, Pred.z, s, n, []⟩
def bUnion (x y : Policy) : Policy := ⟨3, Pred.z, ⟨#[]⟩, 0, [x, y]⟩
def bSeq (x y : Policy) : Policy := ⟨4, Pred.z, ⟨#[]⟩, 0, [x, y]⟩
def bStar (x : Policy) : Policy := ⟨5, Pred.z, ⟨#[]⟩, 0, [x]⟩
def joinL {α : Type} (z : α) (two : α -> α -> α) : List α -> α
 | [] => z
 | x :: l => l.foldl two x
def bEither (l : List Pred) : Pred := joinL bFalse bOr l
def bWired (t : Tenant) : Pred := bEither (t.wires.map fun w => bAt w.src)
def bWire (w : Wire) : Policy := bSeq (bFilter (bAt w.src)) (bSet portS w.dst)
def bWires (t : Tenant) : Policy := joinL (bFilter bFalse) bUnion (t.wires.map bWire)
def bClosed (t : Tenant) (p : Policy) : Policy :=
 if t.wires = [] then p else bSeq (bSeq p (bStar (bSeq (bWires t) p))) (bFilter (bNot (bWired t)))
theorem p_at (n : Int) : PCall Tryz.prog 83 [.int .i64 n] (.agg (bAt n).c) := by
 refine pB h83_k rfl ?_
 simp only [Tryz.f83, go_sem]
 rfl
theorem p_filter (x : Pred) : PCall Tryz.prog 75 [.agg x.c] (.agg (bFilter x).c) := by
 refine pB h75_k rfl ?_
 simp only [Tryz.f75, go_sem]
 rfl
theorem p_seq (x y : Policy) : PCall Tryz.prog 74 [.agg x.c, .agg y.c] (.agg (bSeq x y).c) := by
 refine pB h74_k rfl ?_
 simp only [Tryz.f74, go_sem]
 rfl
theorem p_either1 (x y : Pred) : PCall Tryz.prog 157 [.agg x.c, .agg y.c] (.agg (bOr x y).c) := by
 refine pB h157_k rfl ?_
 simp only [Tryz.f157, go_sem]
 rfl
theorem p_Wires1 (x y : Policy) : PCall Tryz.prog 85 [.agg x.c, .agg y.c] (.agg (bUnion x y).c) := by
 refine pB h85_k rfl ?_
 simp only [Tryz.f85, go_sem]
 rfl
end Go.AI
namespace Go.AI
open Go.Proofs
set_option maxRecDepth 50000
theorem p_joinPred (l : List Pred) (hl : l.length <= 1073741824) (z : Pred) : PCall Tryz.prog 156 [.sl none (lPred l), .agg z.c, .fn (.func 157) [] []] (.agg (joinL z bOr l).c) := by
 refine pB h156_k rfl ?_
 simp only [Tryz.f156, go_sem]
 cases l with
 | nil =>
  have g0 : (((0 : Nat) : Int) == 0) = true := rfl
  simp only [go_sem, g0]
  rfl
 | cons x r =>
  have g0 : (((r.length + 1 : Nat) : Int) == 0) = false := by simp; omega
  have g1 : (1 : Int) <= ((r.length + 1 : Nat) : Int) := by omega
  have g2 : (0 : Int) < ((r.length + 1 : Nat) : Int) := by omega
  have hx : (x :: r)[0]? = some x := rfl
  have hd : List.drop 1 (x :: r) = r := rfl
  simp only [go_sem, g0, g1, g2, lPred_get hx, Int.toNat_one, hd, Int.toNat_natCast, List.take_length]
  repeat' (first
   | ((first | refine cS ?_ ?_ | refine gS ?_ ?_) <;> (intro hc; simp only [go_sem, hc, g0, g1, g2, lPred_get hx, hd])))
  refine awp_lst r (fun o l => l.foldl bOr o) (fun _ _ => True) (fun k o => [(2, .fn (.func 157) [] []), (6, .ptr 1 0), (7, .ptr 2 0), (18, .sl none (lPred r)), (19, .int .i64 r.length), (20, .int .i64 k)]) (fun k o => [some z.c, some (Pred.z.cf (some 5)), some o.c]) x (by simp at hl; omega) trivial rfl rfl ?_ ?_
  ·intro k o y ys hd hx _ hF h0 h1 hw
   simp only [go_sem, h0, h1, lPred_get hx]
   repeat' (first
    | (refine aP (p_either1 _ _) ?_; simp only [go_sem, h0, h1, hw, lPred_get hx])
    | ((first | refine cS ?_ ?_ | refine gS ?_ ?_) <;> (intro hc; simp only [go_sem, hc, h0, h1, hw, lPred_get hx])))
   exact ⟨_, by rw [List.foldl_cons], rfl, rfl⟩
  ·intro o _ hF
   simp only [go_sem, Int.lt_irrefl, decide_false]
   rw [joinL, hF]; rfl
theorem p_joinPolicy (l : List Policy) (hl : l.length <= 1073741824) (z : Policy) : PCall Tryz.prog 84 [.sl none (lPolicy l), .agg z.c, .fn (.func 85) [] []] (.agg (joinL z bUnion l).c) := by
 refine pB h84_k rfl ?_
 simp only [Tryz.f84, go_sem]
 cases l with
 | nil =>
  have g0 : (((0 : Nat) : Int) == 0) = true := rfl
  simp only [go_sem, g0]
  rfl
 | cons x r =>
  have g0 : (((r.length + 1 : Nat) : Int) == 0) = false := by simp; omega
  have g1 : (1 : Int) <= ((r.length + 1 : Nat) : Int) := by omega
  have g2 : (0 : Int) < ((r.length + 1 : Nat) : Int) := by omega
  have hx : (x :: r)[0]? = some x := rfl
  have hd : List.drop 1 (x :: r) = r := rfl
  simp only [go_sem, g0, g1, g2, lPolicy_get hx, Int.toNat_one, hd, Int.toNat_natCast, List.take_length]
  repeat' (first
   | ((first | refine cS ?_ ?_ | refine gS ?_ ?_) <;> (intro hc; simp only [go_sem, hc, g0, g1, g2, lPolicy_get hx, hd])))
  refine awp_lst r (fun o l => l.foldl bUnion o) (fun _ _ => True) (fun k o => [(2, .fn (.func 85) [] []), (6, .ptr 1 0), (7, .ptr 2 0), (18, .sl none (lPolicy r)), (19, .int .i64 r.length), (20, .int .i64 k)]) (fun k o => [some z.c, some (Policy.z.cf (some 5) (some 9)), some o.c]) x (by simp at hl; omega) trivial rfl rfl ?_ ?_
  ·intro k o y ys hd hx _ hF h0 h1 hw
   simp only [go_sem, h0, h1, lPolicy_get hx]
   repeat' (first
    | (refine aP (p_Wires1 _ _) ?_; simp only [go_sem, h0, h1, hw, lPolicy_get hx])
    | ((first | refine cS ?_ ?_ | refine gS ?_ ?_) <;> (intro hc; simp only [go_sem, hc, h0, h1, hw, lPolicy_get hx])))
   exact ⟨_, by rw [List.foldl_cons], rfl, rfl⟩
  ·intro o _ hF
   simp only [go_sem, Int.lt_irrefl, decide_false]
   rw [joinL, hF]; rfl
end Go.AI
namespace Go.AI
open Go.Proofs
set_option maxRecDepth 50000
theorem p_either (l : List Int) (hl : l.length <= 1073741824) : PCall Tryz.prog 80 [.sl none (lI64 l)] (.agg (bEither (l.map bAt)).c) := by
 refine pB h80_k rfl ?_
 simp only [Tryz.f80, go_sem]
 refine awp_lst l (fun o r => o ++ r.map bAt) (fun k o => o.length = k) (fun k o => [(2, .ptr 0 0), (3, .sl (some 5) (lPred o)), (6, .sl none (lI64 l)), (7, .int .i64 l.length), (8, .int .i64 k)]) (fun k o => [some (Pred.z.cf (some 5))]) [] (by omega) rfl rfl rfl ?_ ?_
 ·intro k o y ys hd hy hI hF h0 h1 hw
  have hk2 := drop_len hd
  simp only [go_sem, h0, h1, lI64_get hy]
  repeat' (first
   | (refine pK (p_at _) ?_; simp only [go_sem, h0, h1, hw, lI64_get hy])
   | ((first | refine cS ?_ ?_ | refine gS ?_ ?_) <;> (intro hc; simp only [go_sem, hc, h0, h1, hw, lI64_get hy])))
  exact ⟨by omega, by omega, o ++ [bAt y], by simp, by simp [hI], rfl, rfl⟩
 ·intro o hI hF
  have hF : o = l.map bAt := by simpa using hF.symm
  simp only [go_sem, Int.lt_irrefl, decide_false]
  repeat' (first
   | (refine pK (PCall.lend (p_joinPred o (by omega) bFalse)) ?_; simp only [go_sem])
   | ((first | refine cS ?_ ?_ | refine gS ?_ ?_) <;> (intro hc; simp only [go_sem, hc])))
  rw [hF]; rfl
theorem p_Wired (t : Tenant) (hl : t.wires.length <= 1073741824) : PCall Tryz.prog 30 [.agg t.c] (.agg (bWired t).c) := by
 refine pB h30_k rfl ?_
 simp only [Tryz.f30, go_sem]
 refine awp_lst t.wires (fun o r => o ++ r.map (·.src)) (fun k o => o.length = k) (fun k o => [(2, .ptr 1 0), (3, .sl (some 1) (lI64 o)), (7, .sl none (lWire t.wires)), (8, .int .i64 t.wires.length), (9, .int .i64 k)]) (fun k o => [some t.c, some (Pred.z.cf (some 5))]) [] (by omega) rfl rfl rfl ?_ ?_
 ·intro k o y ys hd hy hI hF h0 h1 hw
  have hk2 := drop_len hd
  simp only [go_sem, h0, h1, hw, lWire_get hy]
  repeat' (first
   | ((first | refine cS ?_ ?_ | refine gS ?_ ?_) <;> (intro hc; simp only [go_sem, hc, h0, h1, hw, lWire_get hy])))
  exact ⟨by omega, by omega, o ++ [y.src], by simp, by simp [hI], rfl, rfl⟩
 ·intro o hI hF
  have hF : o = t.wires.map (·.src) := by simpa using hF.symm
  simp only [go_sem, Int.lt_irrefl, decide_false]
  repeat' (first
   | (refine pK (PCall.lend (p_either o (by omega))) ?_; simp only [go_sem])
   | ((first | refine cS ?_ ?_ | refine gS ?_ ?_) <;> (intro hc; simp only [go_sem, hc])))
  rw [hF, List.map_map]; rfl
theorem p_Wires (t : Tenant) (hl : t.wires.length <= 1073741824) : PCall Tryz.prog 34 [.agg t.c] (.agg (bWires t).c) := by
 refine pB h34_k rfl ?_
 simp only [Tryz.f34, go_sem]
 refine awp_lst t.wires (fun o r => o ++ r.map bWire) (fun k o => o.length = k) (fun k o => [(2, .ptr 1 0), (3, .sl (some 9) (lPolicy o)), (7, .sl none (lWire t.wires)), (8, .int .i64 t.wires.length), (9, .int .i64 k)]) (fun k o => [some t.c, some (Policy.z.cf (some 5) (some 9))]) [] (by omega) rfl rfl rfl ?_ ?_
 ·intro k o y ys hd hy hI hF h0 h1 hw
  have hk2 := drop_len hd
  simp only [go_sem, h0, h1, hw, lWire_get hy]
  repeat' (first
   | ((first | refine pK (p_at _) ?_ | refine pK (p_filter _) ?_ | refine pK (PCall.lend (p_seq (bFilter (bAt y.src)) (bSet portS y.dst))) ?_); simp only [go_sem, h0, h1, hw, lWire_get hy])
   | ((first | refine cS ?_ ?_ | refine gS ?_ ?_) <;> (intro hc; simp only [go_sem, hc, h0, h1, hw, lWire_get hy])))
  exact ⟨by omega, by omega, o ++ [bWire y], by simp, by simp [hI], rfl, rfl⟩
 ·intro o hI hF
  have hF : o = t.wires.map bWire := by simpa using hF.symm
  simp only [go_sem, Int.lt_irrefl, decide_false]
  repeat' (first
   | ((first | refine pK (PCall.lend (p_filter bFalse)) ?_ | refine pK (PCall.lend (p_joinPolicy o (by omega) (bFilter bFalse))) ?_); simp only [go_sem])
   | ((first | refine cS ?_ ?_ | refine gS ?_ ?_) <;> (intro hc; simp only [go_sem, hc])))
  rw [hF]; rfl
end Go.AI
namespace Go.AI
open Go.Proofs
set_option maxRecDepth 50000
theorem len_zero {α : Type} {l : List α} : ((l.length : Int) == 0) = true ↔ l = [] := by
 cases l <;> simp; omega
theorem p_Closed (t : Tenant) (hl : t.wires.length <= 1073741824) (p : Policy) : PCall Tryz.prog 25 [.agg t.c, .agg p.c] (.agg (bClosed t p).c) := by
 refine pB h25_k rfl ?_
 simp only [Tryz.f25, go_sem]
 repeat' (first
  | ((first | refine pK (p_Wires t hl) ?_ | refine pK (p_Wired t hl) ?_ | refine pK (PCall.lend (p_seq (bSeq p (bStar (bSeq (bWires t) p))) (bFilter (bNot (bWired t))))) ?_ | refine pK (PCall.lend (p_seq p (bStar (bSeq (bWires t) p)))) ?_ | refine pK (p_seq (bWires t) p) ?_ | refine pK (PCall.lend (p_filter (bNot (bWired t)))) ?_); simp only [go_sem])
  | ((first | refine cS ?_ ?_ | refine gS ?_ ?_) <;> (intro hc; simp only [go_sem, hc])))
 ·rw [bClosed, if_pos (len_zero.1 hc)]
 ·rw [bClosed, if_neg (fun h => by rw [len_zero.2 h] at hc; cases hc)]
def wholeGo (t : Tenant) : List Stage -> List Stage -> List Stage × Int
 | o, [] => (o, 0)
 | o, x :: r => if ckO (bClosed t x.policy) = 2 then ([], 2) else wholeGo t (o ++ [{ x with policy := bClosed t x.policy }]) r
def bWhole (t : Tenant) : List Stage × Int := wholeGo t [] t.program
theorem p_Whole (t : Tenant) (hl : t.wires.length <= 1073741824) (hp : t.program.length <= 1073741824) (hb : ∀ x ∈ t.program, bulkL (bClosed t x.policy).c <= 1073741824) :
  PCall Tryz.prog 27 [.agg t.c] (.tup [.sl none (lStage (bWhole t).1), .int .i64 (bWhole t).2]) := by
 refine pB h27_k rfl ?_
 simp only [Tryz.f27, go_sem]
 refine awp_lst t.program (fun o r => wholeGo t o r) (fun k o => o.length = k) (fun k o => [(1, .ptr 0 0), (4, .sl (some 15) (lStage o)), (8, .sl none (lStage t.program)), (9, .int .i64 t.program.length), (10, .int .i64 k)]) (fun k o => [some t.c]) [] (by omega) rfl rfl rfl ?_ ?_
 ·intro k o y ys hd hy hI hF h0 h1 hw
  have hk2 := drop_len hd
  simp only [go_sem, h0, h1, hw, lStage_get hy]
  repeat' (first
   | ((first | refine pK (p_Closed t hl _) ?_ | refine pK (p_CheckPolicy _ (hb y (List.mem_of_getElem? hy))) ?_); simp only [go_sem, h0, h1, hw, lStage_get hy])
   | ((first | refine cS ?_ ?_ | refine gS ?_ ?_) <;> (intro hc; simp only [go_sem, hc, h0, h1, hw, lStage_get hy])))
  ·have h2 : wholeGo t [] t.program = ([], 2) := by rw [hF, wholeGo, if_pos (by simpa using hc)]
   rw [bWhole, h2]; rfl
  ·refine ⟨by omega, by omega, o ++ [{ y with policy := bClosed t y.policy }], ?_, by simp [hI], rfl, rfl⟩
   rw [wholeGo, if_neg (by simpa using hc)]
 ·intro o hI hF
  simp only [go_sem, Int.lt_irrefl, decide_false]
  rw [bWhole, hF]; rfl
end Go.AI
namespace Go.AI
open Go.Proofs
set_option maxRecDepth 50000
theorem bk_p2 (x y : Pred) : bulkL (lPred [x, y]) = bulkL x.c + bulkL y.c := by rw [lPred_eq]; simp [bulkL, AV.bulk]
theorem bk_p1 (x : Pred) : bulkL (lPred [x]) = bulkL x.c := by rw [lPred_eq]; simp [bulkL, AV.bulk]
theorem bk_p0 : bulkL (lPred []) = 0 := by rw [lPred_eq]; rfl
theorem bk_o2 (x y : Policy) : bulkL (lPolicy [x, y]) = bulkL x.c + bulkL y.c := by rw [lPolicy_eq]; simp [bulkL, AV.bulk]
theorem bk_o1 (x : Policy) : bulkL (lPolicy [x]) = bulkL x.c := by rw [lPolicy_eq]; simp [bulkL, AV.bulk]
theorem bk_o0 : bulkL (lPolicy []) = 0 := by rw [lPolicy_eq]; rfl
theorem bk_at (n : Int) : bulkL (bAt n).c = 9 := by rw [bulk_pred]; simp only [bAt, bk_p0]; rfl
theorem bk_false : bulkL bFalse.c = 5 := by rw [bulk_pred]; simp only [bFalse, bk_p0]; rfl
theorem bk_or (x y : Pred) : bulkL (bOr x y).c = 5 + bulkL x.c + bulkL y.c := by rw [bulk_pred]; simp only [bOr, bk_p2]; show 0 + 5 + _ = _; omega
theorem bk_not (x : Pred) : bulkL (bNot x).c = 5 + bulkL x.c := by rw [bulk_pred]; simp only [bNot, bk_p1]; show 0 + 5 + _ = _; omega
theorem bk_zp : bulkL Pred.z.c = 5 := by rw [bulk_pred]; show _ + 5 + bulkL (lPred []) = 5; rw [bk_p0]; rfl
theorem bk_filter (x : Pred) : bulkL (bFilter x).c = bulkL x.c + 4 := by rw [bulk_policy]; simp only [bFilter, bk_o0]; show _ + 0 + 4 + 0 = _; omega
theorem bk_set (n : Int) : bulkL (bSet portS n).c = 13 := by rw [bulk_policy]; simp only [bSet, bk_o0, bk_zp]; rfl
theorem bk_union (x y : Policy) : bulkL (bUnion x y).c = 9 + bulkL x.c + bulkL y.c := by rw [bulk_policy]; simp only [bUnion, bk_o2, bk_zp]; show 5 + 0 + 4 + _ = _; omega
theorem bk_seq (x y : Policy) : bulkL (bSeq x y).c = 9 + bulkL x.c + bulkL y.c := by rw [bulk_policy]; simp only [bSeq, bk_o2, bk_zp]; show 5 + 0 + 4 + _ = _; omega
theorem bk_star (x : Policy) : bulkL (bStar x).c = 9 + bulkL x.c := by rw [bulk_policy]; simp only [bStar, bk_o1, bk_zp]; show 5 + 0 + 4 + _ = _; omega
theorem bk_ors : ∀ (l : List Pred) (x : Pred) (B : Nat), (∀ y ∈ l, bulkL y.c <= B) -> bulkL (l.foldl bOr x).c <= bulkL x.c + l.length * (B + 5)
 | [], x, B, _ => by simp
 | y :: l, x, B, h => by
  rw [List.foldl_cons]
  have h1 := bk_ors l (bOr x y) B fun z hz => h z (by simp [hz])
  have h2 := h y (by simp)
  rw [bk_or] at h1
  rw [List.length_cons, Nat.succ_mul]
  omega
theorem bk_unions : ∀ (l : List Policy) (x : Policy) (B : Nat), (∀ y ∈ l, bulkL y.c <= B) -> bulkL (l.foldl bUnion x).c <= bulkL x.c + l.length * (B + 9)
 | [], x, B, _ => by simp
 | y :: l, x, B, h => by
  rw [List.foldl_cons]
  have h1 := bk_unions l (bUnion x y) B fun z hz => h z (by simp [hz])
  have h2 := h y (by simp)
  rw [bk_union] at h1
  rw [List.length_cons, Nat.succ_mul]
  omega
theorem bk_either (l : List Pred) (h : ∀ y ∈ l, bulkL y.c <= 9) : bulkL (bEither l).c <= 9 + l.length * 14 := by
 unfold bEither
 cases l with
 | nil => rw [joinL, bk_false]; omega
 | cons x l =>
  have h1 := bk_ors l x 9 fun y hy => h y (by simp [hy])
  have h2 := h x (by simp)
  rw [joinL, List.length_cons]
  omega
theorem bk_wired (t : Tenant) : bulkL (bWired t).c <= 9 + t.wires.length * 14 := by
 have := bk_either (t.wires.map fun w => bAt w.src) (fun y hy => by obtain ⟨w, _, rfl⟩ := List.mem_map.1 hy; rw [bk_at]; omega)
 rwa [List.length_map] at this
theorem bk_wires (t : Tenant) : bulkL (bWires t).c <= 35 + t.wires.length * 44 := by
 unfold bWires
 have hw : ∀ y ∈ t.wires.map bWire, bulkL y.c <= 35 := fun y hy => by
  obtain ⟨w, _, rfl⟩ := List.mem_map.1 hy
  rw [bWire, bk_seq, bk_filter, bk_at, bk_set]; omega
 have hl : (t.wires.map bWire).length = t.wires.length := List.length_map _
 rw [<- hl]
 generalize t.wires.map bWire = l at hw
 cases l with
 | nil => rw [joinL, bk_filter, bk_false]; omega
 | cons x l =>
  have h1 := bk_unions l x 35 fun y hy => hw y (by simp [hy])
  have h2 := hw x (by simp)
  rw [joinL, List.length_cons]
  omega
theorem bk_closed {t : Tenant} {p : Policy} (hp : bulkL p.c <= 1048576) (hw : t.wires.length <= 1048576) : bulkL (bClosed t p).c <= 1073741824 := by
 unfold bClosed
 split
 ·omega
 ·have h1 := bk_wired t
  have h2 := bk_wires t
  rw [bk_seq, bk_seq, bk_star, bk_seq, bk_filter, bk_not]
  omega
theorem eqP_refl : ∀ x : Pred, eqP x x = true := by
 refine Pred.ind _ fun x ih => ?_
 rw [eqP_eq]
 have : ∀ l : List Pred, (∀ y ∈ l, eqP y y = true) -> eqPs l l = true := by
  intro l
  induction l with
  | nil => intro _; rw [eqPs_nil]
  | cons y l ihl => intro h; rw [eqPs_cons, h y (by simp), ihl fun z hz => h z (by simp [hz])]; rfl
 rw [this x.args ih]; simp
theorem eqO_refl : ∀ x : Policy, eqO x x = true := by
 refine Policy.ind _ fun x ih => ?_
 rw [eqO_eq]
 have : ∀ l : List Policy, (∀ y ∈ l, eqO y y = true) -> eqOs l l = true := by
  intro l
  induction l with
  | nil => intro _; rw [eqOs_nil]
  | cons y l ihl => intro h; rw [eqOs_cons, h y (by simp), ihl fun z hz => h z (by simp [hz])]; rfl
 rw [this x.args ih, eqP_refl]; simp
theorem keysEq_refl : ∀ l : List ByteArray, keysEq l l = true
 | [] => by rw [keysEq_nil]
 | x :: l => by rw [keysEq_cons, keysEq_refl l]; simp
theorem eqS_refl (x : Stp) : eqS x x = true := by unfold eqS; rw [keysEq_refl]; simp
end Go.AI
namespace Go.AI
open Go.Proofs
set_option maxRecDepth 50000
theorem c_eqO : ∀ x y : Policy, PCall Tryz.prog 24 [.agg x.c, .agg y.c] (.bool (eqO x y)) := by
 refine Policy.ind _ fun x ih => fun y => ?_
 refine PCall.fit h24_k.c fun hf => ?_
 have hl := Policy.fit_args (fit1 hf)
 refine pC h24_k rfl ?_
 simp only [Tryz.f24, go_sem, toList_beq]
 repeat' (first
  | (refine pK (c_eqP _ _) ?_; simp only [go_sem, toList_beq])
  | ((first | refine cS ?_ ?_ | refine gS ?_ ?_) <;> (intro hc; simp only [go_sem, hc, toList_beq])))
 all_goals first
  | rfl
  | (simp only [eqO_eq]; rfl)
  | grind [eqO_eq]
  | (simp only [eqO_eq]; grind)
  | (simp [eqO_eq, *]; done)
  | (simp_all [eqO_eq]; done)
  | skip
 have hll : x.args.length = y.args.length := by grind
 refine awp_all x.args (fun r => eqOs r (y.args.drop (x.args.length - r.length))) (fun k => [(2, .ptr 0 0), (3, .ptr 1 0), (6, .int .i64 k)]) hl rfl ?_ ?_
 ·intro k z zs hd hx hF h0 h1 hw
  have hk := drop_len hd
  obtain ⟨w, hy⟩ : ∃ w, y.args[k]? = some w := ⟨_, List.getElem?_eq_getElem (by omega)⟩
  have e1 : x.args.length - (z :: zs).length = k := by simp; omega
  have e2 : x.args.length - zs.length = k + 1 := by omega
  have e3 : y.args.drop k = w :: y.args.drop (k + 1) := by rw [List.drop_eq_getElem_cons (by omega)]; congr 1; grind
  have h2 : (k : Int) < (y.args.length : Int) := by omega
  rw [e1, e3, Nat.sub_self, List.drop_zero, eqOs_cons] at hF
  have hm := List.mem_of_getElem? hx
  simp only [go_sem, h0, h1, h2, lPolicy_get hx, lPolicy_get hy, e1, e2, e3]
  repeat' (first
   | (refine pK (ih _ hm _) ?_; simp only [go_sem, h0, h1, h2, hw, lPolicy_get hx, lPolicy_get hy, e1, e2, e3])
   | ((first | refine cS ?_ ?_ | refine gS ?_ ?_) <;> (intro hc; simp only [go_sem, hc, h0, h1, h2, hw, lPolicy_get hx, lPolicy_get hy, e1, e2, e3])))
  all_goals first
   | rfl
   | (simp only [eqO_eq, eqOs_cons, hF]; rfl)
   | grind [eqO_eq, eqOs_cons]
   | (simp only [eqO_eq, eqOs_cons, hF]; grind)
   | (simp [eqO_eq, eqOs_cons, hF, *]; done)
   | (simp_all [eqO_eq, eqOs_cons, hF]; done)
   | skip
 ·intro hF hlt
  simp only [go_sem, hlt, decide_false]
  all_goals first
   | rfl
   | (simp only [eqO_eq, eqOs_nil]; rfl)
   | grind [eqO_eq, eqOs_nil]
   | (simp only [eqO_eq, eqOs_nil]; grind)
   | (simp [eqO_eq, eqOs_nil, *]; done)
   | (simp_all [eqO_eq, eqOs_nil]; done)
   | skip
theorem c_eqGr (l : List Stage) : PCall Tryz.prog 36 [.sl none (lStage l), .sl none (lStage l)] (.bool true) := by
 refine PCall.fit h36_k.c fun hf => ?_
 have hl := fits hf
 rw [lStage_len] at hl
 have g0 : ((l.length : Int) != (l.length : Int)) = false := by simp
 refine pC h36_k rfl ?_
 simp only [Tryz.f36, go_sem, g0]
 refine awp_all l (fun _ => ()) (fun k => [(0, .sl none (lStage l)), (1, .sl none (lStage l)), (5, .int .i64 k)]) hl rfl ?_ ?_
 ·intro k x xs hd hx hF h0 h1 hw
  simp only [go_sem, h0, h1, lStage_get hx]
  repeat' (first
   | ((first | refine pK (c_eqO _ _) ?_ | refine pK (c_eqS _ _) ?_); simp only [go_sem, h0, h1, hw, lStage_get hx, eqO_refl, eqS_refl])
   | ((first | refine cS ?_ ?_ | refine gS ?_ ?_) <;> (intro hc; simp only [go_sem, hc, h0, h1, hw, lStage_get hx, eqO_refl, eqS_refl])))
  all_goals skip
 ·intro hF hlt
  simp only [go_sem, hlt, decide_false]
end Go.AI
namespace Go.AI
open Go.Proofs
set_option maxRecDepth 50000
end Go.AI
namespace Go.AI
open Go.Proofs
set_option maxRecDepth 50000
section
variable {P : Program} {K : Kt} {e : Env} {H : Heap} {d : Tmp} {t kt et : TypeId} {o : Nat} {α : Type}
end
theorem take_snoc {α : Type} {l : List α} {k : Nat} {y : α} (hy : l[k]? = some y) : l.take (k + 1) = l.take k ++ [y] := by rw [List.take_add_one, hy]; rfl
@[go_sem] theorem bnd_mapr (o n : Nat) : (AV.mapr o).bnd n = decide (o < n) := rfl
end Go.AI
namespace Go.AI
open Go.Proofs
set_option maxRecDepth 50000
theorem p_IndexFld {H : Heap} (l : List Fld) (hl : l.length <= 9223372036854775807) (g : FuncId) (fi ca : List AV) (p : Fld -> Bool)
  (h : ∀ x ∈ l, SCall Tryz.prog g (fi.map AV.borrow ++ (.agg x.c :: ca.map AV.borrow)) H (.bool (p x))) :
  SCall Tryz.prog 228 [.sl none (lFld l), .fn (.func g) fi ca] H (.int .i64 (idxI p l)) := by
 unfold SCall
 refine aC h228_k rfl ?_
 simp only [Tryz.f228, go_sem]
 refine awp_all l (fun r => idxGo p (l.length - r.length) r) (fun k => [(0, .sl none (lFld l)), (1, .fn (.func g) fi ca), (7, .int .i64 l.length), (8, .int .i64 k)]) hl rfl ?_ ?_
 ·intro k x xs hd hx hF h0 h1 hw
  have hk2 := drop_len hd
  have e1 : l.length - (xs.length + 1) = k := by omega
  have e2 : l.length - xs.length = k + 1 := by omega
  simp only [List.length_cons, e1, Nat.sub_self] at hF
  simp only [go_sem, h0, h1, lFld_get hx, e1, e2]
  repeat' (first
   | (refine aS (h x (List.mem_of_getElem? hx)) ?_; simp only [go_sem, h0, h1, hw, lFld_get hx, e1, e2])
   | ((first | refine cS ?_ ?_ | refine gS ?_ ?_) <;> (intro hc; simp only [go_sem, hc, h0, h1, hw, lFld_get hx, e1, e2])))
  ·rw [idxI, hF, idxGo, if_pos hc]
  ·rw [idxGo, if_neg (by rw [hc]; decide)]
 ·intro hF hlt
  simp only [go_sem, hlt, decide_false]
  rw [Nat.sub_self] at hF
  rw [idxI, hF]; rfl
theorem p_IndexStr {H : Heap} (l : List ByteArray) (hl : l.length <= 9223372036854775807) (g : FuncId) (fi ca : List AV) (p : ByteArray -> Bool)
  (h : ∀ x ∈ l, SCall Tryz.prog g (fi.map AV.borrow ++ (.str x :: ca.map AV.borrow)) H (.bool (p x))) :
  SCall Tryz.prog 265 [.sl none (lStr l), .fn (.func g) fi ca] H (.int .i64 (idxI p l)) := by
 unfold SCall
 refine aC h265_k rfl ?_
 simp only [Tryz.f265, go_sem]
 refine awp_all l (fun r => idxGo p (l.length - r.length) r) (fun k => [(0, .sl none (lStr l)), (1, .fn (.func g) fi ca), (7, .int .i64 l.length), (8, .int .i64 k)]) hl rfl ?_ ?_
 ·intro k x xs hd hx hF h0 h1 hw
  have hk2 := drop_len hd
  have e1 : l.length - (xs.length + 1) = k := by omega
  have e2 : l.length - xs.length = k + 1 := by omega
  simp only [List.length_cons, e1, Nat.sub_self] at hF
  simp only [go_sem, h0, h1, lStr_get hx, e1, e2]
  repeat' (first
   | (refine aS (h x (List.mem_of_getElem? hx)) ?_; simp only [go_sem, h0, h1, hw, lStr_get hx, e1, e2])
   | ((first | refine cS ?_ ?_ | refine gS ?_ ?_) <;> (intro hc; simp only [go_sem, hc, h0, h1, hw, lStr_get hx, e1, e2])))
  ·rw [idxI, hF, idxGo, if_pos hc]
  ·rw [idxGo, if_neg (by rw [hc]; decide)]
 ·intro hF hlt
  simp only [go_sem, hlt, decide_false]
  rw [Nat.sub_self] at hF
  rw [idxI, hF]; rfl
theorem p_ContainsStr {H : Heap} (l : List ByteArray) (hl : l.length <= 9223372036854775807) (g : FuncId) (fi ca : List AV) (p : ByteArray -> Bool)
  (h : ∀ x ∈ l, SCall Tryz.prog g (fi.map AV.borrow ++ (.str x :: ca.map AV.borrow)) H (.bool (p x))) :
  SCall Tryz.prog 230 [.sl none (lStr l), .fn (.func g) fi ca] H (.bool (l.any p)) := by
 unfold SCall
 refine aC h230_k rfl ?_
 simp only [Tryz.f230, go_sem]
 repeat' (first
  | (refine aS (p_IndexStr l hl g fi ca p h) ?_; simp only [go_sem])
  | ((first | refine cS ?_ ?_ | refine gS ?_ ?_) <;> (intro hc; simp only [go_sem, hc])))
 rw [idxI, idxGo_any]
theorem p_everyStr (l : List ByteArray) (hl : l.length <= 9223372036854775807) (n : Int) (g : FuncId) (p : ByteArray -> Bool) (h : ∀ x ∈ l, PCall Tryz.prog g [.str x] (.bool (p x))) :
  PCall Tryz.prog 264 [.sl none (lStr l), .int .i64 n, .fn (.func g) [] []] (.bool (((l.length : Int) == n) && l.all p)) := by
 refine pC h264_k rfl ?_
 simp only [Tryz.f264, go_sem]
 have h1 : ∀ x ∈ l, SCall Tryz.prog 297 [.str x, .ptr 0 0] [some [.fn (.func g) [] []]] (.bool (!p x)) := by
  intro x hx
  refine ACall.drop rfl ?_
  refine aC h297_k rfl ?_
  simp only [Tryz.f297, go_sem]
  repeat' (first
   | (refine aP (h x hx) ?_; simp only [go_sem])
   | ((first | refine cS ?_ ?_ | refine gS ?_ ?_) <;> (intro hc; simp only [go_sem, hc])))
  exact ⟨_, rfl⟩
 repeat' (first
  | (refine aS (p_ContainsStr l hl 297 [] [.ptr 0 0] (fun x => !p x) h1) ?_; simp only [go_sem, any_not])
  | ((first | refine cS ?_ ?_ | refine gS ?_ ?_) <;> (intro hc; simp only [go_sem, hc, any_not])))
end Go.AI
namespace Go.AI
open Go.Proofs
set_option maxRecDepth 50000
theorem p_EqualStr (a b : List ByteArray) (ha : a.length <= 9223372036854775807) : PCall Tryz.prog 296 [.sl none (lStr a), .sl none (lStr b)] (.bool (((a.length : Int) == (b.length : Int)) && keysEq a b)) := by
 refine pC h296_k rfl ?_
 simp only [Tryz.f296, go_sem, toList_beq]
 repeat' (first
  | ((first | refine cS ?_ ?_ | refine gS ?_ ?_) <;> (intro hc; simp only [go_sem, hc, toList_beq])))
 ·simp at hc; simp [hc]
 ·have hlen : a.length = b.length := by simp at hc; omega
  refine awp_lst a (fun (_ : Unit) r => keysEq r (b.drop (a.length - r.length))) (fun _ _ => True) (fun k _ => [(0, .sl none (lStr a)), (1, .sl none (lStr b)), (12, .int .i64 a.length), (13, .int .i64 k)]) (fun k _ => []) () ha trivial rfl rfl ?_ ?_
  ·intro k _ x xs hd hx _ hF h0 h1 hw
   have hk2 := drop_len hd
   obtain ⟨y, hy⟩ : ∃ y, b[k]? = some y := ⟨_, List.getElem?_eq_getElem (by omega)⟩
   have e1 : a.length - (xs.length + 1) = k := by omega
   have e2 : a.length - xs.length = k + 1 := by omega
   have hbd : b.drop k = y :: b.drop (k + 1) := by
    obtain ⟨hlt, rfl⟩ := List.getElem?_eq_some_iff.1 hy
    exact List.drop_eq_getElem_cons hlt
   simp only [List.length_cons, e1, Nat.sub_self, List.drop_zero, hbd, keysEq_cons] at hF
   simp only [go_sem, h0, h1, lStr_get hx, lStr_get hy, toList_beq]
   repeat' (first
    | ((first | refine cS ?_ ?_ | refine gS ?_ ?_) <;> (intro hc; simp only [go_sem, hc, h0, h1, hw, lStr_get hx, lStr_get hy, toList_beq])))
   ·have h5 : decide (x = y) = false := by simpa using hc
    rw [hF, h5, Bool.false_and, Bool.and_false]
   ·have h5 : decide (x = y) = true := by simpa using hc
    exact ⟨(), by rw [e1, e2, hbd, keysEq_cons, h5, Bool.true_and]⟩
  ·intro _ _ hF
   simp only [go_sem, Int.lt_irrefl, decide_false]
   rw [Nat.sub_self, List.drop_zero, keysEq_nil] at hF
   rw [hF, hlen]; simp
theorem p_sameStep (x y : Stp) : PCall Tryz.prog 263 [.agg x.c, .agg y.c] (.bool (eqS x y)) := by
 refine PCall.fit h263_k.c fun hf => ?_
 have hl : x.key.length <= 9223372036854775807 := Stp.fit_key (pfit1 hf)
 refine pC h263_k rfl ?_
 simp only [Tryz.f263, go_sem, toList_beq]
 repeat' (first
  | (refine pK (p_EqualStr _ _ hl) ?_; simp only [go_sem, toList_beq])
  | ((first | refine cS ?_ ?_ | refine gS ?_ ?_) <;> (intro hc; simp only [go_sem, hc, toList_beq])))
 all_goals (unfold eqS; simp_all [ibeq])
theorem p_fS1
(var field : ByteArray) (n m : Int) (key : List ByteArray) (hl : key.length <= 9223372036854775807) (hv : var.size <= 1073741824) (hf : field.size <= 1073741824) (hk : ∀ y ∈ key, PCall Tryz.prog 221 [.str y] (.bool (fnB y))) : PCall Tryz.prog 224 [.agg (Stp.c ⟨1, var, key, field, n, m⟩)] (.bool (fmS ⟨1, var, key, field, n, m⟩)) := by
 refine pC h224_k rfl ?_
 simp only [Tryz.f224, go_sem, toList_beq, Int.reduceBEq, len0]
 repeat' (first
  | ((first | refine pK (PCall.lend (p_sameStep ⟨1, var, key, field, n, m⟩ Stp.z)) ?_ | refine pK (p_Plain _ hv) ?_ | refine pK (p_named _ hf) ?_ | refine pK (p_value _) ?_ | refine pK (p_tick _) ?_ | refine pK (p_everyStr _ hl _ _ fnB hk) ?_); simp only [go_sem, toList_beq, Int.reduceBEq, len0])
  | ((first | refine cS ?_ ?_ | refine gS ?_ ?_) <;> (intro hc; simp only [go_sem, hc, toList_beq, Int.reduceBEq, len0])))
 all_goals (unfold fmS; cases key <;> (simp_all [w16, tickB] <;> first | omega | grind | skip))
theorem p_fS2
(var field : ByteArray) (n m : Int) (key : List ByteArray) (hl : key.length <= 9223372036854775807) (hv : var.size <= 1073741824) (hf : field.size <= 1073741824) (hk : ∀ y ∈ key, PCall Tryz.prog 221 [.str y] (.bool (fnB y))) : PCall Tryz.prog 224 [.agg (Stp.c ⟨2, var, key, field, n, m⟩)] (.bool (fmS ⟨2, var, key, field, n, m⟩)) := by
 refine pC h224_k rfl ?_
 simp only [Tryz.f224, go_sem, toList_beq, Int.reduceBEq, len0]
 repeat' (first
  | ((first | refine pK (PCall.lend (p_sameStep ⟨2, var, key, field, n, m⟩ Stp.z)) ?_ | refine pK (p_Plain _ hv) ?_ | refine pK (p_named _ hf) ?_ | refine pK (p_value _) ?_ | refine pK (p_tick _) ?_ | refine pK (p_everyStr _ hl _ _ fnB hk) ?_); simp only [go_sem, toList_beq, Int.reduceBEq, len0])
  | ((first | refine cS ?_ ?_ | refine gS ?_ ?_) <;> (intro hc; simp only [go_sem, hc, toList_beq, Int.reduceBEq, len0])))
 all_goals (unfold fmS; cases key <;> (simp_all [w16, tickB] <;> first | omega | grind | skip))
theorem p_fS3
(var field : ByteArray) (n m : Int) (key : List ByteArray) (hl : key.length <= 9223372036854775807) (hv : var.size <= 1073741824) (hf : field.size <= 1073741824) (hk : ∀ y ∈ key, PCall Tryz.prog 221 [.str y] (.bool (fnB y))) : PCall Tryz.prog 224 [.agg (Stp.c ⟨3, var, key, field, n, m⟩)] (.bool (fmS ⟨3, var, key, field, n, m⟩)) := by
 refine pC h224_k rfl ?_
 simp only [Tryz.f224, go_sem, toList_beq, Int.reduceBEq, len0]
 repeat' (first
  | ((first | refine pK (PCall.lend (p_sameStep ⟨3, var, key, field, n, m⟩ Stp.z)) ?_ | refine pK (p_Plain _ hv) ?_ | refine pK (p_named _ hf) ?_ | refine pK (p_value _) ?_ | refine pK (p_tick _) ?_ | refine pK (p_everyStr _ hl _ _ fnB hk) ?_); simp only [go_sem, toList_beq, Int.reduceBEq, len0])
  | ((first | refine cS ?_ ?_ | refine gS ?_ ?_) <;> (intro hc; simp only [go_sem, hc, toList_beq, Int.reduceBEq, len0])))
 all_goals (unfold fmS; cases key <;> (simp_all [w16, tickB] <;> first | omega | grind | skip))
theorem p_fS4
(var field : ByteArray) (n m : Int) (key : List ByteArray) (hl : key.length <= 9223372036854775807) (hv : var.size <= 1073741824) (hf : field.size <= 1073741824) (hk : ∀ y ∈ key, PCall Tryz.prog 221 [.str y] (.bool (fnB y))) : PCall Tryz.prog 224 [.agg (Stp.c ⟨4, var, key, field, n, m⟩)] (.bool (fmS ⟨4, var, key, field, n, m⟩)) := by
 refine pC h224_k rfl ?_
 simp only [Tryz.f224, go_sem, toList_beq, Int.reduceBEq, len0]
 repeat' (first
  | ((first | refine pK (PCall.lend (p_sameStep ⟨4, var, key, field, n, m⟩ Stp.z)) ?_ | refine pK (p_Plain _ hv) ?_ | refine pK (p_named _ hf) ?_ | refine pK (p_value _) ?_ | refine pK (p_tick _) ?_ | refine pK (p_everyStr _ hl _ _ fnB hk) ?_); simp only [go_sem, toList_beq, Int.reduceBEq, len0])
  | ((first | refine cS ?_ ?_ | refine gS ?_ ?_) <;> (intro hc; simp only [go_sem, hc, toList_beq, Int.reduceBEq, len0])))
 all_goals (unfold fmS; cases key <;> (simp_all [w16, tickB] <;> first | omega | grind | skip))
theorem p_fS5
(var field : ByteArray) (n m : Int) (key : List ByteArray) (hl : key.length <= 9223372036854775807) (hv : var.size <= 1073741824) (hf : field.size <= 1073741824) (hk : ∀ y ∈ key, PCall Tryz.prog 221 [.str y] (.bool (fnB y))) : PCall Tryz.prog 224 [.agg (Stp.c ⟨5, var, key, field, n, m⟩)] (.bool (fmS ⟨5, var, key, field, n, m⟩)) := by
 refine pC h224_k rfl ?_
 simp only [Tryz.f224, go_sem, toList_beq, Int.reduceBEq, len0]
 repeat' (first
  | ((first | refine pK (PCall.lend (p_sameStep ⟨5, var, key, field, n, m⟩ Stp.z)) ?_ | refine pK (p_Plain _ hv) ?_ | refine pK (p_named _ hf) ?_ | refine pK (p_value _) ?_ | refine pK (p_tick _) ?_ | refine pK (p_everyStr _ hl _ _ fnB hk) ?_); simp only [go_sem, toList_beq, Int.reduceBEq, len0])
  | ((first | refine cS ?_ ?_ | refine gS ?_ ?_) <;> (intro hc; simp only [go_sem, hc, toList_beq, Int.reduceBEq, len0])))
 all_goals (unfold fmS; cases key <;> (simp_all [w16, tickB] <;> first | omega | grind | skip))
theorem p_fS6
(var field : ByteArray) (n m : Int) (key : List ByteArray) (hl : key.length <= 9223372036854775807) (hv : var.size <= 1073741824) (hf : field.size <= 1073741824) (hk : ∀ y ∈ key, PCall Tryz.prog 221 [.str y] (.bool (fnB y))) : PCall Tryz.prog 224 [.agg (Stp.c ⟨6, var, key, field, n, m⟩)] (.bool (fmS ⟨6, var, key, field, n, m⟩)) := by
 refine pC h224_k rfl ?_
 simp only [Tryz.f224, go_sem, toList_beq, Int.reduceBEq, len0]
 repeat' (first
  | ((first | refine pK (PCall.lend (p_sameStep ⟨6, var, key, field, n, m⟩ Stp.z)) ?_ | refine pK (p_Plain _ hv) ?_ | refine pK (p_named _ hf) ?_ | refine pK (p_value _) ?_ | refine pK (p_tick _) ?_ | refine pK (p_everyStr _ hl _ _ fnB hk) ?_); simp only [go_sem, toList_beq, Int.reduceBEq, len0])
  | ((first | refine cS ?_ ?_ | refine gS ?_ ?_) <;> (intro hc; simp only [go_sem, hc, toList_beq, Int.reduceBEq, len0])))
 all_goals (unfold fmS; cases key <;> (simp_all [w16, tickB] <;> first | omega | grind | skip))
theorem p_fS0 (kind : Int) (h1 : kind ≠ 1) (h2 : kind ≠ 2) (h3 : kind ≠ 3) (h4 : kind ≠ 4) (h5 : kind ≠ 5) (h6 : kind ≠ 6)
  (var field : ByteArray) (n m : Int) (key : List ByteArray) (hl : key.length <= 9223372036854775807) (hv : var.size <= 1073741824) (hf : field.size <= 1073741824) (hk : ∀ y ∈ key, PCall Tryz.prog 221 [.str y] (.bool (fnB y))) : PCall Tryz.prog 224 [.agg (Stp.c ⟨kind, var, key, field, n, m⟩)] (.bool (fmS ⟨kind, var, key, field, n, m⟩)) := by
 refine pC h224_k rfl ?_
 simp only [Tryz.f224, go_sem, toList_beq, len0, ieq_no h1, ieq_no h2, ieq_no h3, ieq_no h4, ieq_no h5, ieq_no h6]
 repeat' (first
  | ((first | refine pK (PCall.lend (p_sameStep ⟨kind, var, key, field, n, m⟩ Stp.z)) ?_ | refine pK (p_Plain _ hv) ?_ | refine pK (p_named _ hf) ?_ | refine pK (p_everyStr _ hl _ _ fnB hk) ?_); simp only [go_sem, toList_beq, len0, ieq_no h1, ieq_no h2, ieq_no h3, ieq_no h4, ieq_no h5, ieq_no h6])
  | ((first | refine cS ?_ ?_ | refine gS ?_ ?_) <;> (intro hc; simp only [go_sem, hc, toList_beq, len0, ieq_no h1, ieq_no h2, ieq_no h3, ieq_no h4, ieq_no h5, ieq_no h6])))
 all_goals (unfold fmS; cases key <;> (simp_all <;> first | omega | grind | skip))
theorem p_formedStep (x : Stp) (hb : bulkL x.c <= 1073741824) : PCall Tryz.prog 224 [.agg x.c] (.bool (fmS x)) := by
 have hl : x.key.length <= 9223372036854775807 := Nat.le_trans (lStr_bn (Stp.bl_key hb)) (by decide)
 have hv := Stp.bk_var hb
 have hf := Stp.bk_field hb
 have hk : ∀ y ∈ x.key, PCall Tryz.prog 221 [.str y] (.bool (fnB y)) := fun y hy => p_named y (by have := lStr_bk (Stp.bl_key hb) hy; simp only [AV.bulk] at this; omega)
 obtain ⟨kind, var, key, field, n, m⟩ := x
 by_cases h1 : kind = 1
 ·subst h1; exact p_fS1 var field n m key hl hv hf hk
 by_cases h2 : kind = 2
 ·subst h2; exact p_fS2 var field n m key hl hv hf hk
 by_cases h3 : kind = 3
 ·subst h3; exact p_fS3 var field n m key hl hv hf hk
 by_cases h4 : kind = 4
 ·subst h4; exact p_fS4 var field n m key hl hv hf hk
 by_cases h5 : kind = 5
 ·subst h5; exact p_fS5 var field n m key hl hv hf hk
 by_cases h6 : kind = 6
 ·subst h6; exact p_fS6 var field n m key hl hv hf hk
 exact p_fS0 kind h1 h2 h3 h4 h5 h6 var field n m key hl hv hf hk
end Go.AI
namespace Go.AI
open Go.Proofs
set_option maxRecDepth 50000
@[go_sem] theorem borrow_it (o : Nat) : (AV.it o).borrow = .it o := rfl
end Go.AI
namespace Go.AI
open Go.Proofs
set_option maxRecDepth 50000
theorem p_CheckStep (x : Stp) (hb : bulkL x.c <= 1073741824) : PCall Tryz.prog 158 [.agg x.c] (.int .i64 (ckS x)) := by
 refine pC h158_k rfl ?_
 simp only [Tryz.f158, go_sem]
 repeat' (first
  | (refine pK (p_formedStep _ hb) ?_; simp only [go_sem])
  | ((first | refine cS ?_ ?_ | refine gS ?_ ?_) <;> (intro hc; simp only [go_sem, hc])))
 all_goals (unfold ckS; simp_all)
theorem p_CheckProgram (l : List Stage) (hb : bulkL (lStage l) <= 1073741824) : PCall Tryz.prog 87 [.sl none (lStage l)] (.int .i64 (ckG l)) := by
 have hn := lStage_bn hb
 refine pC h87_k rfl ?_
 simp only [Tryz.f87, go_sem]
 repeat' (first
  | ((first | refine cS ?_ ?_ | refine gS ?_ ?_) <;> (intro hc; simp only [go_sem, hc])))
 ·unfold ckG; rw [if_pos (by have := of_decide_eq_true hc; omega)]
 ·have hg : ckG l = ckGo l := by unfold ckG; rw [if_neg (by have := of_decide_eq_false hc; omega)]
  refine awp_all l (fun r => ckGo r) (fun k => [(10, .sl none (lStage l)), (11, .int .i64 l.length), (12, .int .i64 k)]) (by omega) rfl ?_ ?_
  ·intro k x xs hd hx hF h0 h1 hw
   have hbx : bulkL x.c <= 1073741824 := by have := lStage_bk hb (List.mem_of_getElem? hx); simpa only [AV.bulk] using this
   simp only [go_sem, h0, h1, lStage_get hx]
   repeat' (first
    | ((first | refine pK (p_CheckPolicy _ (Stage.bs_policy hbx)) ?_ | refine pK (p_CheckStep _ (Stage.bs_step hbx)) ?_); simp only [go_sem, h0, h1, hw, lStage_get hx])
    | ((first | refine cS ?_ ?_ | refine gS ?_ ?_) <;> (intro hc; simp only [go_sem, hc, h0, h1, hw, lStage_get hx])))
   ·rw [hg, hF, ckGo, if_neg (by simpa using hc)]
   ·have h5 : ckO x.policy = 0 := by rename_i h5; simpa using h5
    rw [hg, hF, ckGo, if_pos h5, if_neg (by simpa using hc)]
   ·have h5 : ckO x.policy = 0 := by rename_i h5; simpa using h5
    rw [ckGo, if_pos h5, if_pos (by simpa using hc)]
  ·intro hF hlt
   simp only [go_sem, hlt, decide_false]
   rw [hg, hF]; rfl
end Go.AI
namespace Go.AI
open Go.Proofs
set_option maxRecDepth 50000
@[go_sem] theorem pset_end (H : Heap) (x y : Option (List AV)) : (H ++ [x]).set H.length y = H ++ [y] := by simp
def Iv (Pre : Nat -> Heap -> Prop) (n : Nat) (g : Heap) (k : Nat) (H : Heap) : Prop := ∃ pre g', H = pre ++ (g ++ g') /\ pre.length = n /\ Pre k pre
theorem Iv.grow {Pre : Nat -> Heap -> Prop} {n k : Nat} {g H : Heap} (h : Iv Pre n g k H) (x : Heap) : Iv Pre n g k (H ++ x) := by
 obtain ⟨pre, g', rfl, h1, h2⟩ := h
 exact ⟨pre, g' ++ x, by simp, h1, h2⟩
theorem Iv.at {Pre : Nat -> Heap -> Prop} {n k i : Nat} {g H : Heap} (h : Iv Pre n g k H) {c : Option (List AV)} (hi : g[i]? = some c) : H[n + i]? = some c := by
 obtain ⟨pre, g', rfl, h1, h2⟩ := h
 have hlt := (List.getElem?_eq_some_iff.1 hi).1
 rw [List.getElem?_append_right (by omega), h1, Nat.add_sub_cancel_left, List.getElem?_append_left hlt, hi]
theorem Iv.atG {Pre : Nat -> Heap -> Prop} {n k i : Nat} {g H x : Heap} (h : Iv Pre n g k H) {c : Option (List AV)} (hi : g[i]? = some c) : (H ++ x)[n + i]? = some c := (h.grow x).at hi
theorem Iv.of {Pre : Nat -> Heap -> Prop} {n k : Nat} {g g2 H : Heap} (h : Iv Pre n (g ++ g2) k H) : Iv Pre n g k H := by
 obtain ⟨pre, g', rfl, h1, h2⟩ := h
 exact ⟨pre, g2 ++ g', by simp, h1, h2⟩
theorem mem_ptsPs {x y : Pred} : ∀ {l : List Pred}, x ∈ l -> y ∈ ptsP x -> y ∈ ptsPs l
 | z :: l, hx, hy => by
  rw [ptsPs_cons]
  rcases List.mem_cons.1 hx with rfl | hx
  ·exact List.mem_append_left _ hy
  ·exact List.mem_append_right _ (mem_ptsPs hx hy)
theorem p_testsW (o a w n : Nat) (L : LoopRec) (Pre : Nat -> Heap -> Prop) (Qp : Heap -> Prop) (l : List Pred)
  (round : ∀ g k y H, l[k]? = some y -> Iv Pre n g k H -> YCall Tryz.prog o L [.agg (Pred.c y)] H fun v H' => (v = .bool true /\ Iv Pre n g (k + 1) H') \/ (v = .bool false /\ Iv (fun _ => Qp) n g 0 H')) :
  ∀ (x : Pred) (k : Nat) (H : Heap) (g : Heap) (rest : List Pred), g[a]? = some (some [.yld o L]) -> g[w]? = some (some [.fn (.func 251) [] [.ptr (n + a) 0, .ptr (n + w) 0]]) -> (∀ y ∈ ptsP x, y.args.length <= 9223372036854775807) -> l.drop k = ptsP x ++ rest -> Iv Pre n g k H ->
   ACall Tryz.prog 251 [.agg x.c, .ptr (n + a) 0, .ptr (n + w) 0] H fun v H' => (v = .bool true /\ Iv Pre n g (k + (ptsP x).length) H') \/ (v = .bool false /\ Iv (fun _ => Qp) n g 0 H') := by
 refine Pred.ind _ fun x ih => fun k H g rest ha hw hal hd hI => ?_
 have hl := hal x (by rw [ptsP_eq]; simp)
 have hk0 : l[k]? = some x := by
  have := congrArg (·[0]?) hd
  rw [ptsP_eq] at this
  simpa using this
 obtain ⟨pre, g', rfl, hn, hP⟩ := hI
 have hlen : (pre ++ (g ++ g')).length = n + (g ++ g').length := by simp; omega
 have hG : pre ++ (g ++ g') ++ [some x.c] = pre ++ ((g ++ g' ++ [some x.c]) ++ []) := by simp
 have hI1 : Iv Pre n (g ++ g' ++ [some x.c]) k (pre ++ (g ++ g') ++ [some x.c]) := ⟨pre, [], hG, hn, hP⟩
 have haG : (g ++ g' ++ [some x.c])[a]? = some (some [.yld o L]) := by
  have := (List.getElem?_eq_some_iff.1 ha).1
  rw [List.append_assoc, List.getElem?_append_left this]; exact ha
 have hwG : (g ++ g' ++ [some x.c])[w]? = some (some [.fn (.func 251) [] [.ptr (n + a) 0, .ptr (n + w) 0]]) := by
  have := (List.getElem?_eq_some_iff.1 hw).1
  rw [List.append_assoc, List.getElem?_append_left this]; exact hw
 have hxG : (g ++ g' ++ [some x.c])[(g ++ g').length]? = some (some x.c) := by simp
 have hdown : ∀ {Q : Nat -> Heap -> Prop} {k : Nat} {H : Heap}, Iv Q n (g ++ g' ++ [some x.c]) k H -> Iv Q n g k H := fun h => by
  rw [List.append_assoc] at h; exact h.of
 refine aC h251_k rfl ?_
 have h1 := hI1.at haG
 have h1x := hI1.at hxG
 have hr := round _ k x _ hk0 hI1
 generalize hGd : g ++ g' ++ [some x.c] = G at *
 generalize hH1 : pre ++ (g ++ g') ++ [some x.c] = H1 at *
 simp only [Tryz.f251, go_sem, hlen, hH1, h1, h1x]
 refine YCallK.intro hr fun v H' hr => ?_
 rcases hr with ⟨rfl, hi⟩ | ⟨rfl, hq⟩
 ·have h2 := hi.at hxG
  simp only [go_sem, Bool.not_true, h2]
  refine awp_lst x.args (fun (_ : Heap × Nat) (_ : List Pred) => ()) (fun i q => Iv Pre n G q.2 q.1 /\ q.2 + (ptsPs (x.args.drop i)).length = k + (ptsP x).length /\ l.drop q.2 = ptsPs (x.args.drop i) ++ rest) (fun i q => [(2, .ptr (n + w) 0), (12, .sl none (lPred x.args)), (13, .int .i64 x.args.length), (14, .int .i64 i)]) (fun i q => q.1) (H', k + 1) hl ⟨hi, ?_, ?_⟩ rfl rfl ?_ ?_
  ·rw [List.drop_zero, ptsP_eq, List.length_cons]; dsimp only; omega
  ·rw [List.drop_zero, <- List.drop_drop, hd, ptsP_eq]; rfl
  ·rintro i ⟨H2, k2⟩ y ys hdi hy ⟨hi2, hk2, hl2⟩ _ h0 h1 hwr
   have hm := List.mem_of_getElem? hy
   dsimp only at hi2 hk2 hl2 ⊢
   rw [hdi, ptsPs_cons] at hk2 hl2
   have hdi2 : x.args.drop (i + 1) = ys := by rw [<- List.drop_drop, hdi]; rfl
   have h3 := hi2.atG (x := [some y.c]) hwG
   simp only [go_sem, h0, h1, lPred_get hy, h3]
   refine ACallK.intro (ih y hm k2 (H2 ++ [some y.c]) G (ptsPs ys ++ rest) haG hwG (fun z hz => hal z ?_) (by rw [hl2, List.append_assoc]) (hi2.grow _)) fun v H3 hr3 => ?_
   ·rw [ptsP_eq]; exact List.mem_cons_of_mem _ (mem_ptsPs hm hz)
   rcases hr3 with ⟨rfl, hi3⟩ | ⟨rfl, hq3⟩
   ·simp only [go_sem, Bool.not_true, hwr]
    refine ⟨(H3, k2 + (ptsP y).length), ⟨hi3, ?_, ?_⟩, rfl, rfl⟩
    ·dsimp only; rw [hdi2]; rw [List.length_append] at hk2; omega
    ·dsimp only; rw [hdi2, <- List.drop_drop, hl2, List.append_assoc, List.drop_left]
   ·simp only [go_sem, Bool.not_false]
    exact .inr (hdown hq3)
  ·rintro ⟨H2, k2⟩ ⟨hi2, hk2, hl2⟩ _
   dsimp only at hi2 hk2 hl2 ⊢
   rw [List.drop_length, ptsPs_nil, List.length_nil, Nat.add_zero] at hk2
   subst hk2
   simp only [go_sem, Int.lt_irrefl, decide_false]
   exact .inl (hdown hi2)
 ·simp only [go_sem, Bool.not_false]
  exact .inr (hdown hq)
theorem mem_ptsOs {x y : Policy} : ∀ {l : List Policy}, x ∈ l -> y ∈ ptsO x -> y ∈ ptsOs l
 | z :: l, hx, hy => by
  rw [ptsOs_cons]
  rcases List.mem_cons.1 hx with rfl | hx
  ·exact List.mem_append_left _ hy
  ·exact List.mem_append_right _ (mem_ptsOs hx hy)
theorem p_partsW (o a w n : Nat) (L : LoopRec) (Pre : Nat -> Heap -> Prop) (Qp : Heap -> Prop) (l : List Policy)
  (round : ∀ g k y H, l[k]? = some y -> Iv Pre n g k H -> YCall Tryz.prog o L [.agg (Policy.c y)] H fun v H' => (v = .bool true /\ Iv Pre n g (k + 1) H') \/ (v = .bool false /\ Iv (fun _ => Qp) n g 0 H')) :
  ∀ (x : Policy) (k : Nat) (H : Heap) (g : Heap) (rest : List Policy), g[a]? = some (some [.yld o L]) -> g[w]? = some (some [.fn (.func 226) [] [.ptr (n + a) 0, .ptr (n + w) 0]]) -> (∀ y ∈ ptsO x, y.args.length <= 9223372036854775807) -> l.drop k = ptsO x ++ rest -> Iv Pre n g k H ->
   ACall Tryz.prog 226 [.agg x.c, .ptr (n + a) 0, .ptr (n + w) 0] H fun v H' => (v = .bool true /\ Iv Pre n g (k + (ptsO x).length) H') \/ (v = .bool false /\ Iv (fun _ => Qp) n g 0 H') := by
 refine Policy.ind _ fun x ih => fun k H g rest ha hw hal hd hI => ?_
 have hl := hal x (by rw [ptsO_eq]; simp)
 have hk0 : l[k]? = some x := by
  have := congrArg (·[0]?) hd
  rw [ptsO_eq] at this
  simpa using this
 obtain ⟨pre, g', rfl, hn, hP⟩ := hI
 have hlen : (pre ++ (g ++ g')).length = n + (g ++ g').length := by simp; omega
 have hG : pre ++ (g ++ g') ++ [some x.c] = pre ++ ((g ++ g' ++ [some x.c]) ++ []) := by simp
 have hI1 : Iv Pre n (g ++ g' ++ [some x.c]) k (pre ++ (g ++ g') ++ [some x.c]) := ⟨pre, [], hG, hn, hP⟩
 have haG : (g ++ g' ++ [some x.c])[a]? = some (some [.yld o L]) := by
  have := (List.getElem?_eq_some_iff.1 ha).1
  rw [List.append_assoc, List.getElem?_append_left this]; exact ha
 have hwG : (g ++ g' ++ [some x.c])[w]? = some (some [.fn (.func 226) [] [.ptr (n + a) 0, .ptr (n + w) 0]]) := by
  have := (List.getElem?_eq_some_iff.1 hw).1
  rw [List.append_assoc, List.getElem?_append_left this]; exact hw
 have hxG : (g ++ g' ++ [some x.c])[(g ++ g').length]? = some (some x.c) := by simp
 have hdown : ∀ {Q : Nat -> Heap -> Prop} {k : Nat} {H : Heap}, Iv Q n (g ++ g' ++ [some x.c]) k H -> Iv Q n g k H := fun h => by
  rw [List.append_assoc] at h; exact h.of
 refine aC h226_k rfl ?_
 have h1 := hI1.at haG
 have h1x := hI1.at hxG
 have hr := round _ k x _ hk0 hI1
 generalize hGd : g ++ g' ++ [some x.c] = G at *
 generalize hH1 : pre ++ (g ++ g') ++ [some x.c] = H1 at *
 simp only [Tryz.f226, go_sem, hlen, hH1, h1, h1x]
 refine YCallK.intro hr fun v H' hr => ?_
 rcases hr with ⟨rfl, hi⟩ | ⟨rfl, hq⟩
 ·have h2 := hi.at hxG
  simp only [go_sem, Bool.not_true, h2]
  refine awp_lst x.args (fun (_ : Heap × Nat) (_ : List Policy) => ()) (fun i q => Iv Pre n G q.2 q.1 /\ q.2 + (ptsOs (x.args.drop i)).length = k + (ptsO x).length /\ l.drop q.2 = ptsOs (x.args.drop i) ++ rest) (fun i q => [(2, .ptr (n + w) 0), (12, .sl none (lPolicy x.args)), (13, .int .i64 x.args.length), (14, .int .i64 i)]) (fun i q => q.1) (H', k + 1) hl ⟨hi, ?_, ?_⟩ rfl rfl ?_ ?_
  ·rw [List.drop_zero, ptsO_eq, List.length_cons]; dsimp only; omega
  ·rw [List.drop_zero, <- List.drop_drop, hd, ptsO_eq]; rfl
  ·rintro i ⟨H2, k2⟩ y ys hdi hy ⟨hi2, hk2, hl2⟩ _ h0 h1 hwr
   have hm := List.mem_of_getElem? hy
   dsimp only at hi2 hk2 hl2 ⊢
   rw [hdi, ptsOs_cons] at hk2 hl2
   have hdi2 : x.args.drop (i + 1) = ys := by rw [<- List.drop_drop, hdi]; rfl
   have h3 := hi2.atG (x := [some y.c]) hwG
   simp only [go_sem, h0, h1, lPolicy_get hy, h3]
   refine ACallK.intro (ih y hm k2 (H2 ++ [some y.c]) G (ptsOs ys ++ rest) haG hwG (fun z hz => hal z ?_) (by rw [hl2, List.append_assoc]) (hi2.grow _)) fun v H3 hr3 => ?_
   ·rw [ptsO_eq]; exact List.mem_cons_of_mem _ (mem_ptsOs hm hz)
   rcases hr3 with ⟨rfl, hi3⟩ | ⟨rfl, hq3⟩
   ·simp only [go_sem, Bool.not_true, hwr]
    refine ⟨(H3, k2 + (ptsO y).length), ⟨hi3, ?_, ?_⟩, rfl, rfl⟩
    ·dsimp only; rw [hdi2]; rw [List.length_append] at hk2; omega
    ·dsimp only; rw [hdi2, <- List.drop_drop, hl2, List.append_assoc, List.drop_left]
   ·simp only [go_sem, Bool.not_false]
    exact .inr (hdown hq3)
  ·rintro ⟨H2, k2⟩ ⟨hi2, hk2, hl2⟩ _
   dsimp only at hi2 hk2 hl2 ⊢
   rw [List.drop_length, ptsOs_nil, List.length_nil, Nat.add_zero] at hk2
   subst hk2
   simp only [go_sem, Int.lt_irrefl, decide_false]
   exact .inl (hdown hi2)
 ·simp only [go_sem, Bool.not_false]
  exact .inr (hdown hq)
theorem p_tests (x : Pred) (H : Heap) : ACall Tryz.prog 202 [.agg x.c] H (fun v H' => v = .fn (.func 250) [] [.ptr H.length 0] /\ H' = H ++ [some x.c]) := by
 refine aC h202_k rfl ?_
 simp only [Tryz.f202, go_sem]
theorem p_testsIt (x : Pred) (o p n : Nat) (L : LoopRec) (Pre : Nat -> Heap -> Prop) (Qp : Heap -> Prop) (H0 : Heap) (hn : H0.length = n) (h0 : Pre 0 H0) (hp : ∀ pre, Pre 0 pre -> pre[p]? = some (some x.c)) (hal : ∀ y ∈ ptsP x, y.args.length <= 9223372036854775807)
  (round : ∀ g k y H, (ptsP x)[k]? = some y -> Iv Pre n g k H -> YCall Tryz.prog o L [.agg (Pred.c y)] H fun v H' => (v = .bool true /\ Iv Pre n g (k + 1) H') \/ (v = .bool false /\ Iv (fun _ => Qp) n g 0 H'))
  (fin : ∀ pre, Pre (ptsP x).length pre -> Qp pre) : ACall Tryz.prog 250 [.yld o L, .ptr p 0] H0 (fun _ H' => ∃ pre g, H' = pre ++ g /\ pre.length = n /\ Qp pre) := by
 subst hn
 have hpx := hp H0 h0
 have hlt := (List.getElem?_eq_some_iff.1 hpx).1
 have e1 : ∀ z : Heap, (H0 ++ z)[p]? = some (some x.c) := fun z => by rw [List.getElem?_append_left hlt]; exact hpx
 refine aC h250_k rfl ?_
 have e2 : ∀ u v : Option (List AV), (H0 ++ [u, v])[H0.length + 1]? = some v := fun u v => by rw [List.getElem?_append_right (by omega), Nat.add_sub_cancel_left]; rfl
 have e3 : ∀ u v z : Option (List AV), (H0 ++ [u, v]).set (H0.length + 1) z = H0 ++ [u, z] := fun u v z => by rw [List.set_append_right _ _ (by omega), Nat.add_sub_cancel_left]; rfl
 simp only [Tryz.f250, go_sem, List.length_append, List.append_assoc, List.cons_append, List.nil_append, e1, e2, e3]
 refine ACallK.intro (p_testsW o 0 1 H0.length L Pre Qp (ptsP x) round x 0 _ [some [.yld o L], some [.fn (.func 251) [] [.ptr (H0.length + 0) 0, .ptr (H0.length + 1) 0]]] [] rfl rfl hal (by simp) ⟨H0, [], by simp, rfl, h0⟩) fun v H' hr => ?_
 simp only [go_sem]
 rcases hr with ⟨rfl, pre, g', rfl, h1, h2⟩ | ⟨rfl, pre, g', rfl, h1, h2⟩
 ·exact ⟨pre, _, rfl, h1, fin pre (by rwa [Nat.zero_add] at h2)⟩
 ·exact ⟨pre, _, rfl, h1, h2⟩
theorem p_parts (x : Policy) (H : Heap) : ACall Tryz.prog 159 [.agg x.c] H (fun v H' => v = .fn (.func 225) [] [.ptr H.length 0] /\ H' = H ++ [some x.c]) := by
 refine aC h159_k rfl ?_
 simp only [Tryz.f159, go_sem]
theorem p_partsIt (x : Policy) (o p n : Nat) (L : LoopRec) (Pre : Nat -> Heap -> Prop) (Qp : Heap -> Prop) (H0 : Heap) (hn : H0.length = n) (h0 : Pre 0 H0) (hp : ∀ pre, Pre 0 pre -> pre[p]? = some (some x.c)) (hal : ∀ y ∈ ptsO x, y.args.length <= 9223372036854775807)
  (round : ∀ g k y H, (ptsO x)[k]? = some y -> Iv Pre n g k H -> YCall Tryz.prog o L [.agg (Policy.c y)] H fun v H' => (v = .bool true /\ Iv Pre n g (k + 1) H') \/ (v = .bool false /\ Iv (fun _ => Qp) n g 0 H'))
  (fin : ∀ pre, Pre (ptsO x).length pre -> Qp pre) : ACall Tryz.prog 225 [.yld o L, .ptr p 0] H0 (fun _ H' => ∃ pre g, H' = pre ++ g /\ pre.length = n /\ Qp pre) := by
 subst hn
 have hpx := hp H0 h0
 have hlt := (List.getElem?_eq_some_iff.1 hpx).1
 have e1 : ∀ z : Heap, (H0 ++ z)[p]? = some (some x.c) := fun z => by rw [List.getElem?_append_left hlt]; exact hpx
 refine aC h225_k rfl ?_
 have e2 : ∀ u v : Option (List AV), (H0 ++ [u, v])[H0.length + 1]? = some v := fun u v => by rw [List.getElem?_append_right (by omega), Nat.add_sub_cancel_left]; rfl
 have e3 : ∀ u v z : Option (List AV), (H0 ++ [u, v]).set (H0.length + 1) z = H0 ++ [u, z] := fun u v z => by rw [List.set_append_right _ _ (by omega), Nat.add_sub_cancel_left]; rfl
 simp only [Tryz.f225, go_sem, List.length_append, List.append_assoc, List.cons_append, List.nil_append, e1, e2, e3]
 refine ACallK.intro (p_partsW o 0 1 H0.length L Pre Qp (ptsO x) round x 0 _ [some [.yld o L], some [.fn (.func 226) [] [.ptr (H0.length + 0) 0, .ptr (H0.length + 1) 0]]] [] rfl rfl hal (by simp) ⟨H0, [], by simp, rfl, h0⟩) fun v H' hr => ?_
 simp only [go_sem]
 rcases hr with ⟨rfl, pre, g', rfl, h1, h2⟩ | ⟨rfl, pre, g', rfl, h1, h2⟩
 ·exact ⟨pre, _, rfl, h1, fin pre (by rwa [Nat.zero_add] at h2)⟩
 ·exact ⟨pre, _, rfl, h1, h2⟩
end Go.AI
namespace Go.AI
open Go.Proofs
set_option maxRecDepth 50000
theorem p_port : PCall Tryz.prog 227 [] (.agg fldPort.c) := by
 have h : PCall Tryz.prog 227 [] (.agg fldPort.c) := PCall.run evOk0 100 rfl (by kernel_rfl) (by kernel_rfl)
 exact h
theorem p_Find1 {H : Heap} (f : Fld) (s : ByteArray) (o : Nat) (ho : H[o]? = some (some [.str s])) : SCall Tryz.prog 229 [.agg f.c, .ptr o 0] H (.bool (decide (f.name = s))) := by
 refine ACall.drop rfl ?_
 refine aC h229_k rfl ?_
 have ho' : ∀ z, (H ++ z)[o]? = some (some [.str s]) := fun z => by
  have := (List.getElem?_eq_some_iff.1 ho).1
  rw [List.getElem?_append_left this]; exact ho
 simp only [Tryz.f229, go_sem, ho', toList_beq]
theorem idx_find {α : Type} (p : α -> Bool) : ∀ (l : List α) (i : Nat), match l.find? p with
  | some x => ∃ k, idxGo p i l = (i + k : Nat) /\ l[k]? = some x
  | none => idxGo p i l = -1
 | [], i => rfl
 | y :: l, i => by
  rw [List.find?_cons, idxGo]
  cases h : p y with
  | true => exact ⟨0, by simp, rfl⟩
  | false =>
   have := idx_find p l (i + 1)
   cases hf : l.find? p with
   | none => rw [hf] at this; simpa using this
   | some x =>
    rw [hf] at this
    obtain ⟨k, h1, h2⟩ := this
    exact ⟨k + 1, by simp only [Bool.false_eq_true, if_false]; rw [h1]; congr 1; omega, by simpa using h2⟩
theorem p_Find (l : List Fld) (hl : l.length <= 9223372036854775807) (s : ByteArray) : PCall Tryz.prog 160 [.sl none (lFld l), .str s] (.tup [.agg (findF l s).1.c, .bool (findF l s).2]) := by
 have hi := idx_find (fun f : Fld => decide (f.name = s)) l 0
 have hport : (fldPort.name : ByteArray) = portS := rfl
 have hidx := p_IndexFld (H := [some [.str s], some Fld.z.c]) l hl 229 [] [.ptr 0 0] (fun f => decide (f.name = s)) (fun x _ => p_Find1 x s 0 rfl)
 refine pB h160_k rfl ?_
 cases hf : l.find? (fun f : Fld => decide (f.name = s)) with
 | none =>
  rw [hf] at hi
  have hi : idxI (fun f : Fld => decide (f.name = s)) l = -1 := hi
  rw [hi] at hidx
  simp only [Tryz.f160, go_sem, toList_beq]
  repeat' (first
   | ((first | refine pK (p_port) ?_ | refine aS (hidx) ?_); simp only [go_sem, toList_beq])
   | ((first | refine cS ?_ ?_ | refine gS ?_ ?_) <;> (intro hc; simp only [go_sem, hc, toList_beq])))
  ·have h5 : s = portS := by rw [<- hport]; exact of_decide_eq_true hc
   rw [findF, if_pos h5]
  ·have h5 : ¬ s = portS := by rw [<- hport]; exact of_decide_eq_false hc
   rw [findF, if_neg h5, hf]
 | some x =>
  rw [hf] at hi
  obtain ⟨k, hk, hx⟩ := hi
  have hk : idxI (fun f : Fld => decide (f.name = s)) l = ((0 + k : Nat) : Int) := hk
  rw [hk, Nat.zero_add] at hidx
  have g1 : ¬ ((k : Int) < 0) := by omega
  have g2 : (0 : Int) <= (k : Int) := by omega
  simp only [Tryz.f160, go_sem, toList_beq]
  repeat' (first
   | ((first | refine pK (p_port) ?_ | refine aS (hidx) ?_); simp only [go_sem, toList_beq, g1, g2, lFld_get hx, decide_false])
   | ((first | refine cS ?_ ?_ | refine gS ?_ ?_) <;> (intro hc; simp only [go_sem, hc, toList_beq, g1, g2, lFld_get hx, decide_false])))
  ·have h5 : s = portS := by rw [<- hport]; exact of_decide_eq_true hc
   rw [findF, if_pos h5]
  ·have h5 : ¬ s = portS := by rw [<- hport]; exact of_decide_eq_false hc
   rw [findF, if_neg h5, hf]
@[go_sem] theorem binK_shlK {P : Program} {t : TypeId} {k k' : IntKind} {x y : Int} {d : Tmp} {K : Kt} {e : Env} {H : Heap} : binK P .shl t (.int k x) (.int k' y) d K e H = (0 <= y /\ K ((d, .int k (k.wrap (x * 2 ^ (min y.toNat k.bits)))) :: e) H) := by
 rw [binK_int]; simp [abin]
theorem max_small : ∀ n : Nat, n < 17 -> IntKind.i64.wrap (IntKind.i64.wrap (1 * 2 ^ (min n IntKind.i64.bits)) - 1) = i64 (powW n - 1) := by
 decide
theorem p_Max (f : Fld) (h0 : 0 <= f.width) (h1 : f.width <= 16) : PCall Tryz.prog 161 [.agg f.c] (.int .i64 (maxF f)) := by
 have hm := max_small f.width.toNat (by omega)
 refine pC h161_k rfl ?_
 simp only [Tryz.f161, go_sem, h0]
 rw [maxF, <- hm]; rfl
end Go.AI
namespace Go.AI
open Go.Proofs
set_option maxRecDepth 50000
theorem fmP_pts : ∀ x : Pred, fmP x = true -> ∀ y ∈ ptsP x, fmP y = true := by
 refine Pred.ind _ fun x ih => fun h y hy => ?_
 rw [ptsP_eq] at hy
 rcases List.mem_cons.1 hy with rfl | hy
 ·exact h
 rw [fmP_eq, Bool.and_eq_true] at h
 have : ∀ l : List Pred, (∀ z ∈ l, z ∈ x.args) -> fmPs l = true -> ∀ y ∈ ptsPs l, fmP y = true := by
  intro l
  induction l with
  | nil => intro _ _ y hy; rw [ptsPs_nil] at hy; cases hy
  | cons z l ihl =>
   intro hs hf y hy
   rw [fmPs_cons, Bool.and_eq_true] at hf
   rw [ptsPs_cons] at hy
   rcases List.mem_append.1 hy with hy | hy
   ·exact ih z (hs z (by simp)) hf.1 y hy
   ·exact ihl (fun w hw => hs w (by simp [hw])) hf.2 y hy
 exact this x.args (fun _ h => h) h.2 y hy
@[go_sem] theorem two_snd {α : Type} (G : List α) (a b : α) : (G ++ [a, b])[(G ++ [a]).length]? = some b := by
 rw [List.length_append, List.getElem?_append_right (by simp)]; simp
@[go_sem] theorem two_fst {α : Type} (G : List α) (a b : α) : (G ++ [a, b])[G.length]? = some a := by
 rw [List.getElem?_append_right (Nat.le_refl _)]; simp
@[go_sem] theorem two_set {α : Type} (G : List α) (a b z : α) : (G ++ [a, b]).set (G ++ [a]).length z = G ++ [a, z] := by
 rw [List.length_append, List.set_append_right _ _ (by simp)]; simp
theorem fnB_empty : fnB ⟨#[]⟩ = false := by decide
theorem fm_field {y : Pred} (h : fmP y = true) : (y.field = ⟨#[]⟩ -> y.kind ≠ 3 /\ y.kind ≠ 4 /\ y.kind ≠ 5) /\ (y.field ≠ ⟨#[]⟩ -> y.kind = 3 \/ y.kind = 4 \/ y.kind = 5) := by
 rw [fmP_eq, Bool.and_eq_true, Bool.and_eq_true] at h
 have ho := h.1.1
 have he := fnB_empty
 constructor
 ·intro hf
  unfold okP at ho
  rw [hf, he] at ho
  grind
 ·intro hf
  unfold okP noneP at ho
  grind
theorem findF_w16 {l : List Fld} (hok : ∀ f ∈ l, 0 <= f.width /\ f.width <= 16) (s : ByteArray) : 0 <= (findF l s).1.width /\ (findF l s).1.width <= 16 := by
 unfold findF
 split
 ·decide
 ·split
  ·rename_i f hf
   exact hok f (List.mem_of_find?_eq_some hf)
  ·decide
def fitB (l : List Fld) (x : Pred) (r st : Int) : Heap := [some [.sl none (lFld l)], some x.c, some [.int .i64 r], some x.c, some (loopc st (frameVals 49 [(2, .ptr 0 0), (4, .ptr 2 0), (10, .fn (.func 250) [] [.ptr 3 0])]))]
set_option maxHeartbeats 2000000 in
theorem p_fits (l : List Fld) (hl : l.length <= 9223372036854775807) (hok : ∀ f ∈ l, 0 <= f.width /\ f.width <= 16) (x : Pred) (hb : bulkL x.c <= 1073741824) (hfm : fmP x = true) : PCall Tryz.prog 136 [.sl none (lFld l), .agg x.c] (.int .i64 (fitA l x)) := by
  have hargs : ∀ y ∈ ptsP x, y.args.length <= 9223372036854775807 := fun y hy => Nat.le_trans (lPred_bn (Pred.bl_args (Nat.le_trans (ptsP_bulk x y hy) hb))) (by decide)
  refine pC h136_k rfl ?_
  simp only [Tryz.f136, go_sem]
  refine ACallK.intro (p_tests x _) fun v H' hr => ?_
  obtain ⟨rfl, rfl⟩ := hr
  simp only [go_sem]
  refine rfK_intro (tag := 136) rfl (ACall.mono (p_testsIt x 4 3 5 _ (fun k pre => pre = fitB l x 0 0 /\ fitGo l (ptsP x) = fitGo l ((ptsP x).drop k)) (fun pre => (pre = fitB l x 0 0 /\ fitA l x = 0) \/ ∃ r, pre = fitB l x r (-2) /\ fitA l x = r) (fitB l x 0 0) rfl ⟨rfl, rfl⟩ ?_ hargs ?_ ?_) fun v H2 hq => ?_)
  · rintro pre ⟨rfl, _⟩; rfl
  · rintro g k y H hy ⟨pre, g', rfl, hn, rfl, hF⟩
    have hmy := List.mem_of_getElem? hy
    have hfy := fmP_pts x hfm y hmy
    obtain ⟨f1, f2⟩ := fm_field hfy
    have hd : (ptsP x).drop k = y :: (ptsP x).drop (k + 1) := by
      obtain ⟨hlt, rfl⟩ := List.getElem?_eq_some_iff.1 hy
      exact List.drop_eq_getElem_cons hlt
    rw [hd, fitGo] at hF
    have hw := findF_w16 hok y.field
    refine ycall_of_awp (h := h136) (n := 49) mixed rfl ⟨by kernel_rfl, by kernel_rfl⟩ (by decide) _ _ _ _ rfl rfl rfl ?_
    show awp _ _ _ _ _ _ [(11, .agg y.c), (0, .undef), (1, .undef), (2, .ptr 0 0), (3, .undef), (4, .ptr 2 0), (5, .undef), (6, .undef), (7, .undef), (8, .undef), (9, .undef), (10, .fn (.func 250) [] [.ptr 3 0]), (11, .undef), (12, .undef), (13, .undef), (14, .undef), (15, .undef), (16, .undef), (17, .undef), (18, .undef), (19, .undef), (20, .undef), (21, .undef), (22, .undef), (23, .undef), (24, .undef), (25, .undef), (26, .undef), (27, .undef), (28, .undef), (29, .undef), (30, .undef), (31, .undef), (32, .undef), (33, .undef), (34, .undef), (35, .undef), (36, .undef), (37, .undef), (38, .undef), (39, .undef), (40, .undef), (41, .undef), (42, .undef), (43, .undef), (44, .undef), (45, .undef), (46, .undef), (47, .undef), (48, .undef)] _
    generalize hG : g ++ g' = G
    by_cases hf : y.field = ⟨#[]⟩
    · have hz : fitP l y = 0 := by unfold fitP; obtain ⟨a1, a2, a3⟩ := f1 hf; rw [if_pos ⟨a1, a2, a3⟩]
      simp only [go_sem, toList_beq, hf, decide_true, fitB]
      exact ⟨_, rfl, _, rfl, .inl ⟨fitB l x 0 0, g' ++ [some y.c], by rw [<- hG]; simp [fitB], rfl, rfl, by rw [hF, if_pos hz]⟩⟩
    · have hd2 : decide (y.field = ⟨#[]⟩) = false := by simp [hf]
      simp only [go_sem, fitB, toList_beq, hd2]
      refine ⟨_, rfl, ?_⟩
      repeat' (first
        | ((first | refine pK (p_Find l hl _) ?_ | refine pK (p_Max _ hw.1 hw.2) ?_); simp only [go_sem, toList_beq])
        | ((first | refine cS ?_ ?_ | refine gS ?_ ?_) <;> (intro hc; simp only [go_sem, hc, toList_beq])))
      all_goals have hkd := f2 hf
      all_goals first
        | (exfalso; clear hF hy hd hn hG hargs hmy; grind)
        | (have hz : fitP l y = 0 := by grind [fitP]
           exact ⟨_, rfl, .inl ⟨fitB l x 0 0, g' ++ [some y.c, some (findF l y.field).1.c], by rw [<- hG]; simp [fitB], rfl, rfl, by rw [hF, if_pos hz]⟩⟩)
        | (have hz : fitP l y = 4 := by grind [fitP]
           exact ⟨_, rfl, .inr ⟨fitB l x 4 (-2), g' ++ [some y.c, some (findF l y.field).1.c], by rw [<- hG]; simp [fitB], rfl, .inr ⟨4, rfl, by rw [fitA, hF, hz]; rfl⟩⟩⟩)
        | (have hz : fitP l y = 1 := by grind [fitP]
           exact ⟨_, rfl, .inr ⟨fitB l x 1 (-2), g' ++ [some y.c, some (findF l y.field).1.c], by rw [<- hG]; simp [fitB], rfl, .inr ⟨1, rfl, by rw [fitA, hF, hz]; rfl⟩⟩⟩)
        | skip
  · rintro pre ⟨rfl, hF⟩
    refine .inl ⟨rfl, ?_⟩
    rw [fitA, hF, List.drop_length]; rfl
  · obtain ⟨pre, g, rfl, hn, hq⟩ := hq
    rcases hq with ⟨rfl, h⟩ | ⟨r, rfl, h⟩
    · refine ⟨0, _, rfl, .inl ⟨rfl, ?_⟩⟩
      show blkK 0 _ .normal _ (some [.sl none (lFld l)] :: some x.c :: some [.int .i64 0] :: some x.c :: none :: g)
      simp only [go_sem, h]
    · refine ⟨-2, _, rfl, .inr (.inl ⟨rfl, ?_⟩)⟩
      show blkK 0 _ .ret _ (some [.sl none (lFld l)] :: some x.c :: some [.int .i64 r] :: some x.c :: none :: g)
      simp only [go_sem, h]
end Go.AI
namespace Go.AI
open Go.Proofs
set_option maxRecDepth 50000
theorem fmE_0 {z : Sizes} {b : Bool} (h : fmE z b = 0) : b = true := by
 unfold fmE at h
 split at h
 ·split at h
  ·assumption
  ·cases h
 ·rename_i h2; exact absurd h h2
theorem fmO_pts : ∀ x : Policy, fmO x = true -> ∀ y ∈ ptsO x, fmO y = true := by
 refine Policy.ind _ fun x ih => fun h y hy => ?_
 rw [ptsO_eq] at hy
 rcases List.mem_cons.1 hy with rfl | hy
 ·exact h
 rw [fmO_eq, Bool.and_eq_true] at h
 have : ∀ l : List Policy, (∀ z ∈ l, z ∈ x.args) -> fmOs l = true -> ∀ y ∈ ptsOs l, fmO y = true := by
  intro l
  induction l with
  | nil => intro _ _ y hy; rw [ptsOs_nil] at hy; cases hy
  | cons z l ihl =>
   intro hs hf y hy
   rw [fmOs_cons, Bool.and_eq_true] at hf
   rw [ptsOs_cons] at hy
   rcases List.mem_append.1 hy with hy | hy
   ·exact ih z (hs z (by simp)) hf.1 y hy
   ·exact ihl (fun w hw => hs w (by simp [hw])) hf.2 y hy
 exact this x.args (fun _ h => h) h.2 y hy
theorem fm_pol {y : Policy} (h : fmO y = true) (h1 : y.kind = 1) : fmP y.pred = true := by
 rw [fmO_eq, Bool.and_eq_true, Bool.and_eq_true] at h
 have ho := h.1.1
 unfold okO at ho
 rw [if_pos h1] at ho
 simp only [Bool.and_eq_true] at ho
 exact ho.1
def polB (l : List Fld) (x : Policy) (r st : Int) : Heap := [some [.sl none (lFld l)], some x.c, some [.int .i64 r], some x.c, some (loopc st (frameVals 47 [(2, .ptr 0 0), (4, .ptr 2 0), (16, .fn (.func 225) [] [.ptr 3 0])]))]
set_option maxHeartbeats 2000000 in
theorem p_tPolicy (l : List Fld) (hl : l.length <= 9223372036854775807) (hok : ∀ f ∈ l, 0 <= f.width /\ f.width <= 16) (x : Policy) (hb : bulkL x.c <= 1073741824) : PCall Tryz.prog 88 [.sl none (lFld l), .agg x.c] (.int .i64 (ckTO l x)) := by
  have hbp : ∀ y ∈ ptsO x, bulkL y.c <= 1073741824 := fun y hy => Nat.le_trans (ptsO_bulk x y hy) hb
  have hargs : ∀ y ∈ ptsO x, y.args.length <= 9223372036854775807 := fun y hy => Nat.le_trans (lPolicy_bn (Policy.bl_args (hbp y hy))) (by decide)
  refine pC h88_k rfl ?_
  simp only [Tryz.f88, go_sem]
  repeat' (first
    | (refine pK (p_CheckPolicy x hb) ?_; simp only [go_sem])
    | ((first | refine cS ?_ ?_ | refine gS ?_ ?_) <;> (intro hc; simp only [go_sem, hc])))
  · rw [ckTO, if_neg (by simpa using hc)]
  · have h0 : ckO x = 0 := by simpa using hc
    have hfm : fmO x = true := fmE_0 h0
    have hT : ckTO l x = polGo l (ptsO x) := by rw [ckTO, if_pos h0]
    refine ACallK.intro (p_parts x _) fun v H' hr => ?_
    obtain ⟨rfl, rfl⟩ := hr
    simp only [go_sem]
    refine rfK_intro (tag := 88) rfl (ACall.mono (p_partsIt x 4 3 5 _ (fun k pre => pre = polB l x 0 0 /\ polGo l (ptsO x) = polGo l ((ptsO x).drop k)) (fun pre => (pre = polB l x 0 0 /\ ckTO l x = 0) \/ ∃ r, pre = polB l x r (-2) /\ ckTO l x = r) (polB l x 0 0) rfl ⟨rfl, rfl⟩ ?_ hargs ?_ ?_) fun v H2 hq => ?_)
    · rintro pre ⟨rfl, _⟩; rfl
    · rintro g k y H hy ⟨pre, g', rfl, hn, rfl, hF⟩
      have hmy := List.mem_of_getElem? hy
      have hfy := fmO_pts x hfm y hmy
      have hd : (ptsO x).drop k = y :: (ptsO x).drop (k + 1) := by
        obtain ⟨hlt, rfl⟩ := List.getElem?_eq_some_iff.1 hy
        exact List.drop_eq_getElem_cons hlt
      rw [hd, polGo] at hF
      have hw := findF_w16 hok y.field
      have hby := hbp y hmy
      refine ycall_of_awp (h := h88) (n := 47) mixed rfl ⟨by kernel_rfl, by kernel_rfl⟩ (by decide) _ _ _ _ rfl rfl rfl ?_
      show awp _ _ _ _ _ _ [(17, .agg y.c), (0, .undef), (1, .undef), (2, .ptr 0 0), (3, .undef), (4, .ptr 2 0), (5, .undef), (6, .undef), (7, .undef), (8, .undef), (9, .undef), (10, .undef), (11, .undef), (12, .undef), (13, .undef), (14, .undef), (15, .undef), (16, .fn (.func 225) [] [.ptr 3 0]), (17, .undef), (18, .undef), (19, .undef), (20, .undef), (21, .undef), (22, .undef), (23, .undef), (24, .undef), (25, .undef), (26, .undef), (27, .undef), (28, .undef), (29, .undef), (30, .undef), (31, .undef), (32, .undef), (33, .undef), (34, .undef), (35, .undef), (36, .undef), (37, .undef), (38, .undef), (39, .undef), (40, .undef), (41, .undef), (42, .undef), (43, .undef), (44, .undef), (45, .undef), (46, .undef)] _
      generalize hG : g ++ g' = G
      by_cases k1 : y.kind = 1
      · have c1 : (y.kind == 1) = true := by simp [k1]
        have hp := p_fits l hl hok y.pred (Policy.bs_pred hby) (fm_pol hfy k1)
        have he : polE l y = fitA l y.pred := by rw [polE, if_pos k1]
        simp only [go_sem, polB, c1]
        refine ⟨_, rfl, ?_⟩
        repeat' (first
          | (refine pK (hp) ?_; simp only [go_sem])
          | ((first | refine cS ?_ ?_ | refine gS ?_ ?_) <;> (intro hc; simp only [go_sem, hc])))
        · have hne : polE l y ≠ 0 := by rw [he]; simpa using hc
          exact ⟨_, rfl, .inr ⟨polB l x (fitA l y.pred) (-2), g' ++ [some y.c], by rw [<- hG]; simp [polB], rfl, .inr ⟨_, rfl, by rw [hT, hF, if_neg hne, he]⟩⟩⟩
        · have hz : polE l y = 0 := by rw [he]; simpa using hc
          exact ⟨_, rfl, .inl ⟨polB l x 0 0, g' ++ [some y.c], by rw [<- hG]; simp [polB], rfl, rfl, by rw [hF, if_pos hz]⟩⟩
      · have c1 : (y.kind == 1) = false := by simp [k1]
        by_cases k2 : y.kind = 2
        · have c2 : (y.kind == 2) = true := by simp [k2]
          simp only [go_sem, polB, c1, c2]
          refine ⟨_, rfl, ?_⟩
          repeat' (first
            | ((first | refine pK (p_Find l hl _) ?_ | refine pK (p_Max _ hw.1 hw.2) ?_); simp only [go_sem])
            | ((first | refine cS ?_ ?_ | refine gS ?_ ?_) <;> (intro hc; simp only [go_sem, hc])))
          all_goals first
            | (have hz : polE l y = 0 := by grind [polE]
               exact ⟨_, rfl, .inl ⟨polB l x 0 0, g' ++ [some y.c, some (findF l y.field).1.c], by rw [<- hG]; simp [polB], rfl, rfl, by rw [hF, if_pos hz]⟩⟩)
            | (have hz : polE l y = 4 := by grind [polE]
               exact ⟨_, rfl, .inr ⟨polB l x 4 (-2), g' ++ [some y.c, some (findF l y.field).1.c], by rw [<- hG]; simp [polB], rfl, .inr ⟨4, rfl, by rw [hT, hF, hz]; rfl⟩⟩⟩)
            | (have hz : polE l y = 1 := by grind [polE]
               exact ⟨_, rfl, .inr ⟨polB l x 1 (-2), g' ++ [some y.c, some (findF l y.field).1.c], by rw [<- hG]; simp [polB], rfl, .inr ⟨1, rfl, by rw [hT, hF, hz]; rfl⟩⟩⟩)
            | skip
        · have c2 : (y.kind == 2) = false := by simp [k2]
          have hz : polE l y = 0 := by rw [polE, if_neg k1, if_neg k2]
          simp only [go_sem, polB, c1, c2]
          exact ⟨_, rfl, _, rfl, .inl ⟨polB l x 0 0, g' ++ [some y.c], by rw [<- hG]; simp [polB], rfl, rfl, by rw [hF, if_pos hz]⟩⟩
    · rintro pre ⟨rfl, hF⟩
      refine .inl ⟨rfl, ?_⟩
      rw [hT, hF, List.drop_length]; rfl
    · obtain ⟨pre, g, rfl, hn, hq⟩ := hq
      rcases hq with ⟨rfl, h⟩ | ⟨r, rfl, h⟩
      · refine ⟨0, _, rfl, .inl ⟨rfl, ?_⟩⟩
        show blkK 0 _ .normal _ (some [.sl none (lFld l)] :: some x.c :: some [.int .i64 0] :: some x.c :: none :: g)
        simp only [go_sem, h]
      · refine ⟨-2, _, rfl, .inr (.inl ⟨rfl, ?_⟩)⟩
        show blkK 0 _ .ret _ (some [.sl none (lFld l)] :: some x.c :: some [.int .i64 r] :: some x.c :: none :: g)
        simp only [go_sem, h]
end Go.AI
namespace Go.AI
open Go.Proofs
set_option maxRecDepth 50000
def idxS (s : ByteArray) : Nat -> List ByteArray -> Int
 | _, [] => -1
 | i, x :: l => if decide (x = s) then (i : Int) else idxS s (i + 1) l
theorem idxS_any (s : ByteArray) : ∀ (l : List ByteArray) (i : Nat), decide (0 <= idxS s i l) = l.any (fun z => decide (z = s))
 | [], i => rfl
 | x :: l, i => by
  rw [idxS, List.any_cons]
  cases h : decide (x = s) with
  | true => simp
  | false => simp [idxS_any s l (i + 1)]
theorem p_IdxS (l : List ByteArray) (hl : l.length <= 9223372036854775807) (s : ByteArray) : PCall Tryz.prog 198 [.sl none (lStr l), .str s] (.int .i64 (idxS s 0 l)) := by
 refine pC h198_k rfl ?_
 simp only [Tryz.f198, go_sem]
 refine awp_all l (fun r => idxS s (l.length - r.length) r) (fun k => [(0, .sl none (lStr l)), (1, .str s), (7, .int .i64 l.length), (8, .int .i64 k)]) hl rfl ?_ ?_
 ·intro k x xs hd hx hF h0 h1 hw
  have hk2 := drop_len hd
  have e1 : l.length - (xs.length + 1) = k := by omega
  have e2 : l.length - xs.length = k + 1 := by omega
  simp only [List.length_cons, e1, Nat.sub_self] at hF
  simp only [go_sem, h0, h1, lStr_get hx, e1, e2, toList_beq]
  repeat' (first
   | ((first | refine cS ?_ ?_ | refine gS ?_ ?_) <;> (intro hc; simp only [go_sem, hc, h0, h1, hw, lStr_get hx, e1, e2, toList_beq])))
  ·rw [hF, idxS, if_pos (by rw [of_decide_eq_true hc]; simp)]
  ·rw [idxS, if_neg (by have := of_decide_eq_false hc; simp; exact fun h => this h.symm)]
 ·intro hF hlt
  simp only [go_sem, hlt, decide_false]
  rw [Nat.sub_self] at hF
  rw [hF]; rfl
theorem p_ContS (l : List ByteArray) (hl : l.length <= 9223372036854775807) (s : ByteArray) : PCall Tryz.prog 134 [.sl none (lStr l), .str s] (.bool (l.any fun z => decide (z = s))) := by
 refine pC h134_k rfl ?_
 simp only [Tryz.f134, go_sem]
 repeat' (first
  | (refine pK (p_IdxS l hl s) ?_; simp only [go_sem])
  | ((first | refine cS ?_ ?_ | refine gS ?_ ?_) <;> (intro hc; simp only [go_sem, hc])))
 rw [idxS_any]
theorem p_known1 {H : Heap} (l : List Fld) (hl : l.length <= 9223372036854775807) (o : Nat) (ho : H[o]? = some (some [.sl none (lFld l)])) (s : ByteArray) : SCall Tryz.prog 162 [.str s, .ptr o 0] H (.bool (findF l s).2) := by
 refine ACall.drop rfl ?_
 refine aC h162_k rfl ?_
 simp only [Tryz.f162, go_sem, ho]
 repeat' (first
  | (refine pK (p_Find l hl s) ?_; simp only [go_sem, ho])
  | ((first | refine cS ?_ ?_ | refine gS ?_ ?_) <;> (intro hc; simp only [go_sem, hc, ho])))
theorem p_each {H : Heap} (l : List ByteArray) (hl : l.length <= 9223372036854775807) (g : FuncId) (ca : List AV) (p : ByteArray -> Bool) (hca : ca.map AV.borrow = ca)
  (h : ∀ x ∈ l, ∀ z, SCall Tryz.prog g (.str x :: ca) (H ++ z) (.bool (p x))) : SCall Tryz.prog 163 [.sl none (lStr l), .fn (.func g) [] ca] H (.bool (l.all p)) := by
 refine ACall.drop rfl ?_
 have h1 : ∀ x ∈ l, SCall Tryz.prog 231 [.str x, .ptr H.length 0] (H ++ [some [.fn (.func g) [] ca]]) (.bool (!p x)) := by
  intro x hx
  refine ACall.drop rfl ?_
  refine aC h231_k rfl ?_
  have hh := h x hx [some [.fn (.func g) [] ca]]
  simp only [Tryz.f231, go_sem, List.getElem?_concat_length, hca]
  repeat' (first
   | (refine aS (hh) ?_; simp only [go_sem])
   | ((first | refine cS ?_ ?_ | refine gS ?_ ?_) <;> (intro hc; simp only [go_sem, hc])))
  exact ⟨[], by simp⟩
 refine aC h163_k rfl ?_
 simp only [Tryz.f163, go_sem]
 repeat' (first
  | (refine aS (p_ContainsStr l hl 231 [] [.ptr H.length 0] (fun x => !p x) h1) ?_; simp only [go_sem, any_not])
  | ((first | refine cS ?_ ?_ | refine gS ?_ ?_) <;> (intro hc; simp only [go_sem, hc, any_not])))
theorem names_all (l : List Fld) (s : Stp) : (namesS s).all (fun y => (findF l y).2) = (s.key.all (fun y => (findF l y).2) && (decide (s.field = ⟨#[]⟩) || (findF l s.field).2)) := by
 unfold namesS
 by_cases h : s.field = ⟨#[]⟩
 ·rw [if_pos h]; simp [h]
 ·rw [if_neg h, List.all_append]; simp [h]
set_option maxHeartbeats 2000000 in
theorem p_tStep (l : List Fld) (hl : l.length <= 9223372036854775807) (hok : ∀ f ∈ l, 0 <= f.width /\ f.width <= 16) (x : Stp) (hb : bulkL x.c <= 1073741824) : PCall Tryz.prog 89 [.sl none (lFld l), .agg x.c] (.int .i64 (ckTS l x)) := by
  have hk : x.key.length <= 1073741824 := lStr_bn (Stp.bl_key hb)
  have hw := findF_w16 hok x.field
  have hna := names_all l x
  have hes : ∀ z, SCall Tryz.prog 163 [.sl none (lStr x.key), .fn (.func 162) [] [.ptr 0 0]] ([some [.sl none (lFld l)], some x.c] ++ z) (.bool (x.key.all fun y => (findF l y).2)) := fun z =>
    p_each x.key (by omega) 162 [.ptr 0 0] (fun y => (findF l y).2) rfl fun y _ z2 => p_known1 l hl 0 rfl y
  have hk1 : ∀ z, SCall Tryz.prog 162 [.str x.field, .ptr 0 0] ([some [.sl none (lFld l)], some x.c] ++ z) (.bool (findF l x.field).2) := fun z => p_known1 l hl 0 rfl x.field
  have he0 := hes []
  have hk0 := hk1 []
  refine pC h89_k rfl ?_
  simp only [Tryz.f89, go_sem, toList_beq]
  repeat' (first
    | ((first | refine pK (p_CheckStep x hb) ?_ | refine aS (hk0) ?_ | refine aS (he0) ?_); simp only [go_sem, toList_beq])
    | ((first | refine cS ?_ ?_ | refine gS ?_ ?_) <;> (intro hc; simp only [go_sem, hc, toList_beq])))
  all_goals first
    | (rw [ckTS, if_pos (by first | exact .inr (by simpa using hc) | exact .inl (by simpa using hc))]; done)
    | skip
  all_goals
    have n0 : ¬ (ckS x ≠ 0 \/ x.kind = 0) := by
      rintro (h | h)
      · simp_all
      · simp_all
  all_goals first
    | (have n1 : (!(namesS x).all (fun y => (findF l y).2)) = true := by rw [hna]; simp_all
       rw [ckTS, if_neg n0, if_pos n1]; done)
    | skip
  all_goals
    have n1 : ¬ (!(namesS x).all (fun y => (findF l y).2)) = true := by rw [hna]; simp_all
    have hT : ckTS l x = if !apartGo x.key 0 x.key then 1 else if x.kind = 4 /\ maxF (findF l x.field).1 < x.m then 1 else 0 := by rw [ckTS, if_neg n0, if_neg n1]
    clear hes hk1 he0 hk0 hna
    refine awp_all x.key (fun r => apartGo x.key (x.key.length - r.length) r) (fun k => [(2, .ptr 0 0), (3, .ptr 1 0), (40, .sl none (lStr x.key)), (41, .int .i64 x.key.length), (42, .int .i64 k)]) (by omega) rfl ?_ ?_
    · intro k y ys hd hx hF h0 h1 hw2
      have hk2 := drop_len hd
      have e1 : x.key.length - (ys.length + 1) = k := by omega
      have e2 : x.key.length - ys.length = k + 1 := by omega
      have g1 : (k : Int) <= (x.key.length : Int) := by omega
      simp only [List.length_cons, e1, Nat.sub_self, apartGo] at hF
      simp only [go_sem, h0, h1, lStr_get hx, e1, e2, g1, Int.toNat_natCast, ite_self]
      have htl : (x.key.take k).length <= 9223372036854775807 := by rw [List.length_take]; omega
      repeat' (first
        | (refine pK (p_ContS (x.key.take k) htl y) ?_; simp only [go_sem, h0, h1, hw2, lStr_get hx, e1, e2, g1, Int.toNat_natCast, ite_self])
        | ((first | refine cS ?_ ?_ | refine gS ?_ ?_) <;> (intro hc; simp only [go_sem, hc, h0, h1, hw2, lStr_get hx, e1, e2, g1, Int.toNat_natCast, ite_self])))
      · rw [hT, hF, hc]; rfl
      · rw [apartGo, hc]; rfl
    · intro hF hlt
      simp only [go_sem, hlt, decide_false]
      rw [Nat.sub_self] at hF
      have h5 : apartGo x.key 0 x.key = true := by rw [hF]; rfl
      repeat' (first
        | ((first | refine pK (p_Find l hl _) ?_ | refine pK (p_Max _ hw.1 hw.2) ?_); simp only [go_sem])
        | ((first | refine cS ?_ ?_ | refine gS ?_ ?_) <;> (intro hc; simp only [go_sem, hc])))
      all_goals
        rw [hT, h5]
        clear hF hT h5
        simp_all
end Go.AI
namespace Go.AI
open Go.Proofs
set_option maxRecDepth 50000
end Go.AI
