/- Contracts of the program's names and sizes. -/
import Derived.Test.YtdgagjhjpffeaaaGreatDoorMs
import Derived.Test.YtdgagjhjpffeaaaGreatDoorMj
import Derived.Test.YtdgagjhjpffeaaaGreatDoorMf
import Derived.Sort.Walk0
set_option linter.unusedSimpArgs false
set_option linter.unusedVariables false
namespace Go.AI
open Go.Proofs
set_option maxRecDepth 50000

@[go_sem] theorem binK_slss {P : Program} {t : TypeId} {x y : ByteArray} {d : Tmp} {K : Kt} {e : Env} {H : Heap} : binK P .lss t (.str x) (.str y) d K e H = K ((d, .bool (Op.bytesLess x.toList y.toList)) :: e) H := by rw [binK_str]; simp [abin]

@[go_sem] theorem evo_g0 {P : Program} {o : Option TypeId} {e : Env} : evo P o e (.global 0) = .cptr (words.map AV.str) 0 := rfl

theorem ACallK.ofP {P : Program} {f : FuncId} {vs : List AV} {d : Option Tmp} {K : Kt} {e : Env} {H : Heap} {v : AV} (h : PCall P f vs v) (hk : K (put d v e) H) : ACallK P f vs d K e H :=
  (h H).mono fun v' H' hr => by obtain ⟨rfl, rfl⟩ := hr; exact hk
theorem ACallK.ofR {P : Program} {f : FuncId} {vs : List AV} {d : Option Tmp} {K : Kt} {e : Env} {H : Heap} {v : AV} (h : RCall P f vs H v) (hk : K (put d v e) H) : ACallK P f vs d K e H :=
  (h H rfl).mono fun v' H' hr => by obtain ⟨rfl, rfl⟩ := hr; exact hk

/-- A call at these very objects, which changes none. -/
def SCall (P : Program) (f : FuncId) (vs : List AV) (H : Heap) (v : AV) : Prop := ACall P f vs H fun v' H' => v' = v ∧ H' = H
theorem PCall.toS {P : Program} {f : FuncId} {vs : List AV} {H : Heap} {v : AV} (h : PCall P f vs v) : SCall P f vs H v := h H
theorem RCall.toS {P : Program} {f : FuncId} {vs : List AV} {H H2 : Heap} {v : AV} (h : RCall P f vs H v) (hv : hview H2 = hview H) : SCall P f vs H2 v := h H2 hv
theorem ACallK.ofS {P : Program} {f : FuncId} {vs : List AV} {d : Option Tmp} {K : Kt} {e : Env} {H : Heap} {v : AV} (h : SCall P f vs H v) (hk : K (put d v e) H) : ACallK P f vs d K e H :=
  h.mono fun v' H' hr => by obtain ⟨rfl, rfl⟩ := hr; exact hk

def ltB (a b : ByteArray) : Bool := Op.bytesLess a.toList b.toList
theorem ltB_irr (a : ByteArray) : ltB a a = false := by
  unfold ltB; rw [Go.Proofs.bytesLess_eq]; simp [List.lt_irrefl]
theorem ltB_tr {a b c : ByteArray} (h1 : ltB a b = true) (h2 : ltB b c = true) : ltB a c = true := by
  unfold ltB at *; rw [Go.Proofs.bytesLess_eq, decide_eq_true_eq] at *; exact List.lt_trans h1 h2

theorem p_within5 (c lo hi : Int) : PCall Tryz.prog 315 [.int .u8 c, .int .u8 lo, .int .u8 hi] (.bool (decide (lo ≤ c) && decide (c ≤ hi))) := by
  refine PCall.of h315 mixed h315_d Tryz.func315 rfl call315 (by simp [Tryz.f315]) (by simp [pureL, AV.pure, go_sem]) rfl ?_
  simp only [Tryz.f315, go_sem, ↓reduceIte]
  repeat' (first
    | ((first | refine condK_split _ _ _ (fun hc => ?_) (fun hc => ?_) | refine gsel_split _ _ _ _ (fun hc => ?_) (fun hc => ?_)) <;> simp only [go_sem, ↓reduceIte, hc, Bool.not_true, Bool.not_false]))
  all_goals grind

theorem p_isLetter (c : UInt8) : PCall Tryz.prog 286 [.int .u8 c.toNat] (.bool (loB c)) := by
  refine PCall.of h286 mixed h286_d Tryz.func286 rfl call286 (by simp [Tryz.f286]) (by simp [pureL, AV.pure, go_sem]) rfl ?_
  simp only [Tryz.f286, go_sem, ↓reduceIte]
  repeat' (first
    | ((first | refine PCallK.intro (p_within5 _ _ _) ?_); simp only [go_sem, ↓reduceIte])
    | ((first | refine condK_split _ _ _ (fun hc => ?_) (fun hc => ?_) | refine gsel_split _ _ _ _ (fun hc => ?_) (fun hc => ?_)) <;> simp only [go_sem, ↓reduceIte, hc, Bool.not_true, Bool.not_false]))
  all_goals first | rfl | (simp only [loB, bz])

theorem p_isDigit (c : UInt8) : PCall Tryz.prog 317 [.int .u8 c.toNat] (.bool (dgB c)) := by
  refine PCall.of h317 mixed h317_d Tryz.func317 rfl call317 (by simp [Tryz.f317]) (by simp [pureL, AV.pure, go_sem]) rfl ?_
  simp only [Tryz.f317, go_sem, ↓reduceIte]
  repeat' (first
    | ((first | refine PCallK.intro (p_within5 _ _ _) ?_); simp only [go_sem, ↓reduceIte])
    | ((first | refine condK_split _ _ _ (fun hc => ?_) (fun hc => ?_) | refine gsel_split _ _ _ _ (fun hc => ?_) (fun hc => ?_)) <;> simp only [go_sem, ↓reduceIte, hc, Bool.not_true, Bool.not_false]))
  all_goals first | rfl | (simp only [dgB, bz])

theorem p_isWordByte (c : UInt8) : PCall Tryz.prog 290 [.int .u8 c.toNat] (.bool (wdB c)) := by
  refine PCall.of h290 mixed h290_d Tryz.func290 rfl call290 (by simp [Tryz.f290]) (by simp [pureL, AV.pure, go_sem]) rfl ?_
  simp only [Tryz.f290, go_sem, ↓reduceIte]
  repeat' (first
    | ((first | refine PCallK.intro (p_isLetter _) ?_ | refine PCallK.intro (p_isDigit _) ?_); simp only [go_sem, ↓reduceIte])
    | ((first | refine condK_split _ _ _ (fun hc => ?_) (fun hc => ?_) | refine gsel_split _ _ _ _ (fun hc => ?_) (fun hc => ?_)) <;> simp only [go_sem, ↓reduceIte, hc, Bool.not_true, Bool.not_false]))
  all_goals (simp only [wdB, bz]; grind)

theorem p_nan1 (s : ByteArray) : PCall Tryz.prog 303 [.str s] (.bool false) := by
  refine PCall.of h303 mixed h303_d Tryz.func303 rfl call303 (by simp [Tryz.f303]) (by simp [pureL, AV.pure, go_sem]) rfl ?_
  simp only [Tryz.f303, go_sem, ↓reduceIte, beq_self_eq_true, Bool.not_true]

theorem p_nan2 (s : ByteArray) : PCall Tryz.prog 316 [.str s] (.bool false) := by
  refine PCall.of h316 mixed h316_d Tryz.func316 rfl call316 (by simp [Tryz.f316]) (by simp [pureL, AV.pure, go_sem]) rfl ?_
  simp only [Tryz.f316, go_sem, ↓reduceIte, beq_self_eq_true, Bool.not_true]

theorem p_less (a b : ByteArray) : PCall Tryz.prog 272 [.str a, .str b] (.bool (ltB a b)) := by
  refine PCall.of h272 mixed h272_d Tryz.func272 rfl call272 (by simp [Tryz.f272]) (by simp [pureL, AV.pure, go_sem]) rfl ?_
  simp only [Tryz.f272, go_sem, ↓reduceIte]
  repeat' (first
    | ((first | refine PCallK.intro (p_nan1 _) ?_); simp only [go_sem, ↓reduceIte])
    | ((first | refine condK_split _ _ _ (fun hc => ?_) (fun hc => ?_) | refine gsel_split _ _ _ _ (fun hc => ?_) (fun hc => ?_)) <;> simp only [go_sem, ↓reduceIte, hc, Bool.not_true, Bool.not_false]))
  all_goals rfl

end Go.AI

namespace Go.AI
open Go.Proofs
set_option maxRecDepth 50000

/-- The place of a text among the words. -/
def bsI (s : ByteArray) : Nat := (words.takeWhile fun w => ltB w s).length

theorem words_sorted : ∀ i j : Nat, i < j → j < 49 → ltB (words.getD i ⟨#[]⟩) (words.getD j ⟨#[]⟩) = true := by
  have h : ((List.range 49).all fun j => (List.range j).all fun i => ltB (words.getD i ⟨#[]⟩) (words.getD j ⟨#[]⟩)) = true := by kernel_rfl
  intro i j hi hj
  have h1 := List.all_eq_true.1 h j (List.mem_range.2 hj)
  exact List.all_eq_true.1 h1 i (List.mem_range.2 hi)

theorem words_len : words.length = 49 := rfl

theorem takeWhile_len {α : Type} {p : α → Bool} : ∀ (l : List α) (n : Nat), n ≤ l.length → (∀ k x, l[k]? = some x → k < n → p x = true) → (∀ x, l[n]? = some x → p x = false) → (l.takeWhile p).length = n
  | [], n, hn, _, _ => by simp at hn; subst hn; rfl
  | y :: l, 0, _, _, h2 => by
    have := h2 y rfl
    simp [List.takeWhile, this]
  | y :: l, n + 1, hn, h1, h2 => by
    have hy := h1 0 y rfl (by omega)
    simp only [List.takeWhile, hy, List.length_cons]
    rw [takeWhile_len l n (by simp at hn; omega) (fun k x hk hl => h1 (k + 1) x (by simpa using hk) (by omega)) (fun x hx => h2 x (by simpa using hx))]

theorem wordB_at {s : ByteArray} {i : Nat} (hi : i ≤ 49) (h1 : ∀ k, k < i → ltB (words.getD k ⟨#[]⟩) s = true) (h2 : ∀ k, i ≤ k → k < 49 → ltB (words.getD k ⟨#[]⟩) s = false) :
    wordB s = (decide (i < 49) && decide (words.getD i ⟨#[]⟩ = s)) := by
  rw [Bool.eq_iff_iff, Bool.and_eq_true, decide_eq_true_eq, decide_eq_true_eq, wordB, List.any_eq_true]
  constructor
  · rintro ⟨w, hw, he⟩
    have he : w = s := by simpa using he
    subst he
    obtain ⟨m, hm⟩ := List.getElem?_of_mem hw
    have hml : m < 49 := by have := (List.getElem?_eq_some_iff.1 hm).1; rw [words_len] at this; exact this
    have hmg : words.getD m ⟨#[]⟩ = w := by rw [List.getD_eq_getElem?_getD, hm]; rfl
    rcases Nat.lt_or_ge m i with h | h
    · have := h1 m h; rw [hmg, ltB_irr] at this; cases this
    · rcases Nat.lt_or_ge i m with h' | h'
      · have := words_sorted i m h' hml
        rw [hmg] at this
        rw [h2 i (Nat.le_refl _) (by omega)] at this; cases this
      · have : i = m := by omega
        subst this
        exact ⟨hml, hmg⟩
  · rintro ⟨hl, he⟩
    have hm : words.getD i ⟨#[]⟩ ∈ words := by
      have := List.getElem?_eq_getElem (l := words) (i := i) (by rw [words_len]; exact hl)
      rw [List.getD_eq_getElem?_getD, this]
      exact List.getElem_mem _
    exact ⟨_, hm, decide_eq_true he⟩

theorem word_get {k : Nat} (h : k < 49) : (words.map AV.str)[k]? = some (.str (words.getD k ⟨#[]⟩)) := by
  rw [List.getElem?_map, List.getD_eq_getElem?_getD, List.getElem?_eq_getElem (by rw [words_len]; exact h)]; rfl

@[go_sem] theorem words_pureL : pureL (words.map AV.str) = true := by kernel_rfl
@[go_sem] theorem words_len2 : (words.map AV.str).length = 49 := rfl

@[go_sem] theorem binK_shr1 {P : Program} {t : TypeId} {x : Int} {d : Tmp} {K : Kt} {e : Env} {H : Heap} : binK P .shr t (.int .u64 x) (.int .u64 1) d K e H = K ((d, .int .u64 (x.fdiv 2)) :: e) H := by
  rw [binK_int]; simp [abin, IntKind.bits]

theorem half {i j : Nat} (hj : j ≤ 49) (hi : i < j) : IntKind.i64.wrap ((IntKind.u64.wrap (IntKind.i64.wrap ((i : Int) + (j : Int)))).fdiv 2) = (((i + j) / 2 : Nat) : Int) := by
  have e1 : IntKind.i64.wrap ((i : Int) + (j : Int)) = ((i + j : Nat) : Int) := w64 (by omega) (by omega)
  rw [e1]
  have e2 : IntKind.u64.wrap ((i + j : Nat) : Int) = ((i + j : Nat) : Int) := by
    simp [IntKind.wrap, IntKind.signed, IntKind.bits]; omega
  rw [e2]
  have e3 : ((i + j : Nat) : Int).fdiv 2 = (((i + j) / 2 : Nat) : Int) := by
    rw [Int.fdiv_eq_ediv_of_nonneg _ (by decide)]; omega
  rw [e3]
  exact w64 (by omega) (by omega)

set_option maxHeartbeats 2000000 in
theorem p_search (s : ByteArray) : PCall Tryz.prog 287 [.sl none (words.map AV.str), .str s] (.tup [.int .i64 (bsI s), .bool (wordB s)]) := by
  refine PCall.ofB h287 mixed h287_d Tryz.func287 rfl call287 (by simp [Tryz.f287]) (by simp [pureL, AV.pure, go_sem]) (by simp [pureL, AV.pure, go_sem]) ?_
  simp only [Tryz.f287, go_sem, ↓reduceIte]
  refine awp_wh (σ := Nat × Nat) (fun s2 => [(0, .sl none (words.map AV.str)), (1, .str s), (6, .int .i64 49), (7, .int .i64 s2.1), (8, .int .i64 s2.2)]) (fun _ => []) (fun s2 => s2.1 ≤ s2.2 ∧ s2.2 ≤ 49 ∧ (∀ k, k < s2.1 → ltB (words.getD k ⟨#[]⟩) s = true) ∧ (∀ k, s2.2 ≤ k → k < 49 → ltB (words.getD k ⟨#[]⟩) s = false)) (fun s2 => s2.2 - s2.1) (0, 49) ⟨by omega, by omega, fun k hk => by omega, fun k h1 h2 => by omega⟩ rfl rfl ?_
  rintro ⟨i, j⟩ ⟨hij, hj, h1, h2⟩
  by_cases hlt : i < j
  · have g1 : (i : Int) < (j : Int) := by omega
    have g2 : (0 : Int) ≤ (((i + j) / 2 : Nat) : Int) := by omega
    have g3 : (((i + j) / 2 : Nat) : Int).toNat = (i + j) / 2 := by omega
    have hm : (i + j) / 2 < 49 := by omega
    have hw := w64s (k := (i + j) / 2) (by omega)
    simp only [go_sem, ↓reduceIte, g1, decide_true, half hj hlt, g2, g3, word_get hm]
    repeat' (first
      | ((first | refine PCallK.intro (p_less _ _) ?_); simp only [go_sem, ↓reduceIte, g1, half hj hlt, g2, g3, word_get hm, hw])
      | ((first | refine condK_split _ _ _ (fun hc => ?_) (fun hc => ?_) | refine gsel_split _ _ _ _ (fun hc => ?_) (fun hc => ?_)) <;> simp only [go_sem, ↓reduceIte, hc, Bool.not_true, Bool.not_false, g1, half hj hlt, g2, g3, word_get hm, hw]))
    · exact ⟨((i + j) / 2 + 1, j), ⟨by omega, hj, fun k hk => by
        rcases Nat.lt_or_ge k ((i + j) / 2) with h | h
        · exact ltB_tr (words_sorted _ _ h hm) hc
        · have : k = (i + j) / 2 := by omega
          subst this; exact hc, h2⟩, by omega, rfl, rfl⟩
    · exact ⟨(i, (i + j) / 2), ⟨by omega, by omega, h1, fun k hk hk9 => by
        rcases Nat.lt_or_ge ((i + j) / 2) k with h | h
        · cases hq : ltB (words.getD k ⟨#[]⟩) s with
          | false => rfl
          | true => rw [ltB_tr (words_sorted _ _ h hk9) hq] at hc; cases hc
        · have : k = (i + j) / 2 := by omega
          subst this; exact hc⟩, by omega, rfl, rfl⟩
  · have hij : i = j := by omega
    subst hij
    have g1 : ¬ (i : Int) < (i : Int) := by omega
    have hwb : wordB s = (decide (i < 49) && decide (words.getD i ⟨#[]⟩ = s)) := wordB_at hj h1 h2
    have hbs : bsI s = i := takeWhile_len words i (by rw [words_len]; exact hj) (fun k x hk hl => by
      have := h1 k hl; rw [List.getD_eq_getElem?_getD, hk] at this; exact this) (fun x hx => by
      have := h2 i (Nat.le_refl _) (by have := (List.getElem?_eq_some_iff.1 hx).1; rw [words_len] at this; exact this)
      rw [List.getD_eq_getElem?_getD, hx] at this; exact this)
    by_cases h49 : i < 49
    · have g3 : (i : Int) < 49 := by omega
      have g4 : (0 : Int) ≤ (i : Int) := by omega
      simp only [go_sem, ↓reduceIte, g1, decide_false, g3, g4, decide_true, word_get h49, toList_beq]
      repeat' (first
        | ((first | refine PCallK.intro (p_nan2 _) ?_); simp only [go_sem, ↓reduceIte, g1, g3, g4, word_get h49, toList_beq, Int.toNat_natCast])
        | ((first | refine condK_split _ _ _ (fun hc => ?_) (fun hc => ?_) | refine gsel_split _ _ _ _ (fun hc => ?_) (fun hc => ?_)) <;> simp only [go_sem, ↓reduceIte, hc, Bool.not_true, Bool.not_false, g1, g3, g4, word_get h49, toList_beq, Int.toNat_natCast]))
      all_goals (rw [hbs, hwb, hc]; simp only [h49, decide_true, Bool.and_false, Bool.not_false, Bool.and_true])
    · have g3 : ¬ (i : Int) < 49 := by omega
      simp only [go_sem, ↓reduceIte, g1, decide_false, g3]
      repeat' (first
        | ((first | refine PCallK.intro (p_nan2 _) ?_); simp only [go_sem, ↓reduceIte, g1, g3])
        | ((first | refine condK_split _ _ _ (fun hc => ?_) (fun hc => ?_) | refine gsel_split _ _ _ _ (fun hc => ?_) (fun hc => ?_)) <;> simp only [go_sem, ↓reduceIte, hc, Bool.not_true, Bool.not_false, g1, g3]))
      all_goals (rw [hbs, hwb]; simp [h49])

theorem ext_size (s : ByteArray) {k : Nat} (h : k ≤ s.size) : (s.extract k s.size).size = s.size - k := by simp [ByteArray.size_extract]
theorem ext_get (s : ByteArray) {k : Nat} (h : k < s.size) : ((s.extract k s.size).data[0]?).getD 0 = (s.data[k]?).getD 0 := by
  have : (s.extract k s.size).data = s.data.extract k s.size := by simp [ByteArray.data_extract]
  have h2 : s.size = s.data.size := rfl
  rw [this, Array.getElem?_extract]
  have h3 : 0 < s.size - k := by omega
  simp [← h2, h, h3]

theorem p_Name1 (s : ByteArray) (h : 0 < s.size) : PCall Tryz.prog 289 [.str s] (.bool (wdB ((s.data[0]?).getD 0))) := by
  have h0 : (0 : Int) < (s.size : Int) := by omega
  refine PCall.of h289 mixed h289_d Tryz.func289 rfl call289 (by simp [Tryz.f289]) (by simp [pureL, AV.pure, go_sem]) rfl ?_
  simp only [Tryz.f289, go_sem, ↓reduceIte, h0]
  repeat' (first
    | ((first | refine PCallK.intro (p_isWordByte _) ?_); simp only [go_sem, ↓reduceIte, h0])
    | ((first | refine condK_split _ _ _ (fun hc => ?_) (fun hc => ?_) | refine gsel_split _ _ _ _ (fun hc => ?_) (fun hc => ?_)) <;> simp only [go_sem, ↓reduceIte, hc, Bool.not_true, Bool.not_false, h0]))

theorem p_prefix (s : ByteArray) (hs : s.size ≤ 1073741824) : PCall Tryz.prog 288 [.str s, .fn (.func 289) [] []] (.str (s.extract 0 (runN s.data.toList))) := by
  refine PCall.of h288 mixed h288_d Tryz.func288 rfl call288 (by simp [Tryz.f288]) (by simp [pureL, AV.pure, go_sem]) rfl ?_
  simp only [Tryz.f288, go_sem, ↓reduceIte]
  refine awp_alls s (fun l => s.size - l.length + runN l) (fun k => [(0, .str s), (1, .fn (.func 289) [] []), (5, .int .i64 k)]) (by omega) rfl ?_ ?_
  · intro k x xs hd hx hF h0 h1 hw hl
    rw [blen] at hF
    simp only [List.length_cons, runN] at hF
    have hk : k < s.size := by omega
    have hk2 : (k : Int) ≤ (s.size : Int) := by omega
    have hp : 0 < (s.extract k s.size).size := by rw [ext_size s (by omega)]; omega
    simp only [go_sem, ↓reduceIte, h0, h1, hk2]
    repeat' (first
      | ((first | refine ACallK.ofP (p_Name1 _ hp) ?_); simp only [go_sem, ↓reduceIte, hw, ext_get s hk, hx])
      | ((first | refine condK_split _ _ _ (fun hc => ?_) (fun hc => ?_) | refine gsel_split _ _ _ _ (fun hc => ?_) (fun hc => ?_)) <;> simp only [go_sem, ↓reduceIte, hc, Bool.not_true, Bool.not_false, hw, ext_get s hk, hx]))
    · rw [runN, if_pos hc]; omega
    · rw [if_neg (by rw [hc]; decide)] at hF
      have : runN s.data.toList = k := by omega
      exact ⟨by omega, by omega, by rw [this]⟩
  · intro hF hlt
    simp only [go_sem, ↓reduceIte, hlt, decide_false]
    rw [blen] at hF
    have : runN s.data.toList = s.size := by simp only [runN, List.length_nil] at hF; omega
    exact ⟨by omega, by rw [this]⟩

theorem ext_all {s : ByteArray} {n : Nat} (h : n ≤ s.size) : (s.extract 0 n = s) ↔ n = s.size := by
  constructor
  · intro he
    have := congrArg ByteArray.size he
    rw [ByteArray.size_extract] at this
    omega
  · rintro rfl
    exact ByteArray.extract_zero_size

theorem runN_le : ∀ l : List UInt8, runN l ≤ l.length
  | [] => by simp [runN]
  | c :: l => by have := runN_le l; unfold runN; split <;> simp <;> omega

theorem p_tokName (s : ByteArray) (hs : s.size ≤ 1073741824) : PCall Tryz.prog 252 [.str s] (.bool (tnB s)) := by
  have hr : runN s.data.toList ≤ s.size := by have := runN_le s.data.toList; rw [blen] at this; exact this
  have hx : decide (s.extract 0 (runN s.data.toList) = s) = ((runN s.data.toList : Int) == (s.size : Int)) := by
    rw [Bool.eq_iff_iff, decide_eq_true_eq, ext_all hr, beq_iff_eq]; omega
  refine PCall.of h252 mixed h252_d Tryz.func252 rfl call252 (by simp [Tryz.f252]) (by simp [pureL, AV.pure, go_sem]) rfl ?_
  by_cases hz : s = ⟨#[]⟩
  · subst hz
    simp only [Tryz.f252, go_sem, ↓reduceIte, toList_beq, decide_true]
    rfl
  · have h0 : (0 : Int) < (s.size : Int) := by
      have : s.size ≠ 0 := fun h => hz (ByteArray.size_eq_zero_iff.1 h)
      omega
    simp only [Tryz.f252, go_sem, ↓reduceIte, toList_beq, hz, decide_false, h0]
    repeat' (first
      | ((first | refine PCallK.intro (p_isLetter _) ?_ | refine PCallK.intro (p_search _) ?_ | refine PCallK.intro (p_prefix _ hs) ?_); simp only [go_sem, ↓reduceIte, toList_beq, hz, decide_false, h0, hx])
      | ((first | refine condK_split _ _ _ (fun hc => ?_) (fun hc => ?_) | refine gsel_split _ _ _ _ (fun hc => ?_) (fun hc => ?_)) <;> simp only [go_sem, ↓reduceIte, hc, Bool.not_true, Bool.not_false, toList_beq, hz, decide_false, h0, hx]))
    all_goals first
      | rfl
      | (obtain ⟨x, xs, hx2⟩ : ∃ x xs, s.data.toList = x :: xs := by
          cases h : s.data.toList with
          | nil => rw [← blen, h] at h0; simp at h0
          | cons x xs => exact ⟨x, xs, rfl⟩
         have hx0 : (s.data[0]?).getD 0 = x := by rw [← Array.getElem?_toList, hx2]; rfl
         simp only [hx0] at *
         simp only [tnB, hx2]
         simp only [hx2] at *
         grind)
      | skip

theorem p_Plain (s : ByteArray) (hs : s.size ≤ 1073741824) : PCall Tryz.prog 205 [.str s] (.bool (tnB s)) := by
  refine PCall.of h205 mixed h205_d Tryz.func205 rfl call205 (by simp [Tryz.f205]) (by simp [pureL, AV.pure, go_sem]) rfl ?_
  simp only [Tryz.f205, go_sem, ↓reduceIte]
  repeat' (first
    | ((first | refine PCallK.intro (p_tokName _ hs) ?_); simp only [go_sem, ↓reduceIte])
    | ((first | refine condK_split _ _ _ (fun hc => ?_) (fun hc => ?_) | refine gsel_split _ _ _ _ (fun hc => ?_) (fun hc => ?_)) <;> simp only [go_sem, ↓reduceIte, hc, Bool.not_true, Bool.not_false]))

theorem p_named (s : ByteArray) (hs : s.size ≤ 1073741824) : PCall Tryz.prog 221 [.str s] (.bool (fnB s)) := by
  refine PCall.of h221 mixed h221_d Tryz.func221 rfl call221 (by simp [Tryz.f221]) (by simp [pureL, AV.pure, go_sem]) rfl ?_
  simp only [Tryz.f221, go_sem, ↓reduceIte, toList_beq]
  repeat' (first
    | ((first | refine PCallK.intro (p_Plain _ hs) ?_); simp only [go_sem, ↓reduceIte, toList_beq])
    | ((first | refine condK_split _ _ _ (fun hc => ?_) (fun hc => ?_) | refine gsel_split _ _ _ _ (fun hc => ?_) (fun hc => ?_)) <;> simp only [go_sem, ↓reduceIte, hc, Bool.not_true, Bool.not_false, toList_beq]))
  all_goals first
    | rfl
    | (simp only [toList_beq, fnB, portS, hc, Bool.false_or, Bool.true_or, Bool.not_false]; rfl)
    | grind [toList_beq, fnB, portS, Bool.false_or, Bool.true_or, Bool.not_false]
    | (simp only [toList_beq, fnB, portS, hc, Bool.false_or, Bool.true_or, Bool.not_false]; grind)
    | (simp [toList_beq, fnB, portS, hc, Bool.false_or, Bool.true_or, Bool.not_false, *]; done)
    | (simp_all [toList_beq, fnB, portS, hc, Bool.false_or, Bool.true_or, Bool.not_false]; done)
    | skip

theorem p_value (n : Int) : PCall Tryz.prog 222 [.int .i64 n] (.bool (w16 n)) := by
  refine PCall.of h222 mixed h222_d Tryz.func222 rfl call222 (by simp [Tryz.f222]) (by simp [pureL, AV.pure, go_sem]) rfl ?_
  simp only [Tryz.f222, go_sem, ↓reduceIte]
  repeat' (first
    | ((first | refine condK_split _ _ _ (fun hc => ?_) (fun hc => ?_) | refine gsel_split _ _ _ _ (fun hc => ?_) (fun hc => ?_)) <;> simp only [go_sem, ↓reduceIte, hc, Bool.not_true, Bool.not_false]))
  all_goals first
    | rfl
    | (simp only [w16]; rfl)
    | grind [w16]
    | (simp only [w16]; grind)
    | (simp [w16, *]; done)
    | (simp_all [w16]; done)
    | skip

def tickB (n : Int) : Bool := decide (0 ≤ n) && decide (n ≤ 1073741824)
theorem p_tick (n : Int) : PCall Tryz.prog 248 [.int .i64 n] (.bool (tickB n)) := by
  refine PCall.of h248 mixed h248_d Tryz.func248 rfl call248 (by simp [Tryz.f248]) (by simp [pureL, AV.pure, go_sem]) rfl ?_
  simp only [Tryz.f248, go_sem, ↓reduceIte]
  repeat' (first
    | ((first | refine condK_split _ _ _ (fun hc => ?_) (fun hc => ?_) | refine gsel_split _ _ _ _ (fun hc => ?_) (fun hc => ?_)) <;> simp only [go_sem, ↓reduceIte, hc, Bool.not_true, Bool.not_false]))
  all_goals first
    | rfl
    | (simp only [tickB]; rfl)
    | grind [tickB]
    | (simp only [tickB]; grind)
    | (simp [tickB, *]; done)
    | (simp_all [tickB]; done)
    | skip

end Go.AI

namespace Go.AI

section
variable {P : Program} {n : Nat} {h : Hint} {ops : Array Oper} {K : Kt} {p : Tmp × AV} {e : Env} {H : Heap} {d : Tmp} {ty : TypeId} {ps : String} {af : Array Edge} {Q : Exit → Kt}

def rngK (P : Program) (t : TypeId) (x : AV) (d : Tmp) (K : Kt) (e : Env) (H : Heap) : Prop := arange P t H x fun v H' => K ((d, v) :: e) H'
def nxtK (str : Bool) (x : AV) (d : Tmp) (K : Kt) (e : Env) (H : Heap) : Prop :=
  match x with
  | .it o => anext str H o fun v H' => K ((d, v) :: e) H'
  | _ => False
def lkpK (P : Program) (t : TypeId) (ok : Bool) (m k : AV) (d : Tmp) (K : Kt) (e : Env) (H : Heap) : Prop :=
  match P.underlying t with
  | some (.map kt et) => match mapOf H m with
    | some es => keysIn P kt (k :: es.map (·.1)) ∧ distK es ∧ ∃ z, zeroAV P et = some z ∧ K ((d, lkres ok z (afind k es 0)) :: e) H
    | none => False
  | _ => False
def updK (P : Program) (t : TypeId) (m k v : AV) (K : Kt) (e : Env) (H : Heap) : Prop :=
  match m with
  | .mapr o => match P.underlying t with
    | some (.map kt _) => match mapOf H (.mapr o) with
      | some es => keysIn P kt (k :: es.map (·.1)) ∧ distK es ∧ v.isVal = true ∧ K e (H.set o (some (mapc (mapUpd es k v))))
      | none => False
    | _ => False
  | _ => False

@[go_sem] theorem aop_makeMap (t : TypeId) : aop P n h ops ⟨some d, .makeMap t none, ty, ps, af, none⟩ K (p :: e) H = (d < n ∧ K ((d, .mapr H.length) :: p :: e) (H ++ [some (mapc [])])) := by
  rw [aop_none _ rfl]
  simp only [taking, opTy, Op.operands, evs_plain, List.map_nil, put, dstOk]
  rfl

@[go_sem] theorem aop_range (t : TypeId) (x : Operand) : aop P n h ops ⟨some d, .range t x, ty, ps, af, none⟩ K (p :: e) H = (d < n ∧ rngK P t (evo P none (p :: e) x).borrow d K (p :: e) H) := by
  rw [aop_none _ rfl]
  simp only [taking, opTy, Op.operands, evs_plain, List.map_cons, List.map_nil, put, dstOk]
  rfl

@[go_sem] theorem aop_next (x : Operand) (b : Bool) : aop P n h ops ⟨some d, .next x b, ty, ps, af, none⟩ K (p :: e) H = (d < n ∧ nxtK b (evo P none (p :: e) x).borrow d K (p :: e) H) := by
  rw [aop_none _ rfl]
  simp only [taking, opTy, Op.operands, evs_plain, List.map_cons, List.map_nil, put, dstOk]
  congr 1
  unfold nxtK
  generalize (evo P none (p :: e) x).borrow = v
  cases v <;> rfl

@[go_sem] theorem aop_lookup (t : TypeId) (x k : Operand) (ok : Bool) : aop P n h ops ⟨some d, .lookup t x k ok, ty, ps, af, none⟩ K (p :: e) H =
    (d < n ∧ lkpK P t ok (evo P none (p :: e) x).borrow (evo P none (p :: e) k).borrow d K (p :: e) H) := by
  rw [aop_none _ rfl]
  simp only [taking, opTy, Op.operands, evs_plain, List.map_cons, List.map_nil, put, dstOk]
  rfl

@[go_sem] theorem aop_mapUpdate (t : TypeId) (x k v : Operand) : aop P n h ops ⟨none, .mapUpdate t x k v, ty, ps, af, none⟩ K (p :: e) H =
    updK P t (evo P none (p :: e) x).borrow (evo P none (p :: e) k).borrow (evo P none (p :: e) v).borrow K (p :: e) H := by
  rw [aop_none _ rfl]
  simp only [taking, opTy, Op.operands, evs_plain, List.map_cons, List.map_nil, put, dstOk]
  rw [true_and]
  generalize (evo P none (p :: e) x).borrow = xv
  cases xv <;> rfl
end

/-! ## Sets -/

theorem mapOf_at {H : Heap} {o : Nat} {es : List (AV × AV)} (h : H[o]? = some (some (mapc es))) : mapOf H (.mapr o) = some es := by
  simp only [mapOf, h, unmapc_mapc]

theorem keysIn_int {P : Program} {kt : TypeId} {k : IntKind} (h : P.underlying kt = some (.int k)) {ks : List AV} (hk : ∀ a ∈ ks, ∃ n, a = .int k n) : keysIn P kt ks :=
  ⟨_, KLaw.plain h, fun a ha => by obtain ⟨n, rfl⟩ := hk a ha; exact ⟨_, rfl, rfl⟩⟩
theorem keysIn_str {P : Program} {kt : TypeId} (h : P.underlying kt = some .string) {ks : List AV} (hk : ∀ a ∈ ks, ∃ s, a = .str s) : keysIn P kt ks :=
  ⟨_, KLaw.plain h, fun a ha => by obtain ⟨s, rfl⟩ := hk a ha; exact ⟨_, rfl, trivial⟩⟩

/-- A set as a map's entries. -/
def setE {α : Type} (f : α → AV) (l : List α) : List (AV × AV) := l.map fun x => (f x, .bool true)

theorem afind_set {α : Type} (f : α → AV) (k : AV) : ∀ (l : List α) (i : Nat), (afind k (setE f l) i).map (·.2) = if l.any (fun x => keyEq (f x) k) = true then some (.bool true) else none
  | [], i => rfl
  | x :: l, i => by
    unfold setE
    rw [List.map_cons, afind, List.any_cons]
    by_cases h : keyEq (f x) k = true
    · rw [if_pos h, h]; rfl
    · rw [if_neg h]
      have h2 : keyEq (f x) k = false := by simpa using h
      rw [h2, Bool.false_or]
      exact afind_set f k l (i + 1)

theorem lk_set {α : Type} (f : α → AV) (k : AV) (l : List α) : lkres false (.bool false) (afind k (setE f l) 0) = .bool (l.any fun x => keyEq (f x) k) := by
  have h := afind_set f k l 0
  cases ha : afind k (setE f l) 0 with
  | none =>
    rw [ha] at h
    split at h
    · cases h
    · rename_i hn
      have : (l.any fun x => keyEq (f x) k) = false := by simpa using hn
      rw [this]; rfl
  | some q =>
    rw [ha] at h
    split at h
    · rename_i hy
      obtain ⟨j, v⟩ := q
      have hv : v = .bool true := by simpa using h
      subst hv
      rw [hy]; rfl
    · cases h

theorem upd_set {α : Type} (f : α → AV) (x : α) (l : List α) (h : (l.any fun y => keyEq (f y) (f x)) = false) : mapUpd (setE f l) (f x) (.bool true) = setE f (l ++ [x]) := by
  have h2 := afind_set f (f x) l 0
  rw [h] at h2
  have h3 : afind (f x) (setE f l) 0 = none := by
    cases ha : afind (f x) (setE f l) 0 with
    | none => rfl
    | some q => rw [ha] at h2; cases h2
  unfold mapUpd
  rw [h3]
  simp [setE]

theorem set_keys {α : Type} (f : α → AV) (l : List α) : (setE f l).map (·.1) = l.map f := by simp [setE, List.map_map]

/-- No two elements have one key. -/
def distL {α : Type} (f : α → AV) : List α → Prop
  | [] => True
  | x :: l => (∀ y ∈ l, keyEq (f x) (f y) = false) ∧ distL f l
theorem dist_set {α : Type} (f : α → AV) : ∀ {l : List α}, distL f l → distK (setE f l)
  | [], _ => List.Pairwise.nil
  | x :: l, h => List.Pairwise.cons (fun q hq => by obtain ⟨y, hy, rfl⟩ := List.mem_map.1 hq; exact h.1 y hy) (dist_set f h.2)
theorem distL_snoc {α : Type} (f : α → AV) (x : α) : ∀ {l : List α}, distL f l → (l.any fun y => keyEq (f y) (f x)) = false → distL f (l ++ [x])
  | [], _, _ => ⟨fun y hy => by simp at hy, trivial⟩
  | y :: l, h, ha => by
    rw [List.any_cons, Bool.or_eq_false_iff] at ha
    refine ⟨fun z hz => ?_, distL_snoc f x h.2 ha.2⟩
    rcases List.mem_append.1 hz with hz | hz
    · exact h.1 z hz
    · rcases List.mem_singleton.1 hz with rfl
      exact ha.1

end Go.AI

namespace Go.AI
open Go.Proofs
set_option maxRecDepth 50000

theorem pfit1 {cs : List AV} {l : List AV} (h : fitL (.agg cs :: l)) : fitL cs := h.1
theorem pfits {o : Option Nat} {es : List AV} {l : List AV} (h : fitL (.sl o es :: l)) : es.length ≤ 9223372036854775807 := h.1.1

def idxGo {α : Type} (p : α → Bool) : Nat → List α → Int
  | _, [] => -1
  | i, x :: l => if p x then (i : Int) else idxGo p (i + 1) l
def idxI {α : Type} (p : α → Bool) (l : List α) : Int := idxGo p 0 l
theorem idxGo_any {α : Type} (p : α → Bool) : ∀ (l : List α) (i : Nat), decide (0 ≤ idxGo p i l) = l.any p
  | [], i => rfl
  | x :: l, i => by
    rw [idxGo, List.any_cons]
    cases h : p x with
    | true => simp
    | false => simp [idxGo_any p l (i + 1)]
theorem any_not {α : Type} (p : α → Bool) (l : List α) : (!(l.any fun x => !p x)) = l.all p := by
  induction l with
  | nil => rfl
  | cons x l ih => simp only [List.any_cons, List.all_cons, Bool.not_or, Bool.not_not, ih]
theorem wrapf (k : Nat) : (fun _ : Unit => k) () = k := rfl

@[go_sem] theorem getlast {α : Type} (l : List α) (x : α) : (l ++ [x])[l.length]? = some x := by simp

theorem p_IndexPred {H : Heap} (l : List Pred) (hl : l.length ≤ 9223372036854775807) (g : FuncId) (fi ca : List AV) (p : Pred → Bool)
    (h : ∀ x ∈ l, SCall Tryz.prog g (fi.map AV.borrow ++ (.agg x.c :: ca.map AV.borrow)) H (.bool (p x))) :
    SCall Tryz.prog 314 [.sl none (lPred l), .fn (.func g) fi ca] H (.int .i64 (idxI p l)) := by
  unfold SCall
  refine ACall.of h314 rfl mixed h314_d Tryz.func314 rfl call314 (by simp [Tryz.f314]) ?_
  simp only [Tryz.f314, go_sem, ↓reduceIte]
  refine awp_all l (fun r => idxGo p (l.length - r.length) r) (fun k => [(0, .sl none (lPred l)), (1, .fn (.func g) fi ca), (7, .int .i64 l.length), (8, .int .i64 k)]) hl rfl ?_ ?_
  · intro k x xs hd hx hF h0 h1 hw
    have hk2 := drop_len hd
    have e1 : l.length - (xs.length + 1) = k := by omega
    have e2 : l.length - xs.length = k + 1 := by omega
    simp only [List.length_cons, e1, Nat.sub_self] at hF
    simp only [go_sem, ↓reduceIte, h0, h1, lPred_get hx, e1, e2]
    repeat' (first
      | ((first | refine ACallK.ofS (h x (List.mem_of_getElem? hx)) ?_); simp only [go_sem, ↓reduceIte, h0, h1, hw, lPred_get hx, e1, e2])
      | ((first | refine condK_split _ _ _ (fun hc => ?_) (fun hc => ?_) | refine gsel_split _ _ _ _ (fun hc => ?_) (fun hc => ?_)) <;> simp only [go_sem, ↓reduceIte, hc, Bool.not_true, Bool.not_false, h0, h1, hw, lPred_get hx, e1, e2]))
    · rw [idxI, hF, idxGo, if_pos hc]
    · rw [idxGo, if_neg (by rw [hc]; decide)]
  · intro hF hlt
    simp only [go_sem, ↓reduceIte, hlt, decide_false]
    rw [Nat.sub_self] at hF
    rw [idxI, hF]; rfl

theorem p_ContainsPred {H : Heap} (l : List Pred) (hl : l.length ≤ 9223372036854775807) (g : FuncId) (fi ca : List AV) (p : Pred → Bool)
    (h : ∀ x ∈ l, SCall Tryz.prog g (fi.map AV.borrow ++ (.agg x.c :: ca.map AV.borrow)) H (.bool (p x))) :
    SCall Tryz.prog 284 [.sl none (lPred l), .fn (.func g) fi ca] H (.bool (l.any p)) := by
  unfold SCall
  refine ACall.of h284 rfl mixed h284_d Tryz.func284 rfl call284 (by simp [Tryz.f284]) ?_
  simp only [Tryz.f284, go_sem, ↓reduceIte]
  repeat' (first
    | ((first | refine ACallK.ofS (p_IndexPred l hl g fi ca p h) ?_); simp only [go_sem, ↓reduceIte])
    | ((first | refine condK_split _ _ _ (fun hc => ?_) (fun hc => ?_) | refine gsel_split _ _ _ _ (fun hc => ?_) (fun hc => ?_)) <;> simp only [go_sem, ↓reduceIte, hc, Bool.not_true, Bool.not_false]))
  rw [idxI, idxGo_any]

theorem p_everyPred (l : List Pred) (hl : l.length ≤ 9223372036854775807) (n : Int) (g : FuncId) (p : Pred → Bool) (h : ∀ x ∈ l, PCall Tryz.prog g [.agg x.c] (.bool (p x))) :
    PCall Tryz.prog 249 [.sl none (lPred l), .int .i64 n, .fn (.func g) [] []] (.bool (((l.length : Int) == n) && l.all p)) := by
  refine PCall.of h249 mixed h249_d Tryz.func249 rfl call249 (by simp [Tryz.f249]) (by simp [pureL, AV.pure, go_sem]) rfl ?_
  simp only [Tryz.f249, go_sem, ↓reduceIte]
  have h1 : ∀ x ∈ l, SCall Tryz.prog 285 [.agg x.c, .ptr 0 0] [some [.fn (.func g) [] []]] (.bool (!p x)) := by
    intro x hx
    refine ACall.drop rfl ?_
    refine ACall.of h285 rfl mixed h285_d Tryz.func285 rfl call285 (by simp [Tryz.f285]) ?_
    simp only [Tryz.f285, go_sem, ↓reduceIte]
    repeat' (first
      | ((first | refine ACallK.ofP (h x hx) ?_); simp only [go_sem, ↓reduceIte])
      | ((first | refine condK_split _ _ _ (fun hc => ?_) (fun hc => ?_) | refine gsel_split _ _ _ _ (fun hc => ?_) (fun hc => ?_)) <;> simp only [go_sem, ↓reduceIte, hc, Bool.not_true, Bool.not_false]))
    exact ⟨_, rfl⟩
  repeat' (first
    | ((first | refine ACallK.ofS (p_ContainsPred l hl 285 [] [.ptr 0 0] (fun x => !p x) h1) ?_); simp only [go_sem, ↓reduceIte, any_not])
    | ((first | refine condK_split _ _ _ (fun hc => ?_) (fun hc => ?_) | refine gsel_split _ _ _ _ (fun hc => ?_) (fun hc => ?_)) <;> simp only [go_sem, ↓reduceIte, hc, Bool.not_true, Bool.not_false, any_not]))

theorem p_IndexPolicy {H : Heap} (l : List Policy) (hl : l.length ≤ 9223372036854775807) (g : FuncId) (fi ca : List AV) (p : Policy → Bool)
    (h : ∀ x ∈ l, SCall Tryz.prog g (fi.map AV.borrow ++ (.agg x.c :: ca.map AV.borrow)) H (.bool (p x))) :
    SCall Tryz.prog 295 [.sl none (lPolicy l), .fn (.func g) fi ca] H (.int .i64 (idxI p l)) := by
  unfold SCall
  refine ACall.of h295 rfl mixed h295_d Tryz.func295 rfl call295 (by simp [Tryz.f295]) ?_
  simp only [Tryz.f295, go_sem, ↓reduceIte]
  refine awp_all l (fun r => idxGo p (l.length - r.length) r) (fun k => [(0, .sl none (lPolicy l)), (1, .fn (.func g) fi ca), (7, .int .i64 l.length), (8, .int .i64 k)]) hl rfl ?_ ?_
  · intro k x xs hd hx hF h0 h1 hw
    have hk2 := drop_len hd
    have e1 : l.length - (xs.length + 1) = k := by omega
    have e2 : l.length - xs.length = k + 1 := by omega
    simp only [List.length_cons, e1, Nat.sub_self] at hF
    simp only [go_sem, ↓reduceIte, h0, h1, lPolicy_get hx, e1, e2]
    repeat' (first
      | ((first | refine ACallK.ofS (h x (List.mem_of_getElem? hx)) ?_); simp only [go_sem, ↓reduceIte, h0, h1, hw, lPolicy_get hx, e1, e2])
      | ((first | refine condK_split _ _ _ (fun hc => ?_) (fun hc => ?_) | refine gsel_split _ _ _ _ (fun hc => ?_) (fun hc => ?_)) <;> simp only [go_sem, ↓reduceIte, hc, Bool.not_true, Bool.not_false, h0, h1, hw, lPolicy_get hx, e1, e2]))
    · rw [idxI, hF, idxGo, if_pos hc]
    · rw [idxGo, if_neg (by rw [hc]; decide)]
  · intro hF hlt
    simp only [go_sem, ↓reduceIte, hlt, decide_false]
    rw [Nat.sub_self] at hF
    rw [idxI, hF]; rfl

theorem p_ContainsPolicy {H : Heap} (l : List Policy) (hl : l.length ≤ 9223372036854775807) (g : FuncId) (fi ca : List AV) (p : Policy → Bool)
    (h : ∀ x ∈ l, SCall Tryz.prog g (fi.map AV.borrow ++ (.agg x.c :: ca.map AV.borrow)) H (.bool (p x))) :
    SCall Tryz.prog 261 [.sl none (lPolicy l), .fn (.func g) fi ca] H (.bool (l.any p)) := by
  unfold SCall
  refine ACall.of h261 rfl mixed h261_d Tryz.func261 rfl call261 (by simp [Tryz.f261]) ?_
  simp only [Tryz.f261, go_sem, ↓reduceIte]
  repeat' (first
    | ((first | refine ACallK.ofS (p_IndexPolicy l hl g fi ca p h) ?_); simp only [go_sem, ↓reduceIte])
    | ((first | refine condK_split _ _ _ (fun hc => ?_) (fun hc => ?_) | refine gsel_split _ _ _ _ (fun hc => ?_) (fun hc => ?_)) <;> simp only [go_sem, ↓reduceIte, hc, Bool.not_true, Bool.not_false]))
  rw [idxI, idxGo_any]

theorem p_everyPolicy (l : List Policy) (hl : l.length ≤ 9223372036854775807) (n : Int) (g : FuncId) (p : Policy → Bool) (h : ∀ x ∈ l, PCall Tryz.prog g [.agg x.c] (.bool (p x))) :
    PCall Tryz.prog 223 [.sl none (lPolicy l), .int .i64 n, .fn (.func g) [] []] (.bool (((l.length : Int) == n) && l.all p)) := by
  refine PCall.of h223 mixed h223_d Tryz.func223 rfl call223 (by simp [Tryz.f223]) (by simp [pureL, AV.pure, go_sem]) rfl ?_
  simp only [Tryz.f223, go_sem, ↓reduceIte]
  have h1 : ∀ x ∈ l, SCall Tryz.prog 262 [.agg x.c, .ptr 0 0] [some [.fn (.func g) [] []]] (.bool (!p x)) := by
    intro x hx
    refine ACall.drop rfl ?_
    refine ACall.of h262 rfl mixed h262_d Tryz.func262 rfl call262 (by simp [Tryz.f262]) ?_
    simp only [Tryz.f262, go_sem, ↓reduceIte]
    repeat' (first
      | ((first | refine ACallK.ofP (h x hx) ?_); simp only [go_sem, ↓reduceIte])
      | ((first | refine condK_split _ _ _ (fun hc => ?_) (fun hc => ?_) | refine gsel_split _ _ _ _ (fun hc => ?_) (fun hc => ?_)) <;> simp only [go_sem, ↓reduceIte, hc, Bool.not_true, Bool.not_false]))
    exact ⟨_, rfl⟩
  repeat' (first
    | ((first | refine ACallK.ofS (p_ContainsPolicy l hl 262 [] [.ptr 0 0] (fun x => !p x) h1) ?_); simp only [go_sem, ↓reduceIte, any_not])
    | ((first | refine condK_split _ _ _ (fun hc => ?_) (fun hc => ?_) | refine gsel_split _ _ _ _ (fun hc => ?_) (fun hc => ?_)) <;> simp only [go_sem, ↓reduceIte, hc, Bool.not_true, Bool.not_false, any_not]))

theorem p_with (a b : Sizes) : PCall Tryz.prog 219 [.agg a.c, .agg b.c] (.agg (a.more b).c) := by
  refine PCall.ofB h219 mixed h219_d Tryz.func219 rfl call219 (by simp [Tryz.f219]) (by simp [pureL, AV.pure, go_sem]) (by simp [pureL, AV.pure, go_sem]) ?_
  simp only [Tryz.f219, go_sem, ↓reduceIte]
  rfl

theorem p_allPred (l : List Pred) (hl : l.length ≤ 9223372036854775807) (h : ∀ x ∈ l, PCall Tryz.prog 199 [.agg x.c] (.agg (szP x).c)) :
    PCall Tryz.prog 247 [.sl none (lPred l), .fn (.func 199) [] []] (.agg (szPs l ⟨1, 1⟩).c) := by
  refine PCall.ofB h247 mixed h247_d Tryz.func247 rfl call247 (by simp [Tryz.f247]) (by simp [pureL, AV.pure, go_sem]) (by simp [pureL, AV.pure, go_sem]) ?_
  simp only [Tryz.f247, go_sem, ↓reduceIte]
  refine awp_lst l (fun o l => szPs l o) (fun _ _ => True) (fun k o => [(1, .fn (.func 199) [] []), (4, .ptr 0 0), (5, .ptr 1 0), (9, .sl none (lPred l)), (10, .int .i64 l.length), (11, .int .i64 k)]) (fun k o => [some Sizes.z.c, some o.c]) ⟨1, 1⟩ hl trivial rfl rfl ?_ ?_
  · intro k o y ys hd hx _ hF h0 h1 hw
    simp only [go_sem, ↓reduceIte, h0, h1, lPred_get hx]
    repeat' (first
      | ((first | refine PCallK.intro (h _ (List.mem_of_getElem? hx)) ?_ | refine PCallK.intro (p_with _ _) ?_); simp only [go_sem, ↓reduceIte, h0, h1, hw, lPred_get hx])
      | ((first | refine condK_split _ _ _ (fun hc => ?_) (fun hc => ?_) | refine gsel_split _ _ _ _ (fun hc => ?_) (fun hc => ?_)) <;> simp only [go_sem, ↓reduceIte, hc, Bool.not_true, Bool.not_false, h0, h1, hw, lPred_get hx]))
    exact ⟨_, szPs_cons _ _ _, rfl, rfl⟩
  · intro o _ hF
    simp only [go_sem, ↓reduceIte, Int.lt_irrefl, decide_false]
    rw [hF, szPs_nil]

theorem p_EqualPred (a b : List Pred) (ha : a.length ≤ 9223372036854775807) (h : ∀ x ∈ a, ∀ y, PCall Tryz.prog 220 [.agg x.c, .agg y.c] (.bool (eqP x y))) :
    PCall Tryz.prog 260 [.sl none (lPred a), .sl none (lPred b), .fn (.func 220) [] []] (.bool (((a.length : Int) == (b.length : Int)) && eqPs a b)) := by
  refine PCall.of h260 mixed h260_d Tryz.func260 rfl call260 (by simp [Tryz.f260]) (by simp [pureL, AV.pure, go_sem]) rfl ?_
  simp only [Tryz.f260, go_sem, ↓reduceIte]
  repeat' (first
    | ((first | refine condK_split _ _ _ (fun hc => ?_) (fun hc => ?_) | refine gsel_split _ _ _ _ (fun hc => ?_) (fun hc => ?_)) <;> simp only [go_sem, ↓reduceIte, hc, Bool.not_true, Bool.not_false]))
  · simp at hc; simp [hc]
  · have hlen : a.length = b.length := by simp at hc; omega
    refine awp_lst a (fun (_ : Unit) r => eqPs r (b.drop (a.length - r.length))) (fun _ _ => True) (fun k _ => [(1, .sl none (lPred b)), (2, .fn (.func 220) [] []), (15, .sl none (lPred a)), (16, .int .i64 a.length), (17, .int .i64 k)]) (fun k _ => []) () ha trivial rfl rfl ?_ ?_
    · intro k _ x xs hd hx _ hF h0 h1 hw
      have hk2 := drop_len hd
      obtain ⟨y, hy⟩ : ∃ y, b[k]? = some y := ⟨_, List.getElem?_eq_getElem (by omega)⟩
      have e1 : a.length - (xs.length + 1) = k := by omega
      have e2 : a.length - xs.length = k + 1 := by omega
      have hbd : b.drop k = y :: b.drop (k + 1) := by
        obtain ⟨hlt, rfl⟩ := List.getElem?_eq_some_iff.1 hy
        exact List.drop_eq_getElem_cons hlt
      simp only [List.length_cons, e1, Nat.sub_self, List.drop_zero, hbd, eqPs_cons] at hF
      simp only [go_sem, ↓reduceIte, h0, h1, lPred_get hx, lPred_get hy]
      repeat' (first
        | ((first | refine ACallK.ofP (h _ (List.mem_of_getElem? hx) y) ?_); simp only [go_sem, ↓reduceIte, h0, h1, hw, lPred_get hx, lPred_get hy])
        | ((first | refine condK_split _ _ _ (fun hc => ?_) (fun hc => ?_) | refine gsel_split _ _ _ _ (fun hc => ?_) (fun hc => ?_)) <;> simp only [go_sem, ↓reduceIte, hc, Bool.not_true, Bool.not_false, h0, h1, hw, lPred_get hx, lPred_get hy]))
      · simp only [Bool.not_eq_true'] at hc
        rw [hF, hc, Bool.false_and, Bool.and_false]
      · simp only [Bool.not_eq_false'] at hc
        exact ⟨(), by rw [e1, e2, hbd, eqPs_cons, hc, Bool.true_and]⟩
    · intro _ _ hF
      simp only [go_sem, ↓reduceIte, Int.lt_irrefl, decide_false]
      rw [Nat.sub_self, List.drop_zero, eqPs_nil] at hF
      rw [hF, hlen]; simp

theorem p_allPolicy (l : List Policy) (hl : l.length ≤ 9223372036854775807) (h : ∀ x ∈ l, PCall Tryz.prog 153 [.agg x.c] (.agg (szO x).c)) :
    PCall Tryz.prog 218 [.sl none (lPolicy l), .fn (.func 153) [] []] (.agg (szOs l ⟨1, 1⟩).c) := by
  refine PCall.ofB h218 mixed h218_d Tryz.func218 rfl call218 (by simp [Tryz.f218]) (by simp [pureL, AV.pure, go_sem]) (by simp [pureL, AV.pure, go_sem]) ?_
  simp only [Tryz.f218, go_sem, ↓reduceIte]
  refine awp_lst l (fun o l => szOs l o) (fun _ _ => True) (fun k o => [(1, .fn (.func 153) [] []), (4, .ptr 0 0), (5, .ptr 1 0), (9, .sl none (lPolicy l)), (10, .int .i64 l.length), (11, .int .i64 k)]) (fun k o => [some Sizes.z.c, some o.c]) ⟨1, 1⟩ hl trivial rfl rfl ?_ ?_
  · intro k o y ys hd hx _ hF h0 h1 hw
    simp only [go_sem, ↓reduceIte, h0, h1, lPolicy_get hx]
    repeat' (first
      | ((first | refine PCallK.intro (h _ (List.mem_of_getElem? hx)) ?_ | refine PCallK.intro (p_with _ _) ?_); simp only [go_sem, ↓reduceIte, h0, h1, hw, lPolicy_get hx])
      | ((first | refine condK_split _ _ _ (fun hc => ?_) (fun hc => ?_) | refine gsel_split _ _ _ _ (fun hc => ?_) (fun hc => ?_)) <;> simp only [go_sem, ↓reduceIte, hc, Bool.not_true, Bool.not_false, h0, h1, hw, lPolicy_get hx]))
    exact ⟨_, szOs_cons _ _ _, rfl, rfl⟩
  · intro o _ hF
    simp only [go_sem, ↓reduceIte, Int.lt_irrefl, decide_false]
    rw [hF, szOs_nil]

end Go.AI

namespace Go.AI
open Go.Proofs
set_option maxRecDepth 50000

theorem p_sizePred : ∀ x : Pred, PCall Tryz.prog 199 [.agg x.c] (.agg (szP x).c) := by
  refine Pred.ind _ fun x ih => ?_
  refine PCall.fit call199 fun hf => ?_
  have hl := Pred.fit_args (pfit1 hf)
  refine PCall.ofB h199 mixed h199_d Tryz.func199 rfl call199 (by simp [Tryz.f199]) (by simp [pureL, AV.pure, go_sem]) (by simp [pureL, AV.pure, go_sem]) ?_
  simp only [Tryz.f199, go_sem, ↓reduceIte]
  repeat' (first
    | ((first | refine PCallK.intro (p_allPred _ hl (fun y hy => ih y hy)) ?_); simp only [go_sem, ↓reduceIte])
    | ((first | refine condK_split _ _ _ (fun hc => ?_) (fun hc => ?_) | refine gsel_split _ _ _ _ (fun hc => ?_) (fun hc => ?_)) <;> simp only [go_sem, ↓reduceIte, hc, Bool.not_true, Bool.not_false]))
  rw [szP_eq]

theorem i64_add (a b : Int) : i64 (i64 a + b) = i64 (a + b) := by
  simp only [i64, IntKind.wrap, IntKind.signed, IntKind.bits]
  simp
  split <;> split <;> split <;> omega

theorem more_comm (a b c : Sizes) : (a.more b).more c = (a.more c).more b := by
  unfold Sizes.more imax
  simp only [Sizes.mk.injEq]
  refine ⟨?_, ?_⟩
  · rw [i64_add, i64_add]; congr 1; omega
  · grind

theorem szOs_more (z : Sizes) : ∀ (l : List Policy) (o : Sizes), szOs l (o.more z) = (szOs l o).more z
  | [], o => by rw [szOs_nil, szOs_nil]
  | x :: l, o => by rw [szOs_cons, szOs_cons, more_comm, szOs_more z l]

theorem p_sizePolicy : ∀ x : Policy, PCall Tryz.prog 153 [.agg x.c] (.agg (szO x).c) := by
  refine Policy.ind _ fun x ih => ?_
  refine PCall.fit call153 fun hf => ?_
  have hl := Policy.fit_args (pfit1 hf)
  refine PCall.ofB h153 mixed h153_d Tryz.func153 rfl call153 (by simp [Tryz.f153]) (by simp [pureL, AV.pure, go_sem]) (by simp [pureL, AV.pure, go_sem]) ?_
  simp only [Tryz.f153, go_sem, ↓reduceIte]
  repeat' (first
    | ((first | refine PCallK.intro (p_allPolicy _ hl (fun y hy => ih y hy)) ?_ | refine PCallK.intro (p_sizePred _) ?_ | refine PCallK.intro (p_with _ _) ?_); simp only [go_sem, ↓reduceIte])
    | ((first | refine condK_split _ _ _ (fun hc => ?_) (fun hc => ?_) | refine gsel_split _ _ _ _ (fun hc => ?_) (fun hc => ?_)) <;> simp only [go_sem, ↓reduceIte, hc, Bool.not_true, Bool.not_false]))
  · rw [szO_eq, if_pos (by simpa using hc), szOs_more]
  · rw [szO_eq, if_neg (by simpa using hc)]

theorem p_large (z : Sizes) : PCall Tryz.prog 204 [.agg z.c] (.int .i64 (limE z)) := by
  refine PCall.of h204 mixed h204_d Tryz.func204 rfl call204 (by simp [Tryz.f204]) (by simp [pureL, AV.pure, go_sem]) rfl ?_
  simp only [Tryz.f204, go_sem, ↓reduceIte]
  repeat' (first
    | ((first | refine condK_split _ _ _ (fun hc => ?_) (fun hc => ?_) | refine gsel_split _ _ _ _ (fun hc => ?_) (fun hc => ?_)) <;> simp only [go_sem, ↓reduceIte, hc, Bool.not_true, Bool.not_false]))
  all_goals first
    | rfl
    | (simp only [limE]; rfl)
    | grind [limE]
    | (simp only [limE]; grind)
    | (simp [limE, *]; done)
    | (simp_all [limE]; done)
    | skip

theorem p_check {H : Heap} (z : Sizes) (g : FuncId) (ca : List AV) (b : Bool) (h : SCall Tryz.prog g (ca.map AV.borrow) (H ++ [some z.c]) (.bool b)) :
    SCall Tryz.prog 138 [.agg z.c, .fn (.func g) [] ca] H (.int .i64 (fmE z b)) := by
  refine ACall.drop rfl ?_
  refine ACall.of h138 rfl mixed h138_d Tryz.func138 rfl call138 (by simp [Tryz.f138]) ?_
  simp only [Tryz.f138, go_sem, ↓reduceIte]
  repeat' (first
    | ((first | refine PCallK.intro (p_large _) ?_ | refine ACallK.ofS (h) ?_); simp only [go_sem, ↓reduceIte])
    | ((first | refine condK_split _ _ _ (fun hc => ?_) (fun hc => ?_) | refine gsel_split _ _ _ _ (fun hc => ?_) (fun hc => ?_)) <;> simp only [go_sem, ↓reduceIte, hc, Bool.not_true, Bool.not_false]))
  all_goals simp_all [fmE]

theorem ibeq (a b : Nat) : ((a : Int) == (b : Int)) = (a == b) := by
  rw [Bool.eq_iff_iff]; simp; omega

theorem p_SamePred : ∀ x y : Pred, PCall Tryz.prog 220 [.agg x.c, .agg y.c] (.bool (eqP x y)) := by
  refine Pred.ind _ fun x ih => fun y => ?_
  refine PCall.fit call220 fun hf => ?_
  have hl := Pred.fit_args (pfit1 hf)
  refine PCall.of h220 mixed h220_d Tryz.func220 rfl call220 (by simp [Tryz.f220]) (by simp [pureL, AV.pure, go_sem]) rfl ?_
  simp only [Tryz.f220, go_sem, ↓reduceIte, toList_beq]
  repeat' (first
    | ((first | refine PCallK.intro (p_EqualPred _ _ hl (fun y hy z => ih y hy z)) ?_); simp only [go_sem, ↓reduceIte, toList_beq])
    | ((first | refine condK_split _ _ _ (fun hc => ?_) (fun hc => ?_) | refine gsel_split _ _ _ _ (fun hc => ?_) (fun hc => ?_)) <;> simp only [go_sem, ↓reduceIte, hc, Bool.not_true, Bool.not_false, toList_beq]))
  all_goals (rw [eqP_eq]; simp_all [ibeq])

theorem fmPs_all : ∀ l : List Pred, fmPs l = l.all fmP
  | [] => by rw [fmPs_nil]; rfl
  | x :: l => by rw [fmPs_cons, List.all_cons, fmPs_all l]
theorem fmOs_all : ∀ l : List Policy, fmOs l = l.all fmO
  | [] => by rw [fmOs_nil]; rfl
  | x :: l => by rw [fmOs_cons, List.all_cons, fmOs_all l]
theorem len0 {α : Type} (l : List α) : ((l.length : Int) == 0) = l.isEmpty := by
  cases l <;> simp; omega
theorem lenN {α : Type} (l : List α) (n : Nat) : ((l.length : Int) == (n : Int)) = (l.length == n) := ibeq _ _
theorem ieq_no {a b : Int} (h : a ≠ b) : (a == b) = false := by simp [h]

end Go.AI

namespace Go.AI
open Go.Proofs
set_option maxRecDepth 50000

theorem p_fP1
(field : ByteArray) (n m : Int) (args : List Pred) (hl : args.length ≤ 9223372036854775807) (hfs : field.size ≤ 1073741824) (hev : ∀ y ∈ args, PCall Tryz.prog 201 [.agg y.c] (.bool (fmP y))) : PCall Tryz.prog 201 [.agg (Pred.c ⟨1, field, n, m, args⟩)] (.bool (fmP ⟨1, field, n, m, args⟩)) := by
  refine PCall.of h201 mixed h201_d Tryz.func201 rfl call201 (by simp [Tryz.f201]) (by simp [pureL, AV.pure, go_sem]) rfl ?_
  simp only [Tryz.f201, go_sem, ↓reduceIte, toList_beq, Int.reduceBEq, len0]
  repeat' (first
    | ((first | refine PCallK.intro (p_named _ hfs) ?_ | refine PCallK.intro (p_value _) ?_ | refine PCallK.intro (p_tick _) ?_ | refine PCallK.intro (p_everyPred _ hl _ _ fmP hev) ?_); simp only [go_sem, ↓reduceIte, toList_beq, Int.reduceBEq, len0])
    | ((first | refine condK_split _ _ _ (fun hc => ?_) (fun hc => ?_) | refine gsel_split _ _ _ _ (fun hc => ?_) (fun hc => ?_)) <;> simp only [go_sem, ↓reduceIte, hc, Bool.not_true, Bool.not_false, toList_beq, Int.reduceBEq, len0]))
  all_goals (rw [fmP_eq]; cases args <;> (simp_all [okP, noneP, w16, tickB, fmPs_all, fmPs_nil] <;> first | omega | grind | skip))

theorem p_fP2
(field : ByteArray) (n m : Int) (args : List Pred) (hl : args.length ≤ 9223372036854775807) (hfs : field.size ≤ 1073741824) (hev : ∀ y ∈ args, PCall Tryz.prog 201 [.agg y.c] (.bool (fmP y))) : PCall Tryz.prog 201 [.agg (Pred.c ⟨2, field, n, m, args⟩)] (.bool (fmP ⟨2, field, n, m, args⟩)) := by
  refine PCall.of h201 mixed h201_d Tryz.func201 rfl call201 (by simp [Tryz.f201]) (by simp [pureL, AV.pure, go_sem]) rfl ?_
  simp only [Tryz.f201, go_sem, ↓reduceIte, toList_beq, Int.reduceBEq, len0]
  repeat' (first
    | ((first | refine PCallK.intro (p_named _ hfs) ?_ | refine PCallK.intro (p_value _) ?_ | refine PCallK.intro (p_tick _) ?_ | refine PCallK.intro (p_everyPred _ hl _ _ fmP hev) ?_); simp only [go_sem, ↓reduceIte, toList_beq, Int.reduceBEq, len0])
    | ((first | refine condK_split _ _ _ (fun hc => ?_) (fun hc => ?_) | refine gsel_split _ _ _ _ (fun hc => ?_) (fun hc => ?_)) <;> simp only [go_sem, ↓reduceIte, hc, Bool.not_true, Bool.not_false, toList_beq, Int.reduceBEq, len0]))
  all_goals (rw [fmP_eq]; cases args <;> (simp_all [okP, noneP, w16, tickB, fmPs_all, fmPs_nil] <;> first | omega | grind | skip))

theorem p_fP3
(field : ByteArray) (n m : Int) (args : List Pred) (hl : args.length ≤ 9223372036854775807) (hfs : field.size ≤ 1073741824) (hev : ∀ y ∈ args, PCall Tryz.prog 201 [.agg y.c] (.bool (fmP y))) : PCall Tryz.prog 201 [.agg (Pred.c ⟨3, field, n, m, args⟩)] (.bool (fmP ⟨3, field, n, m, args⟩)) := by
  refine PCall.of h201 mixed h201_d Tryz.func201 rfl call201 (by simp [Tryz.f201]) (by simp [pureL, AV.pure, go_sem]) rfl ?_
  simp only [Tryz.f201, go_sem, ↓reduceIte, toList_beq, Int.reduceBEq, len0]
  repeat' (first
    | ((first | refine PCallK.intro (p_named _ hfs) ?_ | refine PCallK.intro (p_value _) ?_ | refine PCallK.intro (p_tick _) ?_ | refine PCallK.intro (p_everyPred _ hl _ _ fmP hev) ?_); simp only [go_sem, ↓reduceIte, toList_beq, Int.reduceBEq, len0])
    | ((first | refine condK_split _ _ _ (fun hc => ?_) (fun hc => ?_) | refine gsel_split _ _ _ _ (fun hc => ?_) (fun hc => ?_)) <;> simp only [go_sem, ↓reduceIte, hc, Bool.not_true, Bool.not_false, toList_beq, Int.reduceBEq, len0]))
  all_goals (rw [fmP_eq]; cases args <;> (simp_all [okP, noneP, w16, tickB, fmPs_all, fmPs_nil] <;> first | omega | grind | skip))

theorem p_fP4
(field : ByteArray) (n m : Int) (args : List Pred) (hl : args.length ≤ 9223372036854775807) (hfs : field.size ≤ 1073741824) (hev : ∀ y ∈ args, PCall Tryz.prog 201 [.agg y.c] (.bool (fmP y))) : PCall Tryz.prog 201 [.agg (Pred.c ⟨4, field, n, m, args⟩)] (.bool (fmP ⟨4, field, n, m, args⟩)) := by
  refine PCall.of h201 mixed h201_d Tryz.func201 rfl call201 (by simp [Tryz.f201]) (by simp [pureL, AV.pure, go_sem]) rfl ?_
  simp only [Tryz.f201, go_sem, ↓reduceIte, toList_beq, Int.reduceBEq, len0]
  repeat' (first
    | ((first | refine PCallK.intro (p_named _ hfs) ?_ | refine PCallK.intro (p_value _) ?_ | refine PCallK.intro (p_tick _) ?_ | refine PCallK.intro (p_everyPred _ hl _ _ fmP hev) ?_); simp only [go_sem, ↓reduceIte, toList_beq, Int.reduceBEq, len0])
    | ((first | refine condK_split _ _ _ (fun hc => ?_) (fun hc => ?_) | refine gsel_split _ _ _ _ (fun hc => ?_) (fun hc => ?_)) <;> simp only [go_sem, ↓reduceIte, hc, Bool.not_true, Bool.not_false, toList_beq, Int.reduceBEq, len0]))
  all_goals (rw [fmP_eq]; cases args <;> (simp_all [okP, noneP, w16, tickB, fmPs_all, fmPs_nil] <;> first | omega | grind | skip))

theorem p_fP5
(field : ByteArray) (n m : Int) (args : List Pred) (hl : args.length ≤ 9223372036854775807) (hfs : field.size ≤ 1073741824) (hev : ∀ y ∈ args, PCall Tryz.prog 201 [.agg y.c] (.bool (fmP y))) : PCall Tryz.prog 201 [.agg (Pred.c ⟨5, field, n, m, args⟩)] (.bool (fmP ⟨5, field, n, m, args⟩)) := by
  refine PCall.of h201 mixed h201_d Tryz.func201 rfl call201 (by simp [Tryz.f201]) (by simp [pureL, AV.pure, go_sem]) rfl ?_
  simp only [Tryz.f201, go_sem, ↓reduceIte, toList_beq, Int.reduceBEq, len0]
  repeat' (first
    | ((first | refine PCallK.intro (p_named _ hfs) ?_ | refine PCallK.intro (p_value _) ?_ | refine PCallK.intro (p_tick _) ?_ | refine PCallK.intro (p_everyPred _ hl _ _ fmP hev) ?_); simp only [go_sem, ↓reduceIte, toList_beq, Int.reduceBEq, len0])
    | ((first | refine condK_split _ _ _ (fun hc => ?_) (fun hc => ?_) | refine gsel_split _ _ _ _ (fun hc => ?_) (fun hc => ?_)) <;> simp only [go_sem, ↓reduceIte, hc, Bool.not_true, Bool.not_false, toList_beq, Int.reduceBEq, len0]))
  all_goals (rw [fmP_eq]; cases args <;> (simp_all [okP, noneP, w16, tickB, fmPs_all, fmPs_nil] <;> first | omega | grind | skip))

theorem p_fP6
(field : ByteArray) (n m : Int) (args : List Pred) (hl : args.length ≤ 9223372036854775807) (hfs : field.size ≤ 1073741824) (hev : ∀ y ∈ args, PCall Tryz.prog 201 [.agg y.c] (.bool (fmP y))) : PCall Tryz.prog 201 [.agg (Pred.c ⟨6, field, n, m, args⟩)] (.bool (fmP ⟨6, field, n, m, args⟩)) := by
  refine PCall.of h201 mixed h201_d Tryz.func201 rfl call201 (by simp [Tryz.f201]) (by simp [pureL, AV.pure, go_sem]) rfl ?_
  simp only [Tryz.f201, go_sem, ↓reduceIte, toList_beq, Int.reduceBEq, len0]
  repeat' (first
    | ((first | refine PCallK.intro (p_named _ hfs) ?_ | refine PCallK.intro (p_value _) ?_ | refine PCallK.intro (p_tick _) ?_ | refine PCallK.intro (p_everyPred _ hl _ _ fmP hev) ?_); simp only [go_sem, ↓reduceIte, toList_beq, Int.reduceBEq, len0])
    | ((first | refine condK_split _ _ _ (fun hc => ?_) (fun hc => ?_) | refine gsel_split _ _ _ _ (fun hc => ?_) (fun hc => ?_)) <;> simp only [go_sem, ↓reduceIte, hc, Bool.not_true, Bool.not_false, toList_beq, Int.reduceBEq, len0]))
  all_goals (rw [fmP_eq]; cases args <;> (simp_all [okP, noneP, w16, tickB, fmPs_all, fmPs_nil] <;> first | omega | grind | skip))

theorem p_fP7
(field : ByteArray) (n m : Int) (args : List Pred) (hl : args.length ≤ 9223372036854775807) (hfs : field.size ≤ 1073741824) (hev : ∀ y ∈ args, PCall Tryz.prog 201 [.agg y.c] (.bool (fmP y))) : PCall Tryz.prog 201 [.agg (Pred.c ⟨7, field, n, m, args⟩)] (.bool (fmP ⟨7, field, n, m, args⟩)) := by
  refine PCall.of h201 mixed h201_d Tryz.func201 rfl call201 (by simp [Tryz.f201]) (by simp [pureL, AV.pure, go_sem]) rfl ?_
  simp only [Tryz.f201, go_sem, ↓reduceIte, toList_beq, Int.reduceBEq, len0]
  repeat' (first
    | ((first | refine PCallK.intro (p_named _ hfs) ?_ | refine PCallK.intro (p_value _) ?_ | refine PCallK.intro (p_tick _) ?_ | refine PCallK.intro (p_everyPred _ hl _ _ fmP hev) ?_); simp only [go_sem, ↓reduceIte, toList_beq, Int.reduceBEq, len0])
    | ((first | refine condK_split _ _ _ (fun hc => ?_) (fun hc => ?_) | refine gsel_split _ _ _ _ (fun hc => ?_) (fun hc => ?_)) <;> simp only [go_sem, ↓reduceIte, hc, Bool.not_true, Bool.not_false, toList_beq, Int.reduceBEq, len0]))
  all_goals (rw [fmP_eq]; cases args <;> (simp_all [okP, noneP, w16, tickB, fmPs_all, fmPs_nil] <;> first | omega | grind | skip))

theorem p_fP8
(field : ByteArray) (n m : Int) (args : List Pred) (hl : args.length ≤ 9223372036854775807) (hfs : field.size ≤ 1073741824) (hev : ∀ y ∈ args, PCall Tryz.prog 201 [.agg y.c] (.bool (fmP y))) : PCall Tryz.prog 201 [.agg (Pred.c ⟨8, field, n, m, args⟩)] (.bool (fmP ⟨8, field, n, m, args⟩)) := by
  refine PCall.of h201 mixed h201_d Tryz.func201 rfl call201 (by simp [Tryz.f201]) (by simp [pureL, AV.pure, go_sem]) rfl ?_
  simp only [Tryz.f201, go_sem, ↓reduceIte, toList_beq, Int.reduceBEq, len0]
  repeat' (first
    | ((first | refine PCallK.intro (p_named _ hfs) ?_ | refine PCallK.intro (p_value _) ?_ | refine PCallK.intro (p_tick _) ?_ | refine PCallK.intro (p_everyPred _ hl _ _ fmP hev) ?_); simp only [go_sem, ↓reduceIte, toList_beq, Int.reduceBEq, len0])
    | ((first | refine condK_split _ _ _ (fun hc => ?_) (fun hc => ?_) | refine gsel_split _ _ _ _ (fun hc => ?_) (fun hc => ?_)) <;> simp only [go_sem, ↓reduceIte, hc, Bool.not_true, Bool.not_false, toList_beq, Int.reduceBEq, len0]))
  all_goals (rw [fmP_eq]; cases args <;> (simp_all [okP, noneP, w16, tickB, fmPs_all, fmPs_nil] <;> first | omega | grind | skip))

theorem p_fP9
(field : ByteArray) (n m : Int) (args : List Pred) (hl : args.length ≤ 9223372036854775807) (hfs : field.size ≤ 1073741824) (hev : ∀ y ∈ args, PCall Tryz.prog 201 [.agg y.c] (.bool (fmP y))) : PCall Tryz.prog 201 [.agg (Pred.c ⟨9, field, n, m, args⟩)] (.bool (fmP ⟨9, field, n, m, args⟩)) := by
  refine PCall.of h201 mixed h201_d Tryz.func201 rfl call201 (by simp [Tryz.f201]) (by simp [pureL, AV.pure, go_sem]) rfl ?_
  simp only [Tryz.f201, go_sem, ↓reduceIte, toList_beq, Int.reduceBEq, len0]
  repeat' (first
    | ((first | refine PCallK.intro (p_named _ hfs) ?_ | refine PCallK.intro (p_value _) ?_ | refine PCallK.intro (p_tick _) ?_ | refine PCallK.intro (p_everyPred _ hl _ _ fmP hev) ?_); simp only [go_sem, ↓reduceIte, toList_beq, Int.reduceBEq, len0])
    | ((first | refine condK_split _ _ _ (fun hc => ?_) (fun hc => ?_) | refine gsel_split _ _ _ _ (fun hc => ?_) (fun hc => ?_)) <;> simp only [go_sem, ↓reduceIte, hc, Bool.not_true, Bool.not_false, toList_beq, Int.reduceBEq, len0]))
  all_goals (rw [fmP_eq]; cases args <;> (simp_all [okP, noneP, w16, tickB, fmPs_all, fmPs_nil] <;> first | omega | grind | skip))

theorem p_fP0 (kind : Int) (h1 : kind ≠ 1) (h2 : kind ≠ 2) (h3 : kind ≠ 3) (h4 : kind ≠ 4) (h5 : kind ≠ 5) (h6 : kind ≠ 6) (h7 : kind ≠ 7) (h8 : kind ≠ 8) (h9 : kind ≠ 9)
    (field : ByteArray) (n m : Int) (args : List Pred) : PCall Tryz.prog 201 [.agg (Pred.c ⟨kind, field, n, m, args⟩)] (.bool (fmP ⟨kind, field, n, m, args⟩)) := by
  refine PCall.of h201 mixed h201_d Tryz.func201 rfl call201 (by simp [Tryz.f201]) (by simp [pureL, AV.pure, go_sem]) rfl ?_
  simp only [Tryz.f201, go_sem, ↓reduceIte, toList_beq, len0, ieq_no h1, ieq_no h2, ieq_no h3, ieq_no h4, ieq_no h5, ieq_no h6, ieq_no h7, ieq_no h8, ieq_no h9]
  repeat' (first
    | ((first | refine condK_split _ _ _ (fun hc => ?_) (fun hc => ?_) | refine gsel_split _ _ _ _ (fun hc => ?_) (fun hc => ?_)) <;> simp only [go_sem, ↓reduceIte, hc, Bool.not_true, Bool.not_false, toList_beq, len0, ieq_no h1, ieq_no h2, ieq_no h3, ieq_no h4, ieq_no h5, ieq_no h6, ieq_no h7, ieq_no h8, ieq_no h9]))
  all_goals (rw [fmP_eq]; simp [okP, *])

theorem p_formedPred : ∀ x : Pred, bulkL x.c ≤ 1073741824 → PCall Tryz.prog 201 [.agg x.c] (.bool (fmP x)) := by
  refine Pred.ind _ fun x ih => fun hb => ?_
  have hl : x.args.length ≤ 9223372036854775807 := Nat.le_trans (lPred_bn (Pred.bl_args hb)) (by decide)
  have hfs := Pred.bk_field hb
  have hev : ∀ y ∈ x.args, PCall Tryz.prog 201 [.agg y.c] (.bool (fmP y)) := fun y hm =>
    ih y hm (by have := lPred_bk (Pred.bl_args hb) hm; simpa only [AV.bulk] using this)
  obtain ⟨kind, field, n, m, args⟩ := x
  by_cases h1 : kind = 1
  · subst h1; exact p_fP1 field n m args hl hfs hev
  by_cases h2 : kind = 2
  · subst h2; exact p_fP2 field n m args hl hfs hev
  by_cases h3 : kind = 3
  · subst h3; exact p_fP3 field n m args hl hfs hev
  by_cases h4 : kind = 4
  · subst h4; exact p_fP4 field n m args hl hfs hev
  by_cases h5 : kind = 5
  · subst h5; exact p_fP5 field n m args hl hfs hev
  by_cases h6 : kind = 6
  · subst h6; exact p_fP6 field n m args hl hfs hev
  by_cases h7 : kind = 7
  · subst h7; exact p_fP7 field n m args hl hfs hev
  by_cases h8 : kind = 8
  · subst h8; exact p_fP8 field n m args hl hfs hev
  by_cases h9 : kind = 9
  · subst h9; exact p_fP9 field n m args hl hfs hev
  exact p_fP0 kind h1 h2 h3 h4 h5 h6 h7 h8 h9 field n m args

end Go.AI

namespace Go.AI
open Go.Proofs
set_option maxRecDepth 50000

theorem z_pred : [AV.int .i64 0, .str ⟨#[]⟩, .int .i64 0, .int .i64 0, .sl none []] = Pred.z.c := rfl

theorem p_fO1
(pred : Pred) (field : ByteArray) (n : Int) (args : List Policy) (hl : args.length ≤ 9223372036854775807) (hfs : field.size ≤ 1073741824) (hp : bulkL pred.c ≤ 1073741824) (hev : ∀ y ∈ args, PCall Tryz.prog 155 [.agg y.c] (.bool (fmO y))) : PCall Tryz.prog 155 [.agg (Policy.c ⟨1, pred, field, n, args⟩)] (.bool (fmO ⟨1, pred, field, n, args⟩)) := by
  refine PCall.of h155 mixed h155_d Tryz.func155 rfl call155 (by simp [Tryz.f155]) (by simp [pureL, AV.pure, go_sem]) rfl ?_
  simp only [Tryz.f155, go_sem, ↓reduceIte, toList_beq, Int.reduceBEq, len0]
  repeat' (first
    | ((first | refine PCallK.intro (PCall.lend (p_SamePred pred Pred.z)) ?_ | refine PCallK.intro (p_named _ hfs) ?_ | refine PCallK.intro (p_value _) ?_ | refine PCallK.intro (p_formedPred _ hp) ?_ | refine PCallK.intro (p_everyPolicy _ hl _ _ fmO hev) ?_); simp only [go_sem, ↓reduceIte, toList_beq, Int.reduceBEq, len0])
    | ((first | refine condK_split _ _ _ (fun hc => ?_) (fun hc => ?_) | refine gsel_split _ _ _ _ (fun hc => ?_) (fun hc => ?_)) <;> simp only [go_sem, ↓reduceIte, hc, Bool.not_true, Bool.not_false, toList_beq, Int.reduceBEq, len0]))
  all_goals (rw [fmO_eq]; cases args <;> (simp_all [okO, w16, fmOs_all, fmOs_nil] <;> first | omega | grind | skip))

theorem p_fO2
(pred : Pred) (field : ByteArray) (n : Int) (args : List Policy) (hl : args.length ≤ 9223372036854775807) (hfs : field.size ≤ 1073741824) (hp : bulkL pred.c ≤ 1073741824) (hev : ∀ y ∈ args, PCall Tryz.prog 155 [.agg y.c] (.bool (fmO y))) : PCall Tryz.prog 155 [.agg (Policy.c ⟨2, pred, field, n, args⟩)] (.bool (fmO ⟨2, pred, field, n, args⟩)) := by
  refine PCall.of h155 mixed h155_d Tryz.func155 rfl call155 (by simp [Tryz.f155]) (by simp [pureL, AV.pure, go_sem]) rfl ?_
  simp only [Tryz.f155, go_sem, ↓reduceIte, toList_beq, Int.reduceBEq, len0]
  repeat' (first
    | ((first | refine PCallK.intro (PCall.lend (p_SamePred pred Pred.z)) ?_ | refine PCallK.intro (p_named _ hfs) ?_ | refine PCallK.intro (p_value _) ?_ | refine PCallK.intro (p_formedPred _ hp) ?_ | refine PCallK.intro (p_everyPolicy _ hl _ _ fmO hev) ?_); simp only [go_sem, ↓reduceIte, toList_beq, Int.reduceBEq, len0])
    | ((first | refine condK_split _ _ _ (fun hc => ?_) (fun hc => ?_) | refine gsel_split _ _ _ _ (fun hc => ?_) (fun hc => ?_)) <;> simp only [go_sem, ↓reduceIte, hc, Bool.not_true, Bool.not_false, toList_beq, Int.reduceBEq, len0]))
  all_goals (rw [fmO_eq]; cases args <;> (simp_all [okO, w16, fmOs_all, fmOs_nil] <;> first | omega | grind | skip))

theorem p_fO3
(pred : Pred) (field : ByteArray) (n : Int) (args : List Policy) (hl : args.length ≤ 9223372036854775807) (hfs : field.size ≤ 1073741824) (hp : bulkL pred.c ≤ 1073741824) (hev : ∀ y ∈ args, PCall Tryz.prog 155 [.agg y.c] (.bool (fmO y))) : PCall Tryz.prog 155 [.agg (Policy.c ⟨3, pred, field, n, args⟩)] (.bool (fmO ⟨3, pred, field, n, args⟩)) := by
  refine PCall.of h155 mixed h155_d Tryz.func155 rfl call155 (by simp [Tryz.f155]) (by simp [pureL, AV.pure, go_sem]) rfl ?_
  simp only [Tryz.f155, go_sem, ↓reduceIte, toList_beq, Int.reduceBEq, len0]
  repeat' (first
    | ((first | refine PCallK.intro (PCall.lend (p_SamePred pred Pred.z)) ?_ | refine PCallK.intro (p_named _ hfs) ?_ | refine PCallK.intro (p_value _) ?_ | refine PCallK.intro (p_formedPred _ hp) ?_ | refine PCallK.intro (p_everyPolicy _ hl _ _ fmO hev) ?_); simp only [go_sem, ↓reduceIte, toList_beq, Int.reduceBEq, len0])
    | ((first | refine condK_split _ _ _ (fun hc => ?_) (fun hc => ?_) | refine gsel_split _ _ _ _ (fun hc => ?_) (fun hc => ?_)) <;> simp only [go_sem, ↓reduceIte, hc, Bool.not_true, Bool.not_false, toList_beq, Int.reduceBEq, len0]))
  all_goals (rw [fmO_eq]; cases args <;> (simp_all [okO, w16, fmOs_all, fmOs_nil] <;> first | omega | grind | skip))

theorem p_fO4
(pred : Pred) (field : ByteArray) (n : Int) (args : List Policy) (hl : args.length ≤ 9223372036854775807) (hfs : field.size ≤ 1073741824) (hp : bulkL pred.c ≤ 1073741824) (hev : ∀ y ∈ args, PCall Tryz.prog 155 [.agg y.c] (.bool (fmO y))) : PCall Tryz.prog 155 [.agg (Policy.c ⟨4, pred, field, n, args⟩)] (.bool (fmO ⟨4, pred, field, n, args⟩)) := by
  refine PCall.of h155 mixed h155_d Tryz.func155 rfl call155 (by simp [Tryz.f155]) (by simp [pureL, AV.pure, go_sem]) rfl ?_
  simp only [Tryz.f155, go_sem, ↓reduceIte, toList_beq, Int.reduceBEq, len0]
  repeat' (first
    | ((first | refine PCallK.intro (PCall.lend (p_SamePred pred Pred.z)) ?_ | refine PCallK.intro (p_named _ hfs) ?_ | refine PCallK.intro (p_value _) ?_ | refine PCallK.intro (p_formedPred _ hp) ?_ | refine PCallK.intro (p_everyPolicy _ hl _ _ fmO hev) ?_); simp only [go_sem, ↓reduceIte, toList_beq, Int.reduceBEq, len0])
    | ((first | refine condK_split _ _ _ (fun hc => ?_) (fun hc => ?_) | refine gsel_split _ _ _ _ (fun hc => ?_) (fun hc => ?_)) <;> simp only [go_sem, ↓reduceIte, hc, Bool.not_true, Bool.not_false, toList_beq, Int.reduceBEq, len0]))
  all_goals (rw [fmO_eq]; cases args <;> (simp_all [okO, w16, fmOs_all, fmOs_nil] <;> first | omega | grind | skip))

theorem p_fO5
(pred : Pred) (field : ByteArray) (n : Int) (args : List Policy) (hl : args.length ≤ 9223372036854775807) (hfs : field.size ≤ 1073741824) (hp : bulkL pred.c ≤ 1073741824) (hev : ∀ y ∈ args, PCall Tryz.prog 155 [.agg y.c] (.bool (fmO y))) : PCall Tryz.prog 155 [.agg (Policy.c ⟨5, pred, field, n, args⟩)] (.bool (fmO ⟨5, pred, field, n, args⟩)) := by
  refine PCall.of h155 mixed h155_d Tryz.func155 rfl call155 (by simp [Tryz.f155]) (by simp [pureL, AV.pure, go_sem]) rfl ?_
  simp only [Tryz.f155, go_sem, ↓reduceIte, toList_beq, Int.reduceBEq, len0]
  repeat' (first
    | ((first | refine PCallK.intro (PCall.lend (p_SamePred pred Pred.z)) ?_ | refine PCallK.intro (p_named _ hfs) ?_ | refine PCallK.intro (p_value _) ?_ | refine PCallK.intro (p_formedPred _ hp) ?_ | refine PCallK.intro (p_everyPolicy _ hl _ _ fmO hev) ?_); simp only [go_sem, ↓reduceIte, toList_beq, Int.reduceBEq, len0])
    | ((first | refine condK_split _ _ _ (fun hc => ?_) (fun hc => ?_) | refine gsel_split _ _ _ _ (fun hc => ?_) (fun hc => ?_)) <;> simp only [go_sem, ↓reduceIte, hc, Bool.not_true, Bool.not_false, toList_beq, Int.reduceBEq, len0]))
  all_goals (rw [fmO_eq]; cases args <;> (simp_all [okO, w16, fmOs_all, fmOs_nil] <;> first | omega | grind | skip))

theorem p_fO0 (kind : Int) (h1 : kind ≠ 1) (h2 : kind ≠ 2) (h3 : kind ≠ 3) (h4 : kind ≠ 4) (h5 : kind ≠ 5)
    (pred : Pred) (field : ByteArray) (n : Int) (args : List Policy) : PCall Tryz.prog 155 [.agg (Policy.c ⟨kind, pred, field, n, args⟩)] (.bool (fmO ⟨kind, pred, field, n, args⟩)) := by
  refine PCall.of h155 mixed h155_d Tryz.func155 rfl call155 (by simp [Tryz.f155]) (by simp [pureL, AV.pure, go_sem]) rfl ?_
  simp only [Tryz.f155, go_sem, ↓reduceIte, toList_beq, len0, ieq_no h1, ieq_no h2, ieq_no h3, ieq_no h4, ieq_no h5]
  repeat' (first
    | ((first | refine PCallK.intro (PCall.lend (p_SamePred pred Pred.z)) ?_); simp only [go_sem, ↓reduceIte, toList_beq, len0, ieq_no h1, ieq_no h2, ieq_no h3, ieq_no h4, ieq_no h5])
    | ((first | refine condK_split _ _ _ (fun hc => ?_) (fun hc => ?_) | refine gsel_split _ _ _ _ (fun hc => ?_) (fun hc => ?_)) <;> simp only [go_sem, ↓reduceIte, hc, Bool.not_true, Bool.not_false, toList_beq, len0, ieq_no h1, ieq_no h2, ieq_no h3, ieq_no h4, ieq_no h5]))
  all_goals (rw [fmO_eq]; simp [okO, *])

theorem p_formedPolicy : ∀ x : Policy, bulkL x.c ≤ 1073741824 → PCall Tryz.prog 155 [.agg x.c] (.bool (fmO x)) := by
  refine Policy.ind _ fun x ih => fun hb => ?_
  have hl : x.args.length ≤ 9223372036854775807 := Nat.le_trans (lPolicy_bn (Policy.bl_args hb)) (by decide)
  have hfs := Policy.bk_field hb
  have hp := Policy.bs_pred hb
  have hev : ∀ y ∈ x.args, PCall Tryz.prog 155 [.agg y.c] (.bool (fmO y)) := fun y hm =>
    ih y hm (by have := lPolicy_bk (Policy.bl_args hb) hm; simpa only [AV.bulk] using this)
  obtain ⟨kind, pred, field, n, args⟩ := x
  by_cases h1 : kind = 1
  · subst h1; exact p_fO1 pred field n args hl hfs hp hev
  by_cases h2 : kind = 2
  · subst h2; exact p_fO2 pred field n args hl hfs hp hev
  by_cases h3 : kind = 3
  · subst h3; exact p_fO3 pred field n args hl hfs hp hev
  by_cases h4 : kind = 4
  · subst h4; exact p_fO4 pred field n args hl hfs hp hev
  by_cases h5 : kind = 5
  · subst h5; exact p_fO5 pred field n args hl hfs hp hev
  exact p_fO0 kind h1 h2 h3 h4 h5 pred field n args

theorem p_CkO1 {H : Heap} (x : Policy) (hb : bulkL x.c ≤ 1073741824) (o : Nat) (ho : H[o]? = some (some x.c)) : SCall Tryz.prog 154 [.ptr o 0] H (.bool (fmO x)) := by
  refine ACall.drop rfl ?_
  refine ACall.of h154 rfl mixed h154_d Tryz.func154 rfl call154 (by simp [Tryz.f154]) ?_
  simp only [Tryz.f154, go_sem, ↓reduceIte, ho]
  repeat' (first
    | ((first | refine PCallK.intro (p_formedPolicy _ hb) ?_); simp only [go_sem, ↓reduceIte, ho])
    | ((first | refine condK_split _ _ _ (fun hc => ?_) (fun hc => ?_) | refine gsel_split _ _ _ _ (fun hc => ?_) (fun hc => ?_)) <;> simp only [go_sem, ↓reduceIte, hc, Bool.not_true, Bool.not_false, ho]))

theorem p_CheckPolicy (x : Policy) (hb : bulkL x.c ≤ 1073741824) : PCall Tryz.prog 79 [.agg x.c] (.int .i64 (ckO x)) := by
  refine PCall.of h79 mixed h79_d Tryz.func79 rfl call79 (by simp [Tryz.f79]) (by simp [pureL, AV.pure, go_sem]) rfl ?_
  simp only [Tryz.f79, go_sem, ↓reduceIte]
  repeat' (first
    | ((first | refine PCallK.intro (p_sizePolicy _) ?_ | refine ACallK.ofS (p_check (szO x) 154 [.ptr 0 0] (fmO x) (p_CkO1 x hb 0 rfl)) ?_); simp only [go_sem, ↓reduceIte])
    | ((first | refine condK_split _ _ _ (fun hc => ?_) (fun hc => ?_) | refine gsel_split _ _ _ _ (fun hc => ?_) (fun hc => ?_)) <;> simp only [go_sem, ↓reduceIte, hc, Bool.not_true, Bool.not_false]))
  all_goals rfl

end Go.AI

namespace Go.AI
open Go.Proofs
set_option maxRecDepth 50000

@[go_sem] theorem lPred_one (o : Option Nat) (x : Pred) : AV.sl o [AV.agg (x.cf none)] = AV.sl o (lPred [x]) := by rw [lPred_eq]; rfl
@[go_sem] theorem lPred_two (o : Option Nat) (x y : Pred) : AV.sl o [AV.agg (x.cf none), AV.agg (y.cf none)] = AV.sl o (lPred [x, y]) := by rw [lPred_eq]; rfl
@[go_sem] theorem lPolicy_one (o : Option Nat) (x : Policy) : AV.sl o [AV.agg (x.cf none none)] = AV.sl o (lPolicy [x]) := by rw [lPolicy_eq]; rfl
@[go_sem] theorem lPolicy_two (o : Option Nat) (x y : Policy) : AV.sl o [AV.agg (x.cf none none), AV.agg (y.cf none none)] = AV.sl o (lPolicy [x, y]) := by rw [lPolicy_eq]; rfl
@[go_sem] theorem lStage_one (o : Option Nat) (x : Stage) : AV.sl o [AV.agg (x.cf none none none)] = AV.sl o (lStage [x]) := rfl
@[go_sem] theorem lStage_two (o : Option Nat) (x y : Stage) : AV.sl o [AV.agg (x.cf none none none), AV.agg (y.cf none none none)] = AV.sl o (lStage [x, y]) := rfl

def bAt (n : Int) : Pred := ⟨3, portS, n, 0, []⟩
def bFalse : Pred := ⟨2, ⟨#[]⟩, 0, 0, []⟩
def bOr (x y : Pred) : Pred := ⟨8, ⟨#[]⟩, 0, 0, [x, y]⟩
def bNot (x : Pred) : Pred := ⟨6, ⟨#[]⟩, 0, 0, [x]⟩
def bFilter (x : Pred) : Policy := ⟨1, x, ⟨#[]⟩, 0, []⟩
def bSet (s : ByteArray) (n : Int) : Policy := ⟨2, Pred.z, s, n, []⟩
def bUnion (x y : Policy) : Policy := ⟨3, Pred.z, ⟨#[]⟩, 0, [x, y]⟩
def bSeq (x y : Policy) : Policy := ⟨4, Pred.z, ⟨#[]⟩, 0, [x, y]⟩
def bStar (x : Policy) : Policy := ⟨5, Pred.z, ⟨#[]⟩, 0, [x]⟩
def joinL {α : Type} (z : α) (two : α → α → α) : List α → α
  | [] => z
  | x :: l => l.foldl two x
def bEither (l : List Pred) : Pred := joinL bFalse bOr l
def bWired (t : Tenant) : Pred := bEither (t.wires.map fun w => bAt w.src)
def outIdx : Nat → List Port → List Int
  | _, [] => []
  | i, x :: l => if x.edge ≠ -1 then (i : Int) :: outIdx (i + 1) l else outIdx (i + 1) l
def bOuter (t : Tenant) : Pred := bEither ((outIdx 0 t.ports).map bAt)
def bWire (w : Wire) : Policy := bSeq (bFilter (bAt w.src)) (bSet portS w.dst)
def bWires (t : Tenant) : Policy := joinL (bFilter bFalse) bUnion (t.wires.map bWire)
def bClosed (t : Tenant) (p : Policy) : Policy :=
  if t.wires = [] then p else bSeq (bSeq p (bStar (bSeq (bWires t) p))) (bFilter (bNot (bWired t)))

theorem p_at (n : Int) : PCall Tryz.prog 83 [.int .i64 n] (.agg (bAt n).c) := by
  refine PCall.ofB h83 mixed h83_d Tryz.func83 rfl call83 (by simp [Tryz.f83]) (by simp [pureL, AV.pure, go_sem]) (by simp [pureL, AV.pure, go_sem]) ?_
  simp only [Tryz.f83, go_sem, ↓reduceIte]
  rfl

theorem q_at (n : Int) : PCall Tryz.prog 81 [.int .i64 n] (.agg (bAt n).c) := by
  refine PCall.ofB h81 mixed h81_d Tryz.func81 rfl call81 (by simp [Tryz.f81]) (by simp [pureL, AV.pure, go_sem]) (by simp [pureL, AV.pure, go_sem]) ?_
  simp only [Tryz.f81, go_sem, ↓reduceIte]
  rfl

theorem p_filter (x : Pred) : PCall Tryz.prog 75 [.agg x.c] (.agg (bFilter x).c) := by
  refine PCall.ofB h75 mixed h75_d Tryz.func75 rfl call75 (by simp [Tryz.f75]) (by simp [pureL, AV.pure, go_sem]) (by simp [pureL, AV.pure, go_sem]) ?_
  simp only [Tryz.f75, go_sem, ↓reduceIte]
  rfl

theorem q_Filter (x : Pred) : PCall Tryz.prog 78 [.agg x.c] (.agg (bFilter x).c) := by
  refine PCall.ofB h78 mixed h78_d Tryz.func78 rfl call78 (by simp [Tryz.f78]) (by simp [pureL, AV.pure, go_sem]) (by simp [pureL, AV.pure, go_sem]) ?_
  simp only [Tryz.f78, go_sem, ↓reduceIte]
  rfl

theorem p_seq (x y : Policy) : PCall Tryz.prog 74 [.agg x.c, .agg y.c] (.agg (bSeq x y).c) := by
  refine PCall.ofB h74 mixed h74_d Tryz.func74 rfl call74 (by simp [Tryz.f74]) (by simp [pureL, AV.pure, go_sem]) (by simp [pureL, AV.pure, go_sem]) ?_
  simp only [Tryz.f74, go_sem, ↓reduceIte]
  rfl

theorem q_Seq (x y : Policy) : PCall Tryz.prog 77 [.agg x.c, .agg y.c] (.agg (bSeq x y).c) := by
  refine PCall.ofB h77 mixed h77_d Tryz.func77 rfl call77 (by simp [Tryz.f77]) (by simp [pureL, AV.pure, go_sem]) (by simp [pureL, AV.pure, go_sem]) ?_
  simp only [Tryz.f77, go_sem, ↓reduceIte]
  rfl

theorem q_Union (x y : Policy) : PCall Tryz.prog 86 [.agg x.c, .agg y.c] (.agg (bUnion x y).c) := by
  refine PCall.ofB h86 mixed h86_d Tryz.func86 rfl call86 (by simp [Tryz.f86]) (by simp [pureL, AV.pure, go_sem]) (by simp [pureL, AV.pure, go_sem]) ?_
  simp only [Tryz.f86, go_sem, ↓reduceIte]
  rfl

theorem q_Star (x : Policy) : PCall Tryz.prog 76 [.agg x.c] (.agg (bStar x).c) := by
  refine PCall.ofB h76 mixed h76_d Tryz.func76 rfl call76 (by simp [Tryz.f76]) (by simp [pureL, AV.pure, go_sem]) (by simp [pureL, AV.pure, go_sem]) ?_
  simp only [Tryz.f76, go_sem, ↓reduceIte]
  rfl

theorem q_Put (s : ByteArray) (n : Int) : PCall Tryz.prog 47 [.str s, .int .i64 n] (.agg (bSet s n).c) := by
  refine PCall.ofB h47 mixed h47_d Tryz.func47 rfl call47 (by simp [Tryz.f47]) (by simp [pureL, AV.pure, go_sem]) (by simp [pureL, AV.pure, go_sem]) ?_
  simp only [Tryz.f47, go_sem, ↓reduceIte]
  rfl

theorem p_either1 (x y : Pred) : PCall Tryz.prog 157 [.agg x.c, .agg y.c] (.agg (bOr x y).c) := by
  refine PCall.ofB h157 mixed h157_d Tryz.func157 rfl call157 (by simp [Tryz.f157]) (by simp [pureL, AV.pure, go_sem]) (by simp [pureL, AV.pure, go_sem]) ?_
  simp only [Tryz.f157, go_sem, ↓reduceIte]
  rfl

theorem p_Wires1 (x y : Policy) : PCall Tryz.prog 85 [.agg x.c, .agg y.c] (.agg (bUnion x y).c) := by
  refine PCall.ofB h85 mixed h85_d Tryz.func85 rfl call85 (by simp [Tryz.f85]) (by simp [pureL, AV.pure, go_sem]) (by simp [pureL, AV.pure, go_sem]) ?_
  simp only [Tryz.f85, go_sem, ↓reduceIte]
  rfl

end Go.AI

namespace Go.AI
open Go.Proofs
set_option maxRecDepth 50000

theorem p_joinPred (l : List Pred) (hl : l.length ≤ 1073741824) (z : Pred) : PCall Tryz.prog 156 [.sl none (lPred l), .agg z.c, .fn (.func 157) [] []] (.agg (joinL z bOr l).c) := by
  refine PCall.ofB h156 mixed h156_d Tryz.func156 rfl call156 (by simp [Tryz.f156]) (by simp [pureL, AV.pure, go_sem]) (by simp [pureL, AV.pure, go_sem]) ?_
  simp only [Tryz.f156, go_sem, ↓reduceIte]
  cases l with
  | nil =>
    have g0 : (((0 : Nat) : Int) == 0) = true := rfl
    simp only [go_sem, ↓reduceIte, g0]
    rfl
  | cons x r =>
    have g0 : (((r.length + 1 : Nat) : Int) == 0) = false := by simp; omega
    have g1 : (1 : Int) ≤ ((r.length + 1 : Nat) : Int) := by omega
    have g2 : (0 : Int) < ((r.length + 1 : Nat) : Int) := by omega
    have hx : (x :: r)[0]? = some x := rfl
    have hd : List.drop 1 (x :: r) = r := rfl
    simp only [go_sem, ↓reduceIte, g0, g1, g2, lPred_get hx, Int.toNat_one, hd, Int.toNat_natCast, List.take_length]
    repeat' (first
      | ((first | refine condK_split _ _ _ (fun hc => ?_) (fun hc => ?_) | refine gsel_split _ _ _ _ (fun hc => ?_) (fun hc => ?_)) <;> simp only [go_sem, ↓reduceIte, hc, Bool.not_true, Bool.not_false, g0, g1, g2, lPred_get hx, hd]))
    refine awp_lst r (fun o l => l.foldl bOr o) (fun _ _ => True) (fun k o => [(2, .fn (.func 157) [] []), (6, .ptr 1 0), (7, .ptr 2 0), (18, .sl none (lPred r)), (19, .int .i64 r.length), (20, .int .i64 k)]) (fun k o => [some z.c, some (Pred.z.cf (some 5)), some o.c]) x (by simp at hl; omega) trivial rfl rfl ?_ ?_
    · intro k o y ys hd hx _ hF h0 h1 hw
      simp only [go_sem, ↓reduceIte, h0, h1, lPred_get hx]
      repeat' (first
        | ((first | refine ACallK.ofP (p_either1 _ _) ?_); simp only [go_sem, ↓reduceIte, h0, h1, hw, lPred_get hx])
        | ((first | refine condK_split _ _ _ (fun hc => ?_) (fun hc => ?_) | refine gsel_split _ _ _ _ (fun hc => ?_) (fun hc => ?_)) <;> simp only [go_sem, ↓reduceIte, hc, Bool.not_true, Bool.not_false, h0, h1, hw, lPred_get hx]))
      exact ⟨_, by rw [List.foldl_cons], rfl, rfl⟩
    · intro o _ hF
      simp only [go_sem, ↓reduceIte, Int.lt_irrefl, decide_false]
      rw [joinL, hF]; rfl

theorem p_joinPolicy (l : List Policy) (hl : l.length ≤ 1073741824) (z : Policy) : PCall Tryz.prog 84 [.sl none (lPolicy l), .agg z.c, .fn (.func 85) [] []] (.agg (joinL z bUnion l).c) := by
  refine PCall.ofB h84 mixed h84_d Tryz.func84 rfl call84 (by simp [Tryz.f84]) (by simp [pureL, AV.pure, go_sem]) (by simp [pureL, AV.pure, go_sem]) ?_
  simp only [Tryz.f84, go_sem, ↓reduceIte]
  cases l with
  | nil =>
    have g0 : (((0 : Nat) : Int) == 0) = true := rfl
    simp only [go_sem, ↓reduceIte, g0]
    rfl
  | cons x r =>
    have g0 : (((r.length + 1 : Nat) : Int) == 0) = false := by simp; omega
    have g1 : (1 : Int) ≤ ((r.length + 1 : Nat) : Int) := by omega
    have g2 : (0 : Int) < ((r.length + 1 : Nat) : Int) := by omega
    have hx : (x :: r)[0]? = some x := rfl
    have hd : List.drop 1 (x :: r) = r := rfl
    simp only [go_sem, ↓reduceIte, g0, g1, g2, lPolicy_get hx, Int.toNat_one, hd, Int.toNat_natCast, List.take_length]
    repeat' (first
      | ((first | refine condK_split _ _ _ (fun hc => ?_) (fun hc => ?_) | refine gsel_split _ _ _ _ (fun hc => ?_) (fun hc => ?_)) <;> simp only [go_sem, ↓reduceIte, hc, Bool.not_true, Bool.not_false, g0, g1, g2, lPolicy_get hx, hd]))
    refine awp_lst r (fun o l => l.foldl bUnion o) (fun _ _ => True) (fun k o => [(2, .fn (.func 85) [] []), (6, .ptr 1 0), (7, .ptr 2 0), (18, .sl none (lPolicy r)), (19, .int .i64 r.length), (20, .int .i64 k)]) (fun k o => [some z.c, some (Policy.z.cf (some 5) (some 9)), some o.c]) x (by simp at hl; omega) trivial rfl rfl ?_ ?_
    · intro k o y ys hd hx _ hF h0 h1 hw
      simp only [go_sem, ↓reduceIte, h0, h1, lPolicy_get hx]
      repeat' (first
        | ((first | refine ACallK.ofP (p_Wires1 _ _) ?_); simp only [go_sem, ↓reduceIte, h0, h1, hw, lPolicy_get hx])
        | ((first | refine condK_split _ _ _ (fun hc => ?_) (fun hc => ?_) | refine gsel_split _ _ _ _ (fun hc => ?_) (fun hc => ?_)) <;> simp only [go_sem, ↓reduceIte, hc, Bool.not_true, Bool.not_false, h0, h1, hw, lPolicy_get hx]))
      exact ⟨_, by rw [List.foldl_cons], rfl, rfl⟩
    · intro o _ hF
      simp only [go_sem, ↓reduceIte, Int.lt_irrefl, decide_false]
      rw [joinL, hF]; rfl

end Go.AI

namespace Go.AI
open Go.Proofs
set_option maxRecDepth 50000

theorem q_either (l : List Pred) (hl : l.length ≤ 1073741824) : PCall Tryz.prog 82 [.sl none (lPred l)] (.agg (bEither l).c) := by
  refine PCall.ofB h82 mixed h82_d Tryz.func82 rfl call82 (by simp [Tryz.f82]) (by simp [pureL, AV.pure, go_sem]) (by simp [pureL, AV.pure, go_sem]) ?_
  simp only [Tryz.f82, go_sem, ↓reduceIte]
  cases l with
  | nil =>
    have g0 : (((0 : Nat) : Int) == 0) = true := rfl
    simp only [go_sem, ↓reduceIte, g0]
    rfl
  | cons x r =>
    have g0 : (((r.length + 1 : Nat) : Int) == 0) = false := by simp; omega
    have g2 : (0 : Int) < ((r.length + 1 : Nat) : Int) := by omega
    have hx : (x :: r)[0]? = some x := rfl
    simp only [go_sem, ↓reduceIte, g0, g2, lPred_get hx]
    repeat' (first
      | ((first | refine condK_split _ _ _ (fun hc => ?_) (fun hc => ?_) | refine gsel_split _ _ _ _ (fun hc => ?_) (fun hc => ?_)) <;> simp only [go_sem, ↓reduceIte, hc, Bool.not_true, Bool.not_false, g0, g2, lPred_get hx]))
    refine awp_lst r (fun (o : Pred × Option Nat) l => l.foldl bOr o.1) (fun _ _ => True) (fun k o => [(0, .sl none (lPred (x :: r))), (2, .ptr 0 0), (3, .ptr 1 0), (4, .int .i64 ((k + 1 : Nat) : Int))]) (fun k o => [some (Pred.z.cf (some 5)), some (o.1.cf o.2)]) (x, none) (by simp at hl; omega) trivial rfl rfl ?_ ?_
    · intro k o y ys hd hy _ hF h0 h1 hw
      have hy2 : (x :: r)[k + 1]? = some y := by simpa using hy
      have h2 : (((k + 1 : Nat) : Int) < ((r.length + 1 : Nat) : Int)) := by omega
      have h3 : (0 : Int) ≤ ((k + 1 : Nat) : Int) := by omega
      have hw2 := w64s (k := k + 1) (by simp at hl; omega)
      simp only [go_sem, ↓reduceIte, h2, h3, decide_true, lPred_get hy2, Int.toNat_natCast, hw2]
      exact ⟨(bOr o.1 y, some 5), by rw [List.foldl_cons], rfl, rfl⟩
    · intro o _ hF
      simp only [go_sem, ↓reduceIte, Int.lt_irrefl, decide_false]
      rw [bEither, joinL, hF]; rfl

theorem p_either (l : List Int) (hl : l.length ≤ 1073741824) : PCall Tryz.prog 80 [.sl none (lI64 l)] (.agg (bEither (l.map bAt)).c) := by
  refine PCall.ofB h80 mixed h80_d Tryz.func80 rfl call80 (by simp [Tryz.f80]) (by simp [pureL, AV.pure, go_sem]) (by simp [pureL, AV.pure, go_sem]) ?_
  simp only [Tryz.f80, go_sem, ↓reduceIte]
  refine awp_lst l (fun o r => o ++ r.map bAt) (fun k o => o.length = k) (fun k o => [(2, .ptr 0 0), (3, .sl (some 5) (lPred o)), (6, .sl none (lI64 l)), (7, .int .i64 l.length), (8, .int .i64 k)]) (fun k o => [some (Pred.z.cf (some 5))]) [] (by omega) rfl rfl rfl ?_ ?_
  · intro k o y ys hd hy hI hF h0 h1 hw
    have hk2 := drop_len hd
    simp only [go_sem, ↓reduceIte, h0, h1, lI64_get hy]
    repeat' (first
      | ((first | refine PCallK.intro (p_at _) ?_); simp only [go_sem, ↓reduceIte, h0, h1, hw, lI64_get hy])
      | ((first | refine condK_split _ _ _ (fun hc => ?_) (fun hc => ?_) | refine gsel_split _ _ _ _ (fun hc => ?_) (fun hc => ?_)) <;> simp only [go_sem, ↓reduceIte, hc, Bool.not_true, Bool.not_false, h0, h1, hw, lI64_get hy]))
    exact ⟨by omega, by omega, o ++ [bAt y], by simp, by simp [hI], rfl, rfl⟩
  · intro o hI hF
    have hF : o = l.map bAt := by simpa using hF.symm
    simp only [go_sem, ↓reduceIte, Int.lt_irrefl, decide_false]
    repeat' (first
      | ((first | refine PCallK.intro (PCall.lend (p_joinPred o (by omega) bFalse)) ?_); simp only [go_sem, ↓reduceIte])
      | ((first | refine condK_split _ _ _ (fun hc => ?_) (fun hc => ?_) | refine gsel_split _ _ _ _ (fun hc => ?_) (fun hc => ?_)) <;> simp only [go_sem, ↓reduceIte, hc, Bool.not_true, Bool.not_false]))
    rw [hF]; rfl

theorem q_Wired (t : Tenant) (hl : t.wires.length ≤ 1073741824) : PCall Tryz.prog 31 [.agg t.c] (.agg (bWired t).c) := by
  refine PCall.ofB h31 mixed h31_d Tryz.func31 rfl call31 (by simp [Tryz.f31]) (by simp [pureL, AV.pure, go_sem]) (by simp [pureL, AV.pure, go_sem]) ?_
  simp only [Tryz.f31, go_sem, ↓reduceIte]
  refine awp_lst t.wires (fun o r => o ++ r.map fun w => bAt w.src) (fun k o => o.length = k) (fun k o => [(1, .ptr 0 0), (2, .ptr 1 0), (3, .sl (some 5) (lPred o)), (4, .int .i64 k)]) (fun k o => [some t.c, some (Pred.z.cf (some 5))]) [] (by omega) rfl rfl rfl ?_ ?_
  · intro k o y ys hd hy hI hF h0 h1 hw
    have hk2 := drop_len hd
    simp only [go_sem, ↓reduceIte, h0, h1, hw, lWire_get hy]
    repeat' (first
      | ((first | refine PCallK.intro (q_at _) ?_); simp only [go_sem, ↓reduceIte, h0, h1, hw, lWire_get hy])
      | ((first | refine condK_split _ _ _ (fun hc => ?_) (fun hc => ?_) | refine gsel_split _ _ _ _ (fun hc => ?_) (fun hc => ?_)) <;> simp only [go_sem, ↓reduceIte, hc, Bool.not_true, Bool.not_false, h0, h1, hw, lWire_get hy]))
    exact ⟨by omega, by omega, o ++ [bAt y.src], by simp, by simp [hI], rfl, rfl⟩
  · intro o hI hF
    have hF : o = t.wires.map fun w => bAt w.src := by simpa using hF.symm
    simp only [go_sem, ↓reduceIte, Int.lt_irrefl, decide_false]
    repeat' (first
      | ((first | refine PCallK.intro (PCall.lend (q_either o (by omega))) ?_); simp only [go_sem, ↓reduceIte])
      | ((first | refine condK_split _ _ _ (fun hc => ?_) (fun hc => ?_) | refine gsel_split _ _ _ _ (fun hc => ?_) (fun hc => ?_)) <;> simp only [go_sem, ↓reduceIte, hc, Bool.not_true, Bool.not_false]))
    rw [hF]; rfl

theorem p_Wired (t : Tenant) (hl : t.wires.length ≤ 1073741824) : PCall Tryz.prog 30 [.agg t.c] (.agg (bWired t).c) := by
  refine PCall.ofB h30 mixed h30_d Tryz.func30 rfl call30 (by simp [Tryz.f30]) (by simp [pureL, AV.pure, go_sem]) (by simp [pureL, AV.pure, go_sem]) ?_
  simp only [Tryz.f30, go_sem, ↓reduceIte]
  refine awp_lst t.wires (fun o r => o ++ r.map (·.src)) (fun k o => o.length = k) (fun k o => [(2, .ptr 1 0), (3, .sl (some 1) (lI64 o)), (7, .sl none (lWire t.wires)), (8, .int .i64 t.wires.length), (9, .int .i64 k)]) (fun k o => [some t.c, some (Pred.z.cf (some 5))]) [] (by omega) rfl rfl rfl ?_ ?_
  · intro k o y ys hd hy hI hF h0 h1 hw
    have hk2 := drop_len hd
    simp only [go_sem, ↓reduceIte, h0, h1, hw, lWire_get hy]
    repeat' (first
      | ((first | refine condK_split _ _ _ (fun hc => ?_) (fun hc => ?_) | refine gsel_split _ _ _ _ (fun hc => ?_) (fun hc => ?_)) <;> simp only [go_sem, ↓reduceIte, hc, Bool.not_true, Bool.not_false, h0, h1, hw, lWire_get hy]))
    exact ⟨by omega, by omega, o ++ [y.src], by simp, by simp [hI], rfl, rfl⟩
  · intro o hI hF
    have hF : o = t.wires.map (·.src) := by simpa using hF.symm
    simp only [go_sem, ↓reduceIte, Int.lt_irrefl, decide_false]
    repeat' (first
      | ((first | refine PCallK.intro (PCall.lend (p_either o (by omega))) ?_); simp only [go_sem, ↓reduceIte])
      | ((first | refine condK_split _ _ _ (fun hc => ?_) (fun hc => ?_) | refine gsel_split _ _ _ _ (fun hc => ?_) (fun hc => ?_)) <;> simp only [go_sem, ↓reduceIte, hc, Bool.not_true, Bool.not_false]))
    rw [hF, List.map_map]; rfl

theorem joinL_snoc {α : Type} {z : α} {two : α → α → α} (x : α) : ∀ {l : List α}, l ≠ [] → joinL z two (l ++ [x]) = two (joinL z two l) x
  | [], h => absurd rfl h
  | y :: l, _ => by simp [joinL]

theorem q_Wires (t : Tenant) (hl : t.wires.length ≤ 1073741824) : PCall Tryz.prog 35 [.agg t.c] (.agg (bWires t).c) := by
  refine PCall.ofB h35 mixed h35_d Tryz.func35 rfl call35 (by simp [Tryz.f35]) (by simp [pureL, AV.pure, go_sem]) (by simp [pureL, AV.pure, go_sem]) ?_
  simp only [Tryz.f35, go_sem, ↓reduceIte]
  repeat' (first
    | ((first | refine PCallK.intro (PCall.lend (q_Filter bFalse)) ?_); simp only [go_sem, ↓reduceIte])
    | ((first | refine condK_split _ _ _ (fun hc => ?_) (fun hc => ?_) | refine gsel_split _ _ _ _ (fun hc => ?_) (fun hc => ?_)) <;> simp only [go_sem, ↓reduceIte, hc, Bool.not_true, Bool.not_false]))
  refine awp_lst t.wires (fun (_ : Policy) (_ : List Wire) => ()) (fun k o => o = joinL (bFilter bFalse) bUnion ((t.wires.take k).map bWire)) (fun k o => [(1, .ptr 0 0), (2, .ptr 1 0), (3, .ptr 2 0), (4, .int .i64 k)]) (fun k o => [some t.c, some (Policy.z.cf (some 5) (some 9)), some o.c]) (bFilter bFalse) (by omega) rfl rfl rfl ?_ ?_
  · intro k o y ys hd hy hI hF h0 h1 hw
    have hk2 := drop_len hd
    have ht : t.wires.take (k + 1) = t.wires.take k ++ [y] := by rw [List.take_add_one, hy]; rfl
    simp only [go_sem, ↓reduceIte, h0, h1, hw, lWire_get hy]
    repeat' (first
      | ((first | refine PCallK.intro (q_at _) ?_ | refine PCallK.intro (q_Filter _) ?_ | refine PCallK.intro (q_Put _ _) ?_ | refine PCallK.intro (q_Seq _ _) ?_); simp only [go_sem, ↓reduceIte, h0, h1, hw, lWire_get hy])
      | ((first | refine condK_split _ _ _ (fun hc => ?_) (fun hc => ?_) | refine gsel_split _ _ _ _ (fun hc => ?_) (fun hc => ?_)) <;> simp only [go_sem, ↓reduceIte, hc, Bool.not_true, Bool.not_false, h0, h1, hw, lWire_get hy]))
    · have hk : k = 0 := by simp at hc; omega
      subst hk
      refine ⟨bWire y, ?_, rfl, rfl⟩
      rw [ht]; rfl
    · have hk : k ≠ 0 := by simp at hc; omega
      refine PCallK.intro (q_Union _ _) ?_
      simp only [go_sem, ↓reduceIte, hw]
      refine ⟨bUnion o (bWire y), ?_, rfl, rfl⟩
      rw [ht, List.map_append, hI]
      exact (joinL_snoc _ (by simp; constructor; omega; intro h; rw [h] at hk2; simp at hk2)).symm
  · intro o hI hF
    simp only [go_sem, ↓reduceIte, Int.lt_irrefl, decide_false]
    rw [bWires, hI, List.take_length]

theorem p_Wires (t : Tenant) (hl : t.wires.length ≤ 1073741824) : PCall Tryz.prog 34 [.agg t.c] (.agg (bWires t).c) := by
  refine PCall.ofB h34 mixed h34_d Tryz.func34 rfl call34 (by simp [Tryz.f34]) (by simp [pureL, AV.pure, go_sem]) (by simp [pureL, AV.pure, go_sem]) ?_
  simp only [Tryz.f34, go_sem, ↓reduceIte]
  refine awp_lst t.wires (fun o r => o ++ r.map bWire) (fun k o => o.length = k) (fun k o => [(2, .ptr 1 0), (3, .sl (some 9) (lPolicy o)), (7, .sl none (lWire t.wires)), (8, .int .i64 t.wires.length), (9, .int .i64 k)]) (fun k o => [some t.c, some (Policy.z.cf (some 5) (some 9))]) [] (by omega) rfl rfl rfl ?_ ?_
  · intro k o y ys hd hy hI hF h0 h1 hw
    have hk2 := drop_len hd
    simp only [go_sem, ↓reduceIte, h0, h1, hw, lWire_get hy]
    repeat' (first
      | ((first | refine PCallK.intro (p_at _) ?_ | refine PCallK.intro (p_filter _) ?_ | refine PCallK.intro (PCall.lend (p_seq (bFilter (bAt y.src)) (bSet portS y.dst))) ?_); simp only [go_sem, ↓reduceIte, h0, h1, hw, lWire_get hy])
      | ((first | refine condK_split _ _ _ (fun hc => ?_) (fun hc => ?_) | refine gsel_split _ _ _ _ (fun hc => ?_) (fun hc => ?_)) <;> simp only [go_sem, ↓reduceIte, hc, Bool.not_true, Bool.not_false, h0, h1, hw, lWire_get hy]))
    exact ⟨by omega, by omega, o ++ [bWire y], by simp, by simp [hI], rfl, rfl⟩
  · intro o hI hF
    have hF : o = t.wires.map bWire := by simpa using hF.symm
    simp only [go_sem, ↓reduceIte, Int.lt_irrefl, decide_false]
    repeat' (first
      | ((first | refine PCallK.intro (PCall.lend (p_filter bFalse)) ?_ | refine PCallK.intro (PCall.lend (p_joinPolicy o (by omega) (bFilter bFalse))) ?_); simp only [go_sem, ↓reduceIte])
      | ((first | refine condK_split _ _ _ (fun hc => ?_) (fun hc => ?_) | refine gsel_split _ _ _ _ (fun hc => ?_) (fun hc => ?_)) <;> simp only [go_sem, ↓reduceIte, hc, Bool.not_true, Bool.not_false]))
    rw [hF]; rfl

end Go.AI

namespace Go.AI
open Go.Proofs
set_option maxRecDepth 50000

theorem len_zero {α : Type} {l : List α} : ((l.length : Int) == 0) = true ↔ l = [] := by
  cases l <;> simp; omega

theorem q_Closed (t : Tenant) (hl : t.wires.length ≤ 1073741824) (p : Policy) : PCall Tryz.prog 26 [.agg t.c, .agg p.c] (.agg (bClosed t p).c) := by
  refine PCall.ofB h26 mixed h26_d Tryz.func26 rfl call26 (by simp [Tryz.f26]) (by simp [pureL, AV.pure, go_sem]) (by simp [pureL, AV.pure, go_sem]) ?_
  simp only [Tryz.f26, go_sem, ↓reduceIte]
  repeat' (first
    | ((first | refine PCallK.intro (q_Wires t hl) ?_ | refine PCallK.intro (q_Wired t hl) ?_ | refine PCallK.intro (q_Seq _ _) ?_ | refine PCallK.intro (q_Star _) ?_ | refine PCallK.intro (PCall.lend (q_Filter (bNot (bWired t)))) ?_); simp only [go_sem, ↓reduceIte])
    | ((first | refine condK_split _ _ _ (fun hc => ?_) (fun hc => ?_) | refine gsel_split _ _ _ _ (fun hc => ?_) (fun hc => ?_)) <;> simp only [go_sem, ↓reduceIte, hc, Bool.not_true, Bool.not_false]))
  · rw [bClosed, if_pos (len_zero.1 hc)]
  · rw [bClosed, if_neg (fun h => by rw [len_zero.2 h] at hc; cases hc)]

theorem p_Closed (t : Tenant) (hl : t.wires.length ≤ 1073741824) (p : Policy) : PCall Tryz.prog 25 [.agg t.c, .agg p.c] (.agg (bClosed t p).c) := by
  refine PCall.ofB h25 mixed h25_d Tryz.func25 rfl call25 (by simp [Tryz.f25]) (by simp [pureL, AV.pure, go_sem]) (by simp [pureL, AV.pure, go_sem]) ?_
  simp only [Tryz.f25, go_sem, ↓reduceIte]
  repeat' (first
    | ((first | refine PCallK.intro (p_Wires t hl) ?_ | refine PCallK.intro (p_Wired t hl) ?_ | refine PCallK.intro (PCall.lend (p_seq (bSeq p (bStar (bSeq (bWires t) p))) (bFilter (bNot (bWired t))))) ?_ | refine PCallK.intro (PCall.lend (p_seq p (bStar (bSeq (bWires t) p)))) ?_ | refine PCallK.intro (p_seq (bWires t) p) ?_ | refine PCallK.intro (PCall.lend (p_filter (bNot (bWired t)))) ?_); simp only [go_sem, ↓reduceIte])
    | ((first | refine condK_split _ _ _ (fun hc => ?_) (fun hc => ?_) | refine gsel_split _ _ _ _ (fun hc => ?_) (fun hc => ?_)) <;> simp only [go_sem, ↓reduceIte, hc, Bool.not_true, Bool.not_false]))
  · rw [bClosed, if_pos (len_zero.1 hc)]
  · rw [bClosed, if_neg (fun h => by rw [len_zero.2 h] at hc; cases hc)]

/-- A program without wires: the stages, or that they are too large. -/
def wholeGo (t : Tenant) : List Stage → List Stage → List Stage × Int
  | o, [] => (o, 0)
  | o, x :: r => if ckO (bClosed t x.policy) = 2 then ([], 2) else wholeGo t (o ++ [{ x with policy := bClosed t x.policy }]) r
def bWhole (t : Tenant) : List Stage × Int := wholeGo t [] t.program

theorem p_Whole (t : Tenant) (hl : t.wires.length ≤ 1073741824) (hp : t.program.length ≤ 1073741824) (hb : ∀ x ∈ t.program, bulkL (bClosed t x.policy).c ≤ 1073741824) :
    PCall Tryz.prog 27 [.agg t.c] (.tup [.sl none (lStage (bWhole t).1), .int .i64 (bWhole t).2]) := by
  refine PCall.ofB h27 mixed h27_d Tryz.func27 rfl call27 (by simp [Tryz.f27]) (by simp [pureL, AV.pure, go_sem]) (by simp [pureL, AV.pure, go_sem]) ?_
  simp only [Tryz.f27, go_sem, ↓reduceIte]
  refine awp_lst t.program (fun o r => wholeGo t o r) (fun k o => o.length = k) (fun k o => [(1, .ptr 0 0), (4, .sl (some 15) (lStage o)), (8, .sl none (lStage t.program)), (9, .int .i64 t.program.length), (10, .int .i64 k)]) (fun k o => [some t.c]) [] (by omega) rfl rfl rfl ?_ ?_
  · intro k o y ys hd hy hI hF h0 h1 hw
    have hk2 := drop_len hd
    simp only [go_sem, ↓reduceIte, h0, h1, hw, lStage_get hy]
    repeat' (first
      | ((first | refine PCallK.intro (p_Closed t hl _) ?_ | refine PCallK.intro (p_CheckPolicy _ (hb y (List.mem_of_getElem? hy))) ?_); simp only [go_sem, ↓reduceIte, h0, h1, hw, lStage_get hy])
      | ((first | refine condK_split _ _ _ (fun hc => ?_) (fun hc => ?_) | refine gsel_split _ _ _ _ (fun hc => ?_) (fun hc => ?_)) <;> simp only [go_sem, ↓reduceIte, hc, Bool.not_true, Bool.not_false, h0, h1, hw, lStage_get hy]))
    · have h2 : wholeGo t [] t.program = ([], 2) := by rw [hF, wholeGo, if_pos (by simpa using hc)]
      rw [bWhole, h2]; rfl
    · refine ⟨by omega, by omega, o ++ [{ y with policy := bClosed t y.policy }], ?_, by simp [hI], rfl, rfl⟩
      rw [wholeGo, if_neg (by simpa using hc)]
  · intro o hI hF
    simp only [go_sem, ↓reduceIte, Int.lt_irrefl, decide_false]
    rw [bWhole, hF]; rfl

end Go.AI

namespace Go.AI
open Go.Proofs
set_option maxRecDepth 50000

theorem bk_p2 (x y : Pred) : bulkL (lPred [x, y]) = bulkL x.c + bulkL y.c := by rw [lPred_eq]; simp [bulkL, AV.bulk]
theorem bk_p1 (x : Pred) : bulkL (lPred [x]) = bulkL x.c := by rw [lPred_eq]; simp [bulkL, AV.bulk]
theorem bk_p0 : bulkL (lPred []) = 0 := by rw [lPred_eq]; rfl
theorem bk_o2 (x y : Policy) : bulkL (lPolicy [x, y]) = bulkL x.c + bulkL y.c := by rw [lPolicy_eq]; simp [bulkL, AV.bulk]
theorem bk_o1 (x : Policy) : bulkL (lPolicy [x]) = bulkL x.c := by rw [lPolicy_eq]; simp [bulkL, AV.bulk]
theorem bk_o0 : bulkL (lPolicy []) = 0 := by rw [lPolicy_eq]; rfl
theorem bk_at (n : Int) : bulkL (bAt n).c = 9 := by rw [bulk_pred]; simp only [bAt, bk_p0]; rfl
theorem bk_false : bulkL bFalse.c = 5 := by rw [bulk_pred]; simp only [bFalse, bk_p0]; rfl
theorem bk_or (x y : Pred) : bulkL (bOr x y).c = 5 + bulkL x.c + bulkL y.c := by rw [bulk_pred]; simp only [bOr, bk_p2]; show 0 + 5 + _ = _; omega
theorem bk_not (x : Pred) : bulkL (bNot x).c = 5 + bulkL x.c := by rw [bulk_pred]; simp only [bNot, bk_p1]; show 0 + 5 + _ = _; omega
theorem bk_zp : bulkL Pred.z.c = 5 := by rw [bulk_pred]; show _ + 5 + bulkL (lPred []) = 5; rw [bk_p0]; rfl
theorem bk_filter (x : Pred) : bulkL (bFilter x).c = bulkL x.c + 4 := by rw [bulk_policy]; simp only [bFilter, bk_o0]; show _ + 0 + 4 + 0 = _; omega
theorem bk_set (n : Int) : bulkL (bSet portS n).c = 13 := by rw [bulk_policy]; simp only [bSet, bk_o0, bk_zp]; rfl
theorem bk_union (x y : Policy) : bulkL (bUnion x y).c = 9 + bulkL x.c + bulkL y.c := by rw [bulk_policy]; simp only [bUnion, bk_o2, bk_zp]; show 5 + 0 + 4 + _ = _; omega
theorem bk_seq (x y : Policy) : bulkL (bSeq x y).c = 9 + bulkL x.c + bulkL y.c := by rw [bulk_policy]; simp only [bSeq, bk_o2, bk_zp]; show 5 + 0 + 4 + _ = _; omega
theorem bk_star (x : Policy) : bulkL (bStar x).c = 9 + bulkL x.c := by rw [bulk_policy]; simp only [bStar, bk_o1, bk_zp]; show 5 + 0 + 4 + _ = _; omega

theorem bk_ors : ∀ (l : List Pred) (x : Pred) (B : Nat), (∀ y ∈ l, bulkL y.c ≤ B) → bulkL (l.foldl bOr x).c ≤ bulkL x.c + l.length * (B + 5)
  | [], x, B, _ => by simp
  | y :: l, x, B, h => by
    rw [List.foldl_cons]
    have h1 := bk_ors l (bOr x y) B fun z hz => h z (by simp [hz])
    have h2 := h y (by simp)
    rw [bk_or] at h1
    rw [List.length_cons, Nat.succ_mul]
    omega
theorem bk_unions : ∀ (l : List Policy) (x : Policy) (B : Nat), (∀ y ∈ l, bulkL y.c ≤ B) → bulkL (l.foldl bUnion x).c ≤ bulkL x.c + l.length * (B + 9)
  | [], x, B, _ => by simp
  | y :: l, x, B, h => by
    rw [List.foldl_cons]
    have h1 := bk_unions l (bUnion x y) B fun z hz => h z (by simp [hz])
    have h2 := h y (by simp)
    rw [bk_union] at h1
    rw [List.length_cons, Nat.succ_mul]
    omega
theorem bk_either (l : List Pred) (h : ∀ y ∈ l, bulkL y.c ≤ 9) : bulkL (bEither l).c ≤ 9 + l.length * 14 := by
  unfold bEither
  cases l with
  | nil => rw [joinL, bk_false]; omega
  | cons x l =>
    have h1 := bk_ors l x 9 fun y hy => h y (by simp [hy])
    have h2 := h x (by simp)
    rw [joinL, List.length_cons]
    omega
theorem bk_wired (t : Tenant) : bulkL (bWired t).c ≤ 9 + t.wires.length * 14 := by
  have := bk_either (t.wires.map fun w => bAt w.src) (fun y hy => by obtain ⟨w, _, rfl⟩ := List.mem_map.1 hy; rw [bk_at]; omega)
  rwa [List.length_map] at this
theorem bk_wires (t : Tenant) : bulkL (bWires t).c ≤ 35 + t.wires.length * 44 := by
  unfold bWires
  have hw : ∀ y ∈ t.wires.map bWire, bulkL y.c ≤ 35 := fun y hy => by
    obtain ⟨w, _, rfl⟩ := List.mem_map.1 hy
    rw [bWire, bk_seq, bk_filter, bk_at, bk_set]; omega
  have hl : (t.wires.map bWire).length = t.wires.length := List.length_map _
  rw [← hl]
  generalize t.wires.map bWire = l at hw
  cases l with
  | nil => rw [joinL, bk_filter, bk_false]; omega
  | cons x l =>
    have h1 := bk_unions l x 35 fun y hy => hw y (by simp [hy])
    have h2 := hw x (by simp)
    rw [joinL, List.length_cons]
    omega
theorem bk_closed {t : Tenant} {p : Policy} (hp : bulkL p.c ≤ 1048576) (hw : t.wires.length ≤ 1048576) : bulkL (bClosed t p).c ≤ 1073741824 := by
  unfold bClosed
  split
  · omega
  · have h1 := bk_wired t
    have h2 := bk_wires t
    rw [bk_seq, bk_seq, bk_star, bk_seq, bk_filter, bk_not]
    omega

theorem eqP_refl : ∀ x : Pred, eqP x x = true := by
  refine Pred.ind _ fun x ih => ?_
  rw [eqP_eq]
  have : ∀ l : List Pred, (∀ y ∈ l, eqP y y = true) → eqPs l l = true := by
    intro l
    induction l with
    | nil => intro _; rw [eqPs_nil]
    | cons y l ihl => intro h; rw [eqPs_cons, h y (by simp), ihl fun z hz => h z (by simp [hz])]; rfl
  rw [this x.args ih]; simp
theorem eqO_refl : ∀ x : Policy, eqO x x = true := by
  refine Policy.ind _ fun x ih => ?_
  rw [eqO_eq]
  have : ∀ l : List Policy, (∀ y ∈ l, eqO y y = true) → eqOs l l = true := by
    intro l
    induction l with
    | nil => intro _; rw [eqOs_nil]
    | cons y l ihl => intro h; rw [eqOs_cons, h y (by simp), ihl fun z hz => h z (by simp [hz])]; rfl
  rw [this x.args ih, eqP_refl]; simp
theorem keysEq_refl : ∀ l : List ByteArray, keysEq l l = true
  | [] => by rw [keysEq_nil]
  | x :: l => by rw [keysEq_cons, keysEq_refl l]; simp
theorem eqS_refl (x : Stp) : eqS x x = true := by unfold eqS; rw [keysEq_refl]; simp

end Go.AI
