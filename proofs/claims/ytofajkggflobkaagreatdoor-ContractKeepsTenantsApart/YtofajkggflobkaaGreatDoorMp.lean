/- Contracts of the program's names and sizes. -/
import Derived.Test.YtofajkggflobkaaGreatDoorMg
import Derived.Test.YtofajkggflobkaaGreatDoorLi
import Derived.Test.YtofajkggflobkaaGreatDoorMf
import Derived.Sort.Walk0
namespace Go.AI
open Go.Proofs
set_option maxRecDepth 50000
@[go_sem] theorem binK_slss {P : Program} {t : TypeId} {x y : ByteArray} {d : Tmp} {K : Kt} {e : Env} {H : Heap} : binK P .lss t (.str x) (.str y) d K e H = K ((d,.bool (Op.bytesLess x.toList y.toList)) :: e) H:=by rw [binK_str]; simp [abin]
@[go_sem] theorem evo_g0 {P : Program} {o : Option TypeId} {e : Env} : evo P o e (.global 0) = .cptr (words.map AV.str) 0:=rfl
theorem ACallK.ofP {P : Program} {f : FuncId} {vs : List AV} {d : Option Tmp} {K : Kt} {e : Env} {H : Heap} {v : AV} (h : PCall P f vs v) (hk : K (put d v e) H) : ACallK P f vs d K e H :=
 (h H).mono fun v' H' hr => by obtain ⟨rfl,rfl⟩:=hr; exact hk
def SCall (P : Program) (f : FuncId) (vs : List AV) (H : Heap) (v : AV) : Prop:=ACall P f vs H fun v' H' => v' = v /\ H' = H
theorem PCall.toS {P : Program} {f : FuncId} {vs : List AV} {H : Heap} {v : AV} (h : PCall P f vs v) : SCall P f vs H v:=h H
theorem RCall.toS {P : Program} {f : FuncId} {vs : List AV} {H H2 : Heap} {v : AV} (h : RCall P f vs H v) (hv : hview H2 = hview H) : SCall P f vs H2 v:=h H2 hv
theorem ACallK.ofS {P : Program} {f : FuncId} {vs : List AV} {d : Option Tmp} {K : Kt} {e : Env} {H : Heap} {v : AV} (h : SCall P f vs H v) (hk : K (put d v e) H) : ACallK P f vs d K e H :=
 h.mono fun v' H' hr => by obtain ⟨rfl,rfl⟩:=hr; exact hk
theorem aP {P : Program} {f : FuncId} {vs : List AV} {d : Option Tmp} {K : Kt} {e : Env} {H : Heap} {v : AV} (h : PCall P f vs v) (hk : K (put d v e) H) : ACallK P f vs d K e H:=ACallK.ofP h hk
theorem aS {P : Program} {f : FuncId} {vs : List AV} {d : Option Tmp} {K : Kt} {e : Env} {H : Heap} {v : AV} (h : SCall P f vs H v) (hk : K (put d v e) H) : ACallK P f vs d K e H:=ACallK.ofS h hk
def ltB (a b : ByteArray) : Bool:=Op.bytesLess a.toList b.toList
theorem ltB_irr (a : ByteArray) : ltB a a = false:=by
 unfold ltB; rw [Go.Proofs.bytesLess_eq]; simp [List.lt_irrefl]
theorem ltB_tr {a b c : ByteArray} (h1 : ltB a b = true) (h2 : ltB b c = true) : ltB a c = true:=by
 unfold ltB at *; rw [Go.Proofs.bytesLess_eq,decide_eq_true_eq] at *; exact List.lt_trans h1 h2
theorem p_within5 (c lo hi : Int) : PCall Tryz.prog 342 [.int .u8 c,.int .u8 lo,.int .u8 hi] (.bool (decide (lo <= c) && decide (c <= hi))):=by
 refine pC h342_k rfl ?_
 simp only [Tryz.f342,go_sem]
 repeat' (first
  | ((first | refine cS ?_ ?_ | refine gS ?_ ?_) <;> (intro hc; simp only [go_sem,hc])))
 all_goals grind
theorem p_isLetter (c : UInt8) : PCall Tryz.prog 328 [.int .u8 c.toNat] (.bool (loB c)):=by
 refine pC h328_k rfl ?_
 simp only [Tryz.f328,go_sem]
 repeat' (first
  | (refine pK (p_within5 _ _ _) ?_; simp only [go_sem])
  | ((first | refine cS ?_ ?_ | refine gS ?_ ?_) <;> (intro hc; simp only [go_sem,hc])))
 all_goals first | rfl | (simp only [loB,bz])
theorem p_isDigit (c : UInt8) : PCall Tryz.prog 345 [.int .u8 c.toNat] (.bool (dgB c)):=by
 refine pC h345_k rfl ?_
 simp only [Tryz.f345,go_sem]
 repeat' (first
  | (refine pK (p_within5 _ _ _) ?_; simp only [go_sem])
  | ((first | refine cS ?_ ?_ | refine gS ?_ ?_) <;> (intro hc; simp only [go_sem,hc])))
 all_goals first | rfl | (simp only [dgB,bz])
theorem p_isWordByte (c : UInt8) : PCall Tryz.prog 332 [.int .u8 c.toNat] (.bool (wdB c)):=by
 refine pC h332_k rfl ?_
 simp only [Tryz.f332,go_sem]
 repeat' (first
  | ((first | refine pK (p_isLetter _) ?_ | refine pK (p_isDigit _) ?_); simp only [go_sem])
  | ((first | refine cS ?_ ?_ | refine gS ?_ ?_) <;> (intro hc; simp only [go_sem,hc])))
 all_goals (simp only [wdB,bz]; grind)
theorem p_nan1 (s : ByteArray) : PCall Tryz.prog 116 [.str s] (.bool false):=by
 refine pC h116_k rfl ?_
 simp only [Tryz.f116,go_sem,beq_self_eq_true,Bool.not_true]
theorem p_nan2 (s : ByteArray) : PCall Tryz.prog 344 [.str s] (.bool false):=by
 refine pC h344_k rfl ?_
 simp only [Tryz.f344,go_sem,beq_self_eq_true,Bool.not_true]
theorem p_less (a b : ByteArray) : PCall Tryz.prog 343 [.str a,.str b] (.bool (ltB a b)):=by
 refine pC h343_k rfl ?_
 simp only [Tryz.f343,go_sem]
 repeat' (first
  | (refine pK (p_nan1 _) ?_; simp only [go_sem])
  | ((first | refine cS ?_ ?_ | refine gS ?_ ?_) <;> (intro hc; simp only [go_sem,hc])))
 all_goals rfl
end Go.AI
namespace Go.AI
open Go.Proofs
set_option maxRecDepth 50000
def bsI (s : ByteArray) : Nat:=(words.takeWhile fun w => ltB w s).length
theorem words_sorted : ∀ i j : Nat,i < j -> j < 49 -> ltB (words.getD i ⟨#[]⟩) (words.getD j ⟨#[]⟩) = true:=by
 have h : ((List.range 49).all fun j => (List.range j).all fun i => ltB (words.getD i ⟨#[]⟩) (words.getD j ⟨#[]⟩)) = true:=by kernel_rfl
 intro i j hi hj
 have h1:=List.all_eq_true.1 h j (List.mem_range.2 hj)
 exact List.all_eq_true.1 h1 i (List.mem_range.2 hi)
theorem words_len : words.length = 49:=rfl
theorem takeWhile_len {α : Type} {p : α -> Bool} : ∀ (l : List α) (n : Nat),n <= l.length -> (∀ k x,l[k]? = some x -> k < n -> p x = true) -> (∀ x,l[n]? = some x -> p x = false) -> (l.takeWhile p).length = n
 | [],n,hn,_,_ => by simp at hn; subst hn; rfl
 | y :: l,0,_,_,h2 => by
  have:=h2 y rfl
  simp [List.takeWhile,this]
 | y :: l,n + 1,hn,h1,h2 => by
  have hy:=h1 0 y rfl (by omega)
  simp only [List.takeWhile,hy,List.length_cons]
  rw [takeWhile_len l n (by simp at hn; omega) (fun k x hk hl => h1 (k + 1) x (by simpa using hk) (by omega)) (fun x hx => h2 x (by simpa using hx))]
theorem wordB_at {s : ByteArray} {i : Nat} (hi : i <= 49) (h1 : ∀ k,k < i -> ltB (words.getD k ⟨#[]⟩) s = true) (h2 : ∀ k,i <= k -> k < 49 -> ltB (words.getD k ⟨#[]⟩) s = false) :
  wordB s = (decide (i < 49) && decide (words.getD i ⟨#[]⟩ = s)):=by
 rw [Bool.eq_iff_iff,Bool.and_eq_true,decide_eq_true_eq,decide_eq_true_eq,wordB,List.any_eq_true]
 constructor
 ·rintro ⟨w,hw,he⟩
  have he : w = s:=by simpa using he
  subst he
  obtain ⟨m,hm⟩:=List.getElem?_of_mem hw
  have hml : m < 49:=by have:=(List.getElem?_eq_some_iff.1 hm).1; rw [words_len] at this; exact this
  have hmg : words.getD m ⟨#[]⟩ = w:=by rw [List.getD_eq_getElem?_getD,hm]; rfl
  rcases Nat.lt_or_ge m i with h | h
  ·have:=h1 m h; rw [hmg,ltB_irr] at this; cases this
  ·rcases Nat.lt_or_ge i m with h' | h'
   ·have:=words_sorted i m h' hml
    rw [hmg] at this
    rw [h2 i (Nat.le_refl _) (by omega)] at this; cases this
   ·have : i = m:=by omega
    subst this
    exact ⟨hml,hmg⟩
 ·rintro ⟨hl,he⟩
  have hm : words.getD i ⟨#[]⟩ ∈ words:=by
   have:=List.getElem?_eq_getElem (l:=words) (i:=i) (by rw [words_len]; exact hl)
   rw [List.getD_eq_getElem?_getD,this]
   exact List.getElem_mem _
  exact ⟨_,hm,decide_eq_true he⟩
theorem word_get {k : Nat} (h : k < 49) : (words.map AV.str)[k]? = some (.str (words.getD k ⟨#[]⟩)):=by
 rw [List.getElem?_map,List.getD_eq_getElem?_getD,List.getElem?_eq_getElem (by rw [words_len]; exact h)]; rfl
@[go_sem] theorem words_pureL : pureL (words.map AV.str) = true:=by kernel_rfl
@[go_sem] theorem words_len2 : (words.map AV.str).length = 49:=rfl
@[go_sem] theorem binK_shr1 {P : Program} {t : TypeId} {x : Int} {d : Tmp} {K : Kt} {e : Env} {H : Heap} : binK P .shr t (.int .u64 x) (.int .u64 1) d K e H = K ((d,.int .u64 (x.fdiv 2)) :: e) H:=by
 rw [binK_int]; simp [abin,IntKind.bits]
theorem half {i j : Nat} (hj : j <= 49) (hi : i < j) : IntKind.i64.wrap ((IntKind.u64.wrap (IntKind.i64.wrap ((i : Int) + (j : Int)))).fdiv 2) = (((i + j) / 2 : Nat) : Int):=by
 have e1 : IntKind.i64.wrap ((i : Int) + (j : Int)) = ((i + j : Nat) : Int):=w64 (by omega) (by omega)
 rw [e1]
 have e2 : IntKind.u64.wrap ((i + j : Nat) : Int) = ((i + j : Nat) : Int):=by
  simp [IntKind.wrap,IntKind.signed,IntKind.bits]; omega
 rw [e2]
 have e3 : ((i + j : Nat) : Int).fdiv 2 = (((i + j) / 2 : Nat) : Int):=by
  rw [Int.fdiv_eq_ediv_of_nonneg _ (by decide)]; omega
 rw [e3]
 exact w64 (by omega) (by omega)
set_option maxHeartbeats 2000000 in
theorem p_search (s : ByteArray) : PCall Tryz.prog 329 [.sl none (words.map AV.str),.str s] (.tup [.int .i64 (bsI s),.bool (wordB s)]):=by
 refine pB h329_k rfl ?_
 simp only [Tryz.f329,go_sem]
 refine awp_wh (σ:=Nat × Nat) (fun s2 => [(0,.sl none (words.map AV.str)),(1,.str s),(6,.int .i64 49),(7,.int .i64 s2.1),(8,.int .i64 s2.2)]) (fun _ => []) (fun s2 => s2.1 <= s2.2 /\ s2.2 <= 49 /\ (∀ k,k < s2.1 -> ltB (words.getD k ⟨#[]⟩) s = true) /\ (∀ k,s2.2 <= k -> k < 49 -> ltB (words.getD k ⟨#[]⟩) s = false)) (fun s2 => s2.2 - s2.1) (0,49) ⟨by omega,by omega,fun k hk => by omega,fun k h1 h2 => by omega⟩ rfl rfl ?_
 rintro ⟨i,j⟩ ⟨hij,hj,h1,h2⟩
 by_cases hlt : i < j
 ·have g1 : (i : Int) < (j : Int):=by omega
  have g2 : (0 : Int) <= (((i + j) / 2 : Nat) : Int):=by omega
  have g3 : (((i + j) / 2 : Nat) : Int).toNat = (i + j) / 2:=by omega
  have hm : (i + j) / 2 < 49:=by omega
  have hw:=w64s (k:=(i + j) / 2) (by omega)
  simp only [go_sem,g1,decide_true,half hj hlt,g2,g3,word_get hm]
  repeat' (first
   | (refine pK (p_less _ _) ?_; simp only [go_sem,g1,half hj hlt,g2,g3,word_get hm,hw])
   | ((first | refine cS ?_ ?_ | refine gS ?_ ?_) <;> (intro hc; simp only [go_sem,hc,g1,half hj hlt,g2,g3,word_get hm,hw])))
  ·exact ⟨((i + j) / 2 + 1,j),⟨by omega,hj,fun k hk => by
    rcases Nat.lt_or_ge k ((i + j) / 2) with h | h
    ·exact ltB_tr (words_sorted _ _ h hm) hc
    ·have : k = (i + j) / 2:=by omega
     subst this; exact hc,h2⟩,by omega,rfl,rfl⟩
  ·exact ⟨(i,(i + j) / 2),⟨by omega,by omega,h1,fun k hk hk9 => by
    rcases Nat.lt_or_ge ((i + j) / 2) k with h | h
    ·cases hq : ltB (words.getD k ⟨#[]⟩) s with
     | false => rfl
     | true => rw [ltB_tr (words_sorted _ _ h hk9) hq] at hc; cases hc
    ·have : k = (i + j) / 2:=by omega
     subst this; exact hc⟩,by omega,rfl,rfl⟩
 ·have hij : i = j:=by omega
  subst hij
  have g1 : ¬ (i : Int) < (i : Int):=by omega
  have hwb : wordB s = (decide (i < 49) && decide (words.getD i ⟨#[]⟩ = s)):=wordB_at hj h1 h2
  have hbs : bsI s = i:=takeWhile_len words i (by rw [words_len]; exact hj) (fun k x hk hl => by
   have:=h1 k hl; rw [List.getD_eq_getElem?_getD,hk] at this; exact this) (fun x hx => by
   have:=h2 i (Nat.le_refl _) (by have:=(List.getElem?_eq_some_iff.1 hx).1; rw [words_len] at this; exact this)
   rw [List.getD_eq_getElem?_getD,hx] at this; exact this)
  by_cases h49 : i < 49
  ·have g3 : (i : Int) < 49:=by omega
   have g4 : (0 : Int) <= (i : Int):=by omega
   simp only [go_sem,g1,decide_false,g3,g4,decide_true,word_get h49,toList_beq]
   repeat' (first
    | (refine pK (p_nan2 _) ?_; simp only [go_sem,g1,g3,g4,word_get h49,toList_beq,Int.toNat_natCast])
    | ((first | refine cS ?_ ?_ | refine gS ?_ ?_) <;> (intro hc; simp only [go_sem,hc,g1,g3,g4,word_get h49,toList_beq,Int.toNat_natCast])))
   all_goals (rw [hbs,hwb,hc]; simp only [h49,decide_true,Bool.and_false,Bool.not_false,Bool.and_true])
  ·have g3 : ¬ (i : Int) < 49:=by omega
   simp only [go_sem,g1,decide_false,g3]
   repeat' (first
    | (refine pK (p_nan2 _) ?_; simp only [go_sem,g1,g3])
    | ((first | refine cS ?_ ?_ | refine gS ?_ ?_) <;> (intro hc; simp only [go_sem,hc,g1,g3])))
   all_goals (rw [hbs,hwb]; simp [h49])
theorem ext_size (s : ByteArray) {k : Nat} (h : k <= s.size) : (s.extract k s.size).size = s.size - k:=by simp [ByteArray.size_extract]
theorem ext_get (s : ByteArray) {k : Nat} (h : k < s.size) : ((s.extract k s.size).data[0]?).getD 0 = (s.data[k]?).getD 0:=by
 have : (s.extract k s.size).data = s.data.extract k s.size:=by simp [ByteArray.data_extract]
 have h2 : s.size = s.data.size:=rfl
 rw [this,Array.getElem?_extract]
 have h3 : 0 < s.size - k:=by omega
 simp [<- h2,h,h3]
theorem p_Name1 (s : ByteArray) (h : 0 < s.size) : PCall Tryz.prog 331 [.str s] (.bool (wdB ((s.data[0]?).getD 0))):=by
 have h0 : (0 : Int) < (s.size : Int):=by omega
 refine pC h331_k rfl ?_
 simp only [Tryz.f331,go_sem,h0]
 repeat' (first
  | (refine pK (p_isWordByte _) ?_; simp only [go_sem,h0])
  | ((first | refine cS ?_ ?_ | refine gS ?_ ?_) <;> (intro hc; simp only [go_sem,hc,h0])))
theorem p_prefix (s : ByteArray) (hs : s.size <= 1073741824) : PCall Tryz.prog 330 [.str s,.fn (.func 331) [] []] (.str (s.extract 0 (runN s.data.toList))):=by
 refine pC h330_k rfl ?_
 simp only [Tryz.f330,go_sem]
 refine awp_alls s (fun l => s.size - l.length + runN l) (fun k => [(0,.str s),(1,.fn (.func 331) [] []),(5,.int .i64 k)]) (by omega) rfl ?_ ?_
 ·intro k x xs hd hx hF h0 h1 hw hl
  rw [blen] at hF
  simp only [List.length_cons,runN] at hF
  have hk : k < s.size:=by omega
  have hk2 : (k : Int) <= (s.size : Int):=by omega
  have hp : 0 < (s.extract k s.size).size:=by rw [ext_size s (by omega)]; omega
  simp only [go_sem,h0,h1,hk2]
  repeat' (first
   | (refine aP (p_Name1 _ hp) ?_; simp only [go_sem,hw,ext_get s hk,hx])
   | ((first | refine cS ?_ ?_ | refine gS ?_ ?_) <;> (intro hc; simp only [go_sem,hc,hw,ext_get s hk,hx])))
  ·rw [runN,if_pos hc]; omega
  ·rw [if_neg (by rw [hc]; decide)] at hF
   have : runN s.data.toList = k:=by omega
   exact ⟨by omega,by omega,by rw [this]⟩
 ·intro hF hlt
  simp only [go_sem,hlt,decide_false]
  rw [blen] at hF
  have : runN s.data.toList = s.size:=by simp only [runN,List.length_nil] at hF; omega
  exact ⟨by omega,by rw [this]⟩
theorem ext_all {s : ByteArray} {n : Nat} (h : n <= s.size) : (s.extract 0 n = s) ↔ n = s.size:=by
 constructor
 ·intro he
  have:=congrArg ByteArray.size he
  rw [ByteArray.size_extract] at this
  omega
 ·rintro rfl
  exact ByteArray.extract_zero_size
theorem runN_le : ∀ l : List UInt8,runN l <= l.length
 | [] => by simp [runN]
 | c :: l => by have:=runN_le l; unfold runN; split <;> simp <;> omega
theorem p_tokName (s : ByteArray) (hs : s.size <= 1073741824) : PCall Tryz.prog 296 [.str s] (.bool (tnB s)) := by
  have hr : runN s.data.toList <= s.size := by have := runN_le s.data.toList; rw [blen] at this; exact this
  have hx : decide (s.extract 0 (runN s.data.toList) = s) = ((runN s.data.toList : Int) == (s.size : Int)) := by
    rw [Bool.eq_iff_iff, decide_eq_true_eq, ext_all hr, beq_iff_eq]; omega
  refine pC h296_k rfl ?_
  by_cases hz : s = ⟨#[]⟩
  · subst hz
    simp only [Tryz.f296, go_sem, toList_beq, decide_true]
    rfl
  · have h0 : (0 : Int) < (s.size : Int) := by
      have : s.size ≠ 0 := fun h => hz (ByteArray.size_eq_zero_iff.1 h)
      omega
    simp only [Tryz.f296, go_sem, toList_beq, hz, decide_false, h0]
    repeat' (first
      | ((first | refine pK (p_isLetter _) ?_ | refine pK (p_search _) ?_ | refine pK (p_prefix _ hs) ?_); simp only [go_sem, toList_beq, hz, decide_false, h0, hx])
      | ((first | refine cS ?_ ?_ | refine gS ?_ ?_) <;> (intro hc; simp only [go_sem, hc, toList_beq, hz, decide_false, h0, hx])))
    all_goals first
      | rfl
      | (obtain ⟨x, xs, hx2⟩ : ∃ x xs, s.data.toList = x :: xs := by
          cases h : s.data.toList with
          | nil => rw [<- blen, h] at h0; simp at h0
          | cons x xs => exact ⟨x, xs, rfl⟩
         have hx0 : (s.data[0]?).getD 0 = x := by rw [<- Array.getElem?_toList, hx2]; rfl
         simp only [hx0] at *
         simp only [tnB, hx2]
         simp only [hx2] at *
         grind)
      | skip
theorem p_Plain (s : ByteArray) (hs : s.size <= 1073741824) : PCall Tryz.prog 243 [.str s] (.bool (tnB s)):=by
 refine pC h243_k rfl ?_
 simp only [Tryz.f243,go_sem]
 repeat' (first
  | (refine pK (p_tokName _ hs) ?_; simp only [go_sem])
  | ((first | refine cS ?_ ?_ | refine gS ?_ ?_) <;> (intro hc; simp only [go_sem,hc])))
theorem p_named (s : ByteArray) (hs : s.size <= 1073741824) : PCall Tryz.prog 170 [.str s] (.bool (fnB s)):=by
 refine pC h170_k rfl ?_
 simp only [Tryz.f170,go_sem,toList_beq]
 repeat' (first
  | (refine pK (p_Plain _ hs) ?_; simp only [go_sem,toList_beq])
  | ((first | refine cS ?_ ?_ | refine gS ?_ ?_) <;> (intro hc; simp only [go_sem,hc,toList_beq])))
 all_goals first
  | rfl
  | (simp only [toList_beq,fnB,portS,hc,Bool.false_or,Bool.true_or,Bool.not_false]; rfl)
  | grind [toList_beq,fnB,portS,Bool.false_or,Bool.true_or,Bool.not_false]
  | (simp only [toList_beq,fnB,portS,hc,Bool.false_or,Bool.true_or,Bool.not_false]; grind)
  | (simp [toList_beq,fnB,portS,hc,Bool.false_or,Bool.true_or,Bool.not_false, *]; done)
  | (simp_all [toList_beq,fnB,portS,hc,Bool.false_or,Bool.true_or,Bool.not_false]; done)
  | skip
theorem p_value (n : Int) : PCall Tryz.prog 171 [.int .i64 n] (.bool (w16 n)):=by
 refine pC h171_k rfl ?_
 simp only [Tryz.f171,go_sem]
 repeat' (first
  | ((first | refine cS ?_ ?_ | refine gS ?_ ?_) <;> (intro hc; simp only [go_sem,hc])))
 all_goals first
  | rfl
  | (simp only [w16]; rfl)
  | grind [w16]
  | (simp only [w16]; grind)
  | (simp [w16, *]; done)
  | (simp_all [w16]; done)
  | skip
def tickB (n : Int) : Bool:=decide (0 <= n) && decide (n <= 1073741824)
theorem p_tick (n : Int) : PCall Tryz.prog 241 [.int .i64 n] (.bool (tickB n)):=by
 refine pC h241_k rfl ?_
 simp only [Tryz.f241,go_sem]
 repeat' (first
  | ((first | refine cS ?_ ?_ | refine gS ?_ ?_) <;> (intro hc; simp only [go_sem,hc])))
 all_goals first
  | rfl
  | (simp only [tickB]; rfl)
  | grind [tickB]
  | (simp only [tickB]; grind)
  | (simp [tickB, *]; done)
  | (simp_all [tickB]; done)
  | skip
end Go.AI
namespace Go.AI
open Go.Proofs
set_option maxRecDepth 50000
theorem pfit1 {cs : List AV} {l : List AV} (h : fitL (.agg cs :: l)) : fitL cs:=h.1
def idxGo {α : Type} (p : α -> Bool) : Nat -> List α -> Int
 | _,[] => -1
 | i,x :: l => if p x then (i : Int) else idxGo p (i + 1) l
def idxI {α : Type} (p : α -> Bool) (l : List α) : Int:=idxGo p 0 l
theorem idxGo_any {α : Type} (p : α -> Bool) : ∀ (l : List α) (i : Nat),decide (0 <= idxGo p i l) = l.any p
 | [],i => rfl
 | x :: l,i => by
  rw [idxGo,List.any_cons]
  cases h : p x with
  | true => simp
  | false => simp [idxGo_any p l (i + 1)]
theorem any_not {α : Type} (p : α -> Bool) (l : List α) : (!(l.any fun x => !p x)) = l.all p:=by
 induction l with
 | nil => rfl
 | cons x l ih => simp only [List.any_cons,List.all_cons,Bool.not_or,Bool.not_not,ih]
@[go_sem] theorem getlast {α : Type} (l : List α) (x : α) : (l ++ [x])[l.length]? = some x:=by simp
theorem p_IndexPred {H : Heap} (l : List Pred) (hl : l.length <= 9223372036854775807) (g : FuncId) (fi ca : List AV) (p : Pred -> Bool)
  (h : ∀ x ∈ l,SCall Tryz.prog g (fi.map AV.borrow ++ (.agg x.c :: ca.map AV.borrow)) H (.bool (p x))) :
  SCall Tryz.prog 327 [.sl none (lPred l),.fn (.func g) fi ca] H (.int .i64 (idxI p l)):=by
 unfold SCall
 refine aC h327_k rfl ?_
 simp only [Tryz.f327,go_sem]
 refine awp_all l (fun r => idxGo p (l.length - r.length) r) (fun k => [(0,.sl none (lPred l)),(1,.fn (.func g) fi ca),(7,.int .i64 l.length),(8,.int .i64 k)]) hl rfl ?_ ?_
 ·intro k x xs hd hx hF h0 h1 hw
  have hk2:=drop_len hd
  have e1 : l.length - (xs.length + 1) = k:=by omega
  have e2 : l.length - xs.length = k + 1:=by omega
  simp only [List.length_cons,e1,Nat.sub_self] at hF
  simp only [go_sem,h0,h1,lPred_get hx,e1,e2]
  repeat' (first
   | (refine aS (h x (List.mem_of_getElem? hx)) ?_; simp only [go_sem,h0,h1,hw,lPred_get hx,e1,e2])
   | ((first | refine cS ?_ ?_ | refine gS ?_ ?_) <;> (intro hc; simp only [go_sem,hc,h0,h1,hw,lPred_get hx,e1,e2])))
  ·rw [idxI,hF,idxGo,if_pos hc]
  ·rw [idxGo,if_neg (by rw [hc]; decide)]
 ·intro hF hlt
  simp only [go_sem,hlt,decide_false]
  rw [Nat.sub_self] at hF
  rw [idxI,hF]; rfl
theorem p_ContainsPred {H : Heap} (l : List Pred) (hl : l.length <= 9223372036854775807) (g : FuncId) (fi ca : List AV) (p : Pred -> Bool)
  (h : ∀ x ∈ l,SCall Tryz.prog g (fi.map AV.borrow ++ (.agg x.c :: ca.map AV.borrow)) H (.bool (p x))) :
  SCall Tryz.prog 294 [.sl none (lPred l),.fn (.func g) fi ca] H (.bool (l.any p)):=by
 unfold SCall
 refine aC h294_k rfl ?_
 simp only [Tryz.f294,go_sem]
 repeat' (first
  | (refine aS (p_IndexPred l hl g fi ca p h) ?_; simp only [go_sem])
  | ((first | refine cS ?_ ?_ | refine gS ?_ ?_) <;> (intro hc; simp only [go_sem,hc])))
 rw [idxI,idxGo_any]
theorem p_everyPred (l : List Pred) (hl : l.length <= 9223372036854775807) (n : Int) (g : FuncId) (p : Pred -> Bool) (h : ∀ x ∈ l,PCall Tryz.prog g [.agg x.c] (.bool (p x))) :
  PCall Tryz.prog 242 [.sl none (lPred l),.int .i64 n,.fn (.func g) [] []] (.bool (((l.length : Int) == n) && l.all p)):=by
 refine pC h242_k rfl ?_
 simp only [Tryz.f242,go_sem]
 have h1 : ∀ x ∈ l,SCall Tryz.prog 295 [.agg x.c,.ptr 0 0] [some [.fn (.func g) [] []]] (.bool (!p x)):=by
  intro x hx
  refine ACall.drop rfl ?_
  refine aC h295_k rfl ?_
  simp only [Tryz.f295,go_sem]
  repeat' (first
   | (refine aP (h x hx) ?_; simp only [go_sem])
   | ((first | refine cS ?_ ?_ | refine gS ?_ ?_) <;> (intro hc; simp only [go_sem,hc])))
  exact ⟨_,rfl⟩
 repeat' (first
  | (refine aS (p_ContainsPred l hl 295 [] [.ptr 0 0] (fun x => !p x) h1) ?_; simp only [go_sem,any_not])
  | ((first | refine cS ?_ ?_ | refine gS ?_ ?_) <;> (intro hc; simp only [go_sem,hc,any_not])))
theorem p_IndexPolicy {H : Heap} (l : List Policy) (hl : l.length <= 9223372036854775807) (g : FuncId) (fi ca : List AV) (p : Policy -> Bool)
  (h : ∀ x ∈ l,SCall Tryz.prog g (fi.map AV.borrow ++ (.agg x.c :: ca.map AV.borrow)) H (.bool (p x))) :
  SCall Tryz.prog 297 [.sl none (lPolicy l),.fn (.func g) fi ca] H (.int .i64 (idxI p l)):=by
 unfold SCall
 refine aC h297_k rfl ?_
 simp only [Tryz.f297,go_sem]
 refine awp_all l (fun r => idxGo p (l.length - r.length) r) (fun k => [(0,.sl none (lPolicy l)),(1,.fn (.func g) fi ca),(7,.int .i64 l.length),(8,.int .i64 k)]) hl rfl ?_ ?_
 ·intro k x xs hd hx hF h0 h1 hw
  have hk2:=drop_len hd
  have e1 : l.length - (xs.length + 1) = k:=by omega
  have e2 : l.length - xs.length = k + 1:=by omega
  simp only [List.length_cons,e1,Nat.sub_self] at hF
  simp only [go_sem,h0,h1,lPolicy_get hx,e1,e2]
  repeat' (first
   | (refine aS (h x (List.mem_of_getElem? hx)) ?_; simp only [go_sem,h0,h1,hw,lPolicy_get hx,e1,e2])
   | ((first | refine cS ?_ ?_ | refine gS ?_ ?_) <;> (intro hc; simp only [go_sem,hc,h0,h1,hw,lPolicy_get hx,e1,e2])))
  ·rw [idxI,hF,idxGo,if_pos hc]
  ·rw [idxGo,if_neg (by rw [hc]; decide)]
 ·intro hF hlt
  simp only [go_sem,hlt,decide_false]
  rw [Nat.sub_self] at hF
  rw [idxI,hF]; rfl
theorem p_ContainsPolicy {H : Heap} (l : List Policy) (hl : l.length <= 9223372036854775807) (g : FuncId) (fi ca : List AV) (p : Policy -> Bool)
  (h : ∀ x ∈ l,SCall Tryz.prog g (fi.map AV.borrow ++ (.agg x.c :: ca.map AV.borrow)) H (.bool (p x))) :
  SCall Tryz.prog 244 [.sl none (lPolicy l),.fn (.func g) fi ca] H (.bool (l.any p)):=by
 unfold SCall
 refine aC h244_k rfl ?_
 simp only [Tryz.f244,go_sem]
 repeat' (first
  | (refine aS (p_IndexPolicy l hl g fi ca p h) ?_; simp only [go_sem])
  | ((first | refine cS ?_ ?_ | refine gS ?_ ?_) <;> (intro hc; simp only [go_sem,hc])))
 rw [idxI,idxGo_any]
theorem p_everyPolicy (l : List Policy) (hl : l.length <= 9223372036854775807) (n : Int) (g : FuncId) (p : Policy -> Bool) (h : ∀ x ∈ l,PCall Tryz.prog g [.agg x.c] (.bool (p x))) :
  PCall Tryz.prog 172 [.sl none (lPolicy l),.int .i64 n,.fn (.func g) [] []] (.bool (((l.length : Int) == n) && l.all p)):=by
 refine pC h172_k rfl ?_
 simp only [Tryz.f172,go_sem]
 have h1 : ∀ x ∈ l,SCall Tryz.prog 245 [.agg x.c,.ptr 0 0] [some [.fn (.func g) [] []]] (.bool (!p x)):=by
  intro x hx
  refine ACall.drop rfl ?_
  refine aC h245_k rfl ?_
  simp only [Tryz.f245,go_sem]
  repeat' (first
   | (refine aP (h x hx) ?_; simp only [go_sem])
   | ((first | refine cS ?_ ?_ | refine gS ?_ ?_) <;> (intro hc; simp only [go_sem,hc])))
  exact ⟨_,rfl⟩
 repeat' (first
  | (refine aS (p_ContainsPolicy l hl 245 [] [.ptr 0 0] (fun x => !p x) h1) ?_; simp only [go_sem,any_not])
  | ((first | refine cS ?_ ?_ | refine gS ?_ ?_) <;> (intro hc; simp only [go_sem,hc,any_not])))
theorem p_with (a b : Sizes) : PCall Tryz.prog 165 [.agg a.c,.agg b.c] (.agg (a.more b).c):=by
 refine pB h165_k rfl ?_
 simp only [Tryz.f165,go_sem]
 rfl
theorem p_allPred (l : List Pred) (hl : l.length <= 9223372036854775807) (h : ∀ x ∈ l,PCall Tryz.prog 166 [.agg x.c] (.agg (szP x).c)) :
  PCall Tryz.prog 239 [.sl none (lPred l),.fn (.func 166) [] []] (.agg (szPs l ⟨1,1⟩).c):=by
 refine pB h239_k rfl ?_
 simp only [Tryz.f239,go_sem]
 refine awp_lst l (fun o l => szPs l o) (fun _ _ => True) (fun k o => [(1,.fn (.func 166) [] []),(4,.ptr 0 0),(5,.ptr 1 0),(9,.sl none (lPred l)),(10,.int .i64 l.length),(11,.int .i64 k)]) (fun k o => [some Sizes.z.c,some o.c]) ⟨1,1⟩ hl trivial rfl rfl ?_ ?_
 ·intro k o y ys hd hx _ hF h0 h1 hw
  simp only [go_sem,h0,h1,lPred_get hx]
  repeat' (first
   | ((first | refine pK (h _ (List.mem_of_getElem? hx)) ?_ | refine pK (p_with _ _) ?_); simp only [go_sem,h0,h1,hw,lPred_get hx])
   | ((first | refine cS ?_ ?_ | refine gS ?_ ?_) <;> (intro hc; simp only [go_sem,hc,h0,h1,hw,lPred_get hx])))
  exact ⟨_,szPs_cons _ _ _,rfl,rfl⟩
 ·intro o _ hF
  simp only [go_sem,Int.lt_irrefl,decide_false]
  rw [hF,szPs_nil]
theorem p_EqualPred (a b : List Pred) (ha : a.length <= 9223372036854775807) (h : ∀ x ∈ a,∀ y,PCall Tryz.prog 168 [.agg x.c,.agg y.c] (.bool (eqP x y))) :
  PCall Tryz.prog 240 [.sl none (lPred a),.sl none (lPred b),.fn (.func 168) [] []] (.bool (((a.length : Int) == (b.length : Int)) && eqPs a b)):=by
 refine pC h240_k rfl ?_
 simp only [Tryz.f240,go_sem]
 repeat' (first
  | ((first | refine cS ?_ ?_ | refine gS ?_ ?_) <;> (intro hc; simp only [go_sem,hc])))
 ·simp at hc; simp [hc]
 ·have hlen : a.length = b.length:=by simp at hc; omega
  refine awp_lst a (fun (_ : Unit) r => eqPs r (b.drop (a.length - r.length))) (fun _ _ => True) (fun k _ => [(1,.sl none (lPred b)),(2,.fn (.func 168) [] []),(15,.sl none (lPred a)),(16,.int .i64 a.length),(17,.int .i64 k)]) (fun k _ => []) () ha trivial rfl rfl ?_ ?_
  ·intro k _ x xs hd hx _ hF h0 h1 hw
   have hk2:=drop_len hd
   obtain ⟨y,hy⟩ : ∃ y,b[k]? = some y:=⟨_,List.getElem?_eq_getElem (by omega)⟩
   have e1 : a.length - (xs.length + 1) = k:=by omega
   have e2 : a.length - xs.length = k + 1:=by omega
   have hbd : b.drop k = y :: b.drop (k + 1):=by
    obtain ⟨hlt,rfl⟩:=List.getElem?_eq_some_iff.1 hy
    exact List.drop_eq_getElem_cons hlt
   simp only [List.length_cons,e1,Nat.sub_self,List.drop_zero,hbd,eqPs_cons] at hF
   simp only [go_sem,h0,h1,lPred_get hx,lPred_get hy]
   repeat' (first
    | (refine aP (h _ (List.mem_of_getElem? hx) y) ?_; simp only [go_sem,h0,h1,hw,lPred_get hx,lPred_get hy])
    | ((first | refine cS ?_ ?_ | refine gS ?_ ?_) <;> (intro hc; simp only [go_sem,hc,h0,h1,hw,lPred_get hx,lPred_get hy])))
   ·simp only [Bool.not_eq_true'] at hc
    rw [hF,hc,Bool.false_and,Bool.and_false]
   ·simp only [Bool.not_eq_false'] at hc
    exact ⟨(),by rw [e1,e2,hbd,eqPs_cons,hc,Bool.true_and]⟩
  ·intro _ _ hF
   simp only [go_sem,Int.lt_irrefl,decide_false]
   rw [Nat.sub_self,List.drop_zero,eqPs_nil] at hF
   rw [hF,hlen]; simp
theorem p_allPolicy (l : List Policy) (hl : l.length <= 9223372036854775807) (h : ∀ x ∈ l,PCall Tryz.prog 101 [.agg x.c] (.agg (szO x).c)) :
  PCall Tryz.prog 164 [.sl none (lPolicy l),.fn (.func 101) [] []] (.agg (szOs l ⟨1,1⟩).c):=by
 refine pB h164_k rfl ?_
 simp only [Tryz.f164,go_sem]
 refine awp_lst l (fun o l => szOs l o) (fun _ _ => True) (fun k o => [(1,.fn (.func 101) [] []),(4,.ptr 0 0),(5,.ptr 1 0),(9,.sl none (lPolicy l)),(10,.int .i64 l.length),(11,.int .i64 k)]) (fun k o => [some Sizes.z.c,some o.c]) ⟨1,1⟩ hl trivial rfl rfl ?_ ?_
 ·intro k o y ys hd hx _ hF h0 h1 hw
  simp only [go_sem,h0,h1,lPolicy_get hx]
  repeat' (first
   | ((first | refine pK (h _ (List.mem_of_getElem? hx)) ?_ | refine pK (p_with _ _) ?_); simp only [go_sem,h0,h1,hw,lPolicy_get hx])
   | ((first | refine cS ?_ ?_ | refine gS ?_ ?_) <;> (intro hc; simp only [go_sem,hc,h0,h1,hw,lPolicy_get hx])))
  exact ⟨_,szOs_cons _ _ _,rfl,rfl⟩
 ·intro o _ hF
  simp only [go_sem,Int.lt_irrefl,decide_false]
  rw [hF,szOs_nil]
end Go.AI
namespace Go.AI
open Go.Proofs
set_option maxRecDepth 50000
theorem p_sizePred : ∀ x : Pred,PCall Tryz.prog 166 [.agg x.c] (.agg (szP x).c):=by
 refine Pred.ind _ fun x ih => ?_
 refine PCall.fit h166_k.c fun hf => ?_
 have hl:=Pred.fit_args (pfit1 hf)
 refine pB h166_k rfl ?_
 simp only [Tryz.f166,go_sem]
 repeat' (first
  | (refine pK (p_allPred _ hl (fun y hy => ih y hy)) ?_; simp only [go_sem])
  | ((first | refine cS ?_ ?_ | refine gS ?_ ?_) <;> (intro hc; simp only [go_sem,hc])))
 rw [szP_eq]
theorem i64_add (a b : Int) : i64 (i64 a + b) = i64 (a + b):=by
 simp only [i64,IntKind.wrap,IntKind.signed,IntKind.bits]
 simp
 split <;> split <;> split <;> omega
theorem more_comm (a b c : Sizes) : (a.more b).more c = (a.more c).more b:=by
 unfold Sizes.more imax
 simp only [Sizes.mk.injEq]
 refine ⟨?_, ?_⟩
 ·rw [i64_add,i64_add]; congr 1; omega
 ·grind
theorem szOs_more (z : Sizes) : ∀ (l : List Policy) (o : Sizes),szOs l (o.more z) = (szOs l o).more z
 | [],o => by rw [szOs_nil,szOs_nil]
 | x :: l,o => by rw [szOs_cons,szOs_cons,more_comm,szOs_more z l]
theorem p_sizePolicy : ∀ x : Policy,PCall Tryz.prog 101 [.agg x.c] (.agg (szO x).c):=by
 refine Policy.ind _ fun x ih => ?_
 refine PCall.fit h101_k.c fun hf => ?_
 have hl:=Policy.fit_args (pfit1 hf)
 refine pB h101_k rfl ?_
 simp only [Tryz.f101,go_sem]
 repeat' (first
  | ((first | refine pK (p_allPolicy _ hl (fun y hy => ih y hy)) ?_ | refine pK (p_sizePred _) ?_ | refine pK (p_with _ _) ?_); simp only [go_sem])
  | ((first | refine cS ?_ ?_ | refine gS ?_ ?_) <;> (intro hc; simp only [go_sem,hc])))
 ·rw [szO_eq,if_pos (by simpa using hc),szOs_more]
 ·rw [szO_eq,if_neg (by simpa using hc)]
theorem p_large (z : Sizes) : PCall Tryz.prog 167 [.agg z.c] (.int .i64 (limE z)):=by
 refine pC h167_k rfl ?_
 simp only [Tryz.f167,go_sem]
 repeat' (first
  | ((first | refine cS ?_ ?_ | refine gS ?_ ?_) <;> (intro hc; simp only [go_sem,hc])))
 all_goals first
  | rfl
  | (simp only [limE]; rfl)
  | grind [limE]
  | (simp only [limE]; grind)
  | (simp [limE, *]; done)
  | (simp_all [limE]; done)
  | skip
theorem p_check {H : Heap} (z : Sizes) (g : FuncId) (ca : List AV) (b : Bool) (h : SCall Tryz.prog g (ca.map AV.borrow) (H ++ [some z.c]) (.bool b)) :
  SCall Tryz.prog 102 [.agg z.c,.fn (.func g) [] ca] H (.int .i64 (fmE z b)):=by
 refine ACall.drop rfl ?_
 refine aC h102_k rfl ?_
 simp only [Tryz.f102,go_sem]
 repeat' (first
  | ((first | refine pK (p_large _) ?_ | refine aS (h) ?_); simp only [go_sem])
  | ((first | refine cS ?_ ?_ | refine gS ?_ ?_) <;> (intro hc; simp only [go_sem,hc])))
 all_goals simp_all [fmE]
theorem ibeq (a b : Nat) : ((a : Int) == (b : Int)) = (a == b):=by
 rw [Bool.eq_iff_iff]; simp; omega
theorem p_SamePred : ∀ x y : Pred,PCall Tryz.prog 168 [.agg x.c,.agg y.c] (.bool (eqP x y)):=by
 refine Pred.ind _ fun x ih => fun y => ?_
 refine PCall.fit h168_k.c fun hf => ?_
 have hl:=Pred.fit_args (pfit1 hf)
 refine pC h168_k rfl ?_
 simp only [Tryz.f168,go_sem,toList_beq]
 repeat' (first
  | (refine pK (p_EqualPred _ _ hl (fun y hy z => ih y hy z)) ?_; simp only [go_sem,toList_beq])
  | ((first | refine cS ?_ ?_ | refine gS ?_ ?_) <;> (intro hc; simp only [go_sem,hc,toList_beq])))
 all_goals (rw [eqP_eq]; simp_all [ibeq])
theorem fmPs_all : ∀ l : List Pred,fmPs l = l.all fmP
 | [] => by rw [fmPs_nil]; rfl
 | x :: l => by rw [fmPs_cons,List.all_cons,fmPs_all l]
theorem fmOs_all : ∀ l : List Policy,fmOs l = l.all fmO
 | [] => by rw [fmOs_nil]; rfl
 | x :: l => by rw [fmOs_cons,List.all_cons,fmOs_all l]
theorem len0 {α : Type} (l : List α) : ((l.length : Int) == 0) = l.isEmpty:=by
 cases l <;> simp; omega
theorem ieq_no {a b : Int} (h : a ≠ b) : (a == b) = false:=by simp [h]
end Go.AI
namespace Go.AI
open Go.Proofs
set_option maxRecDepth 50000
theorem p_fP1
(field : ByteArray) (n m : Int) (args : List Pred) (hl : args.length <= 9223372036854775807) (hfs : field.size <= 1073741824) (hev : ∀ y ∈ args,PCall Tryz.prog 169 [.agg y.c] (.bool (fmP y))) : PCall Tryz.prog 169 [.agg (Pred.c ⟨1,field,n,m,args⟩)] (.bool (fmP ⟨1,field,n,m,args⟩)):=by
 refine pC h169_k rfl ?_
 simp only [Tryz.f169,go_sem,toList_beq,Int.reduceBEq,len0]
 repeat' (first
  | ((first | refine pK (p_named _ hfs) ?_ | refine pK (p_value _) ?_ | refine pK (p_tick _) ?_ | refine pK (p_everyPred _ hl _ _ fmP hev) ?_); simp only [go_sem,toList_beq,Int.reduceBEq,len0])
  | ((first | refine cS ?_ ?_ | refine gS ?_ ?_) <;> (intro hc; simp only [go_sem,hc,toList_beq,Int.reduceBEq,len0])))
 all_goals (rw [fmP_eq]; cases args <;> (simp_all [okP,noneP,w16,tickB,fmPs_all,fmPs_nil] <;> first | omega | grind | skip))
theorem p_fP2
(field : ByteArray) (n m : Int) (args : List Pred) (hl : args.length <= 9223372036854775807) (hfs : field.size <= 1073741824) (hev : ∀ y ∈ args,PCall Tryz.prog 169 [.agg y.c] (.bool (fmP y))) : PCall Tryz.prog 169 [.agg (Pred.c ⟨2,field,n,m,args⟩)] (.bool (fmP ⟨2,field,n,m,args⟩)):=by
 refine pC h169_k rfl ?_
 simp only [Tryz.f169,go_sem,toList_beq,Int.reduceBEq,len0]
 repeat' (first
  | ((first | refine pK (p_named _ hfs) ?_ | refine pK (p_value _) ?_ | refine pK (p_tick _) ?_ | refine pK (p_everyPred _ hl _ _ fmP hev) ?_); simp only [go_sem,toList_beq,Int.reduceBEq,len0])
  | ((first | refine cS ?_ ?_ | refine gS ?_ ?_) <;> (intro hc; simp only [go_sem,hc,toList_beq,Int.reduceBEq,len0])))
 all_goals (rw [fmP_eq]; cases args <;> (simp_all [okP,noneP,w16,tickB,fmPs_all,fmPs_nil] <;> first | omega | grind | skip))
theorem p_fP3
(field : ByteArray) (n m : Int) (args : List Pred) (hl : args.length <= 9223372036854775807) (hfs : field.size <= 1073741824) (hev : ∀ y ∈ args,PCall Tryz.prog 169 [.agg y.c] (.bool (fmP y))) : PCall Tryz.prog 169 [.agg (Pred.c ⟨3,field,n,m,args⟩)] (.bool (fmP ⟨3,field,n,m,args⟩)):=by
 refine pC h169_k rfl ?_
 simp only [Tryz.f169,go_sem,toList_beq,Int.reduceBEq,len0]
 repeat' (first
  | ((first | refine pK (p_named _ hfs) ?_ | refine pK (p_value _) ?_ | refine pK (p_tick _) ?_ | refine pK (p_everyPred _ hl _ _ fmP hev) ?_); simp only [go_sem,toList_beq,Int.reduceBEq,len0])
  | ((first | refine cS ?_ ?_ | refine gS ?_ ?_) <;> (intro hc; simp only [go_sem,hc,toList_beq,Int.reduceBEq,len0])))
 all_goals (rw [fmP_eq]; cases args <;> (simp_all [okP,noneP,w16,tickB,fmPs_all,fmPs_nil] <;> first | omega | grind | skip))
theorem p_fP4
(field : ByteArray) (n m : Int) (args : List Pred) (hl : args.length <= 9223372036854775807) (hfs : field.size <= 1073741824) (hev : ∀ y ∈ args,PCall Tryz.prog 169 [.agg y.c] (.bool (fmP y))) : PCall Tryz.prog 169 [.agg (Pred.c ⟨4,field,n,m,args⟩)] (.bool (fmP ⟨4,field,n,m,args⟩)):=by
 refine pC h169_k rfl ?_
 simp only [Tryz.f169,go_sem,toList_beq,Int.reduceBEq,len0]
 repeat' (first
  | ((first | refine pK (p_named _ hfs) ?_ | refine pK (p_value _) ?_ | refine pK (p_tick _) ?_ | refine pK (p_everyPred _ hl _ _ fmP hev) ?_); simp only [go_sem,toList_beq,Int.reduceBEq,len0])
  | ((first | refine cS ?_ ?_ | refine gS ?_ ?_) <;> (intro hc; simp only [go_sem,hc,toList_beq,Int.reduceBEq,len0])))
 all_goals (rw [fmP_eq]; cases args <;> (simp_all [okP,noneP,w16,tickB,fmPs_all,fmPs_nil] <;> first | omega | grind | skip))
theorem p_fP5
(field : ByteArray) (n m : Int) (args : List Pred) (hl : args.length <= 9223372036854775807) (hfs : field.size <= 1073741824) (hev : ∀ y ∈ args,PCall Tryz.prog 169 [.agg y.c] (.bool (fmP y))) : PCall Tryz.prog 169 [.agg (Pred.c ⟨5,field,n,m,args⟩)] (.bool (fmP ⟨5,field,n,m,args⟩)):=by
 refine pC h169_k rfl ?_
 simp only [Tryz.f169,go_sem,toList_beq,Int.reduceBEq,len0]
 repeat' (first
  | ((first | refine pK (p_named _ hfs) ?_ | refine pK (p_value _) ?_ | refine pK (p_tick _) ?_ | refine pK (p_everyPred _ hl _ _ fmP hev) ?_); simp only [go_sem,toList_beq,Int.reduceBEq,len0])
  | ((first | refine cS ?_ ?_ | refine gS ?_ ?_) <;> (intro hc; simp only [go_sem,hc,toList_beq,Int.reduceBEq,len0])))
 all_goals (rw [fmP_eq]; cases args <;> (simp_all [okP,noneP,w16,tickB,fmPs_all,fmPs_nil] <;> first | omega | grind | skip))
theorem p_fP6
(field : ByteArray) (n m : Int) (args : List Pred) (hl : args.length <= 9223372036854775807) (hfs : field.size <= 1073741824) (hev : ∀ y ∈ args,PCall Tryz.prog 169 [.agg y.c] (.bool (fmP y))) : PCall Tryz.prog 169 [.agg (Pred.c ⟨6,field,n,m,args⟩)] (.bool (fmP ⟨6,field,n,m,args⟩)):=by
 refine pC h169_k rfl ?_
 simp only [Tryz.f169,go_sem,toList_beq,Int.reduceBEq,len0]
 repeat' (first
  | ((first | refine pK (p_named _ hfs) ?_ | refine pK (p_value _) ?_ | refine pK (p_tick _) ?_ | refine pK (p_everyPred _ hl _ _ fmP hev) ?_); simp only [go_sem,toList_beq,Int.reduceBEq,len0])
  | ((first | refine cS ?_ ?_ | refine gS ?_ ?_) <;> (intro hc; simp only [go_sem,hc,toList_beq,Int.reduceBEq,len0])))
 all_goals (rw [fmP_eq]; cases args <;> (simp_all [okP,noneP,w16,tickB,fmPs_all,fmPs_nil] <;> first | omega | grind | skip))
theorem p_fP7
(field : ByteArray) (n m : Int) (args : List Pred) (hl : args.length <= 9223372036854775807) (hfs : field.size <= 1073741824) (hev : ∀ y ∈ args,PCall Tryz.prog 169 [.agg y.c] (.bool (fmP y))) : PCall Tryz.prog 169 [.agg (Pred.c ⟨7,field,n,m,args⟩)] (.bool (fmP ⟨7,field,n,m,args⟩)):=by
 refine pC h169_k rfl ?_
 simp only [Tryz.f169,go_sem,toList_beq,Int.reduceBEq,len0]
 repeat' (first
  | ((first | refine pK (p_named _ hfs) ?_ | refine pK (p_value _) ?_ | refine pK (p_tick _) ?_ | refine pK (p_everyPred _ hl _ _ fmP hev) ?_); simp only [go_sem,toList_beq,Int.reduceBEq,len0])
  | ((first | refine cS ?_ ?_ | refine gS ?_ ?_) <;> (intro hc; simp only [go_sem,hc,toList_beq,Int.reduceBEq,len0])))
 all_goals (rw [fmP_eq]; cases args <;> (simp_all [okP,noneP,w16,tickB,fmPs_all,fmPs_nil] <;> first | omega | grind | skip))
theorem p_fP8
(field : ByteArray) (n m : Int) (args : List Pred) (hl : args.length <= 9223372036854775807) (hfs : field.size <= 1073741824) (hev : ∀ y ∈ args,PCall Tryz.prog 169 [.agg y.c] (.bool (fmP y))) : PCall Tryz.prog 169 [.agg (Pred.c ⟨8,field,n,m,args⟩)] (.bool (fmP ⟨8,field,n,m,args⟩)):=by
 refine pC h169_k rfl ?_
 simp only [Tryz.f169,go_sem,toList_beq,Int.reduceBEq,len0]
 repeat' (first
  | ((first | refine pK (p_named _ hfs) ?_ | refine pK (p_value _) ?_ | refine pK (p_tick _) ?_ | refine pK (p_everyPred _ hl _ _ fmP hev) ?_); simp only [go_sem,toList_beq,Int.reduceBEq,len0])
  | ((first | refine cS ?_ ?_ | refine gS ?_ ?_) <;> (intro hc; simp only [go_sem,hc,toList_beq,Int.reduceBEq,len0])))
 all_goals (rw [fmP_eq]; cases args <;> (simp_all [okP,noneP,w16,tickB,fmPs_all,fmPs_nil] <;> first | omega | grind | skip))
theorem p_fP9
(field : ByteArray) (n m : Int) (args : List Pred) (hl : args.length <= 9223372036854775807) (hfs : field.size <= 1073741824) (hev : ∀ y ∈ args,PCall Tryz.prog 169 [.agg y.c] (.bool (fmP y))) : PCall Tryz.prog 169 [.agg (Pred.c ⟨9,field,n,m,args⟩)] (.bool (fmP ⟨9,field,n,m,args⟩)):=by
 refine pC h169_k rfl ?_
 simp only [Tryz.f169,go_sem,toList_beq,Int.reduceBEq,len0]
 repeat' (first
  | ((first | refine pK (p_named _ hfs) ?_ | refine pK (p_value _) ?_ | refine pK (p_tick _) ?_ | refine pK (p_everyPred _ hl _ _ fmP hev) ?_); simp only [go_sem,toList_beq,Int.reduceBEq,len0])
  | ((first | refine cS ?_ ?_ | refine gS ?_ ?_) <;> (intro hc; simp only [go_sem,hc,toList_beq,Int.reduceBEq,len0])))
 all_goals (rw [fmP_eq]; cases args <;> (simp_all [okP,noneP,w16,tickB,fmPs_all,fmPs_nil] <;> first | omega | grind | skip))
theorem p_fP0 (kind : Int) (h1 : kind ≠ 1) (h2 : kind ≠ 2) (h3 : kind ≠ 3) (h4 : kind ≠ 4) (h5 : kind ≠ 5) (h6 : kind ≠ 6) (h7 : kind ≠ 7) (h8 : kind ≠ 8) (h9 : kind ≠ 9)
  (field : ByteArray) (n m : Int) (args : List Pred) : PCall Tryz.prog 169 [.agg (Pred.c ⟨kind,field,n,m,args⟩)] (.bool (fmP ⟨kind,field,n,m,args⟩)):=by
 refine pC h169_k rfl ?_
 simp only [Tryz.f169,go_sem,toList_beq,len0,ieq_no h1,ieq_no h2,ieq_no h3,ieq_no h4,ieq_no h5,ieq_no h6,ieq_no h7,ieq_no h8,ieq_no h9]
 repeat' (first
  | ((first | refine cS ?_ ?_ | refine gS ?_ ?_) <;> (intro hc; simp only [go_sem,hc,toList_beq,len0,ieq_no h1,ieq_no h2,ieq_no h3,ieq_no h4,ieq_no h5,ieq_no h6,ieq_no h7,ieq_no h8,ieq_no h9])))
 all_goals (rw [fmP_eq]; simp [okP, *])
theorem p_formedPred : ∀ x : Pred,bulkL x.c <= 1073741824 -> PCall Tryz.prog 169 [.agg x.c] (.bool (fmP x)):=by
 refine Pred.ind _ fun x ih => fun hb => ?_
 have hl : x.args.length <= 9223372036854775807:=Nat.le_trans (lPred_bn (Pred.bl_args hb)) (by decide)
 have hfs:=Pred.bk_field hb
 have hev : ∀ y ∈ x.args,PCall Tryz.prog 169 [.agg y.c] (.bool (fmP y)):=fun y hm =>
  ih y hm (by have:=lPred_bk (Pred.bl_args hb) hm; simpa only [AV.bulk] using this)
 obtain ⟨kind,field,n,m,args⟩:=x
 by_cases h1 : kind = 1
 ·subst h1; exact p_fP1 field n m args hl hfs hev
 by_cases h2 : kind = 2
 ·subst h2; exact p_fP2 field n m args hl hfs hev
 by_cases h3 : kind = 3
 ·subst h3; exact p_fP3 field n m args hl hfs hev
 by_cases h4 : kind = 4
 ·subst h4; exact p_fP4 field n m args hl hfs hev
 by_cases h5 : kind = 5
 ·subst h5; exact p_fP5 field n m args hl hfs hev
 by_cases h6 : kind = 6
 ·subst h6; exact p_fP6 field n m args hl hfs hev
 by_cases h7 : kind = 7
 ·subst h7; exact p_fP7 field n m args hl hfs hev
 by_cases h8 : kind = 8
 ·subst h8; exact p_fP8 field n m args hl hfs hev
 by_cases h9 : kind = 9
 ·subst h9; exact p_fP9 field n m args hl hfs hev
 exact p_fP0 kind h1 h2 h3 h4 h5 h6 h7 h8 h9 field n m args
end Go.AI
namespace Go.AI
open Go.Proofs
set_option maxRecDepth 50000
theorem p_fO1
(pred : Pred) (field : ByteArray) (n : Int) (args : List Policy) (hl : args.length <= 9223372036854775807) (hfs : field.size <= 1073741824) (hp : bulkL pred.c <= 1073741824) (hev : ∀ y ∈ args,PCall Tryz.prog 104 [.agg y.c] (.bool (fmO y))) : PCall Tryz.prog 104 [.agg (Policy.c ⟨1,pred,field,n,args⟩)] (.bool (fmO ⟨1,pred,field,n,args⟩)):=by
 refine pC h104_k rfl ?_
 simp only [Tryz.f104,go_sem,toList_beq,Int.reduceBEq,len0]
 repeat' (first
  | ((first | refine pK (PCall.lend (p_SamePred pred Pred.z)) ?_ | refine pK (p_named _ hfs) ?_ | refine pK (p_value _) ?_ | refine pK (p_formedPred _ hp) ?_ | refine pK (p_everyPolicy _ hl _ _ fmO hev) ?_); simp only [go_sem,toList_beq,Int.reduceBEq,len0])
  | ((first | refine cS ?_ ?_ | refine gS ?_ ?_) <;> (intro hc; simp only [go_sem,hc,toList_beq,Int.reduceBEq,len0])))
 all_goals (rw [fmO_eq]; cases args <;> (simp_all [okO,w16,fmOs_all,fmOs_nil] <;> first | omega | grind | skip))
theorem p_fO2
(pred : Pred) (field : ByteArray) (n : Int) (args : List Policy) (hl : args.length <= 9223372036854775807) (hfs : field.size <= 1073741824) (hp : bulkL pred.c <= 1073741824) (hev : ∀ y ∈ args,PCall Tryz.prog 104 [.agg y.c] (.bool (fmO y))) : PCall Tryz.prog 104 [.agg (Policy.c ⟨2,pred,field,n,args⟩)] (.bool (fmO ⟨2,pred,field,n,args⟩)):=by
 refine pC h104_k rfl ?_
 simp only [Tryz.f104,go_sem,toList_beq,Int.reduceBEq,len0]
 repeat' (first
  | ((first | refine pK (PCall.lend (p_SamePred pred Pred.z)) ?_ | refine pK (p_named _ hfs) ?_ | refine pK (p_value _) ?_ | refine pK (p_formedPred _ hp) ?_ | refine pK (p_everyPolicy _ hl _ _ fmO hev) ?_); simp only [go_sem,toList_beq,Int.reduceBEq,len0])
  | ((first | refine cS ?_ ?_ | refine gS ?_ ?_) <;> (intro hc; simp only [go_sem,hc,toList_beq,Int.reduceBEq,len0])))
 all_goals (rw [fmO_eq]; cases args <;> (simp_all [okO,w16,fmOs_all,fmOs_nil] <;> first | omega | grind | skip))
theorem p_fO3
(pred : Pred) (field : ByteArray) (n : Int) (args : List Policy) (hl : args.length <= 9223372036854775807) (hfs : field.size <= 1073741824) (hp : bulkL pred.c <= 1073741824) (hev : ∀ y ∈ args,PCall Tryz.prog 104 [.agg y.c] (.bool (fmO y))) : PCall Tryz.prog 104 [.agg (Policy.c ⟨3,pred,field,n,args⟩)] (.bool (fmO ⟨3,pred,field,n,args⟩)):=by
 refine pC h104_k rfl ?_
 simp only [Tryz.f104,go_sem,toList_beq,Int.reduceBEq,len0]
 repeat' (first
  | ((first | refine pK (PCall.lend (p_SamePred pred Pred.z)) ?_ | refine pK (p_named _ hfs) ?_ | refine pK (p_value _) ?_ | refine pK (p_formedPred _ hp) ?_ | refine pK (p_everyPolicy _ hl _ _ fmO hev) ?_); simp only [go_sem,toList_beq,Int.reduceBEq,len0])
  | ((first | refine cS ?_ ?_ | refine gS ?_ ?_) <;> (intro hc; simp only [go_sem,hc,toList_beq,Int.reduceBEq,len0])))
 all_goals (rw [fmO_eq]; cases args <;> (simp_all [okO,w16,fmOs_all,fmOs_nil] <;> first | omega | grind | skip))
theorem p_fO4
(pred : Pred) (field : ByteArray) (n : Int) (args : List Policy) (hl : args.length <= 9223372036854775807) (hfs : field.size <= 1073741824) (hp : bulkL pred.c <= 1073741824) (hev : ∀ y ∈ args,PCall Tryz.prog 104 [.agg y.c] (.bool (fmO y))) : PCall Tryz.prog 104 [.agg (Policy.c ⟨4,pred,field,n,args⟩)] (.bool (fmO ⟨4,pred,field,n,args⟩)):=by
 refine pC h104_k rfl ?_
 simp only [Tryz.f104,go_sem,toList_beq,Int.reduceBEq,len0]
 repeat' (first
  | ((first | refine pK (PCall.lend (p_SamePred pred Pred.z)) ?_ | refine pK (p_named _ hfs) ?_ | refine pK (p_value _) ?_ | refine pK (p_formedPred _ hp) ?_ | refine pK (p_everyPolicy _ hl _ _ fmO hev) ?_); simp only [go_sem,toList_beq,Int.reduceBEq,len0])
  | ((first | refine cS ?_ ?_ | refine gS ?_ ?_) <;> (intro hc; simp only [go_sem,hc,toList_beq,Int.reduceBEq,len0])))
 all_goals (rw [fmO_eq]; cases args <;> (simp_all [okO,w16,fmOs_all,fmOs_nil] <;> first | omega | grind | skip))
theorem p_fO5
(pred : Pred) (field : ByteArray) (n : Int) (args : List Policy) (hl : args.length <= 9223372036854775807) (hfs : field.size <= 1073741824) (hp : bulkL pred.c <= 1073741824) (hev : ∀ y ∈ args,PCall Tryz.prog 104 [.agg y.c] (.bool (fmO y))) : PCall Tryz.prog 104 [.agg (Policy.c ⟨5,pred,field,n,args⟩)] (.bool (fmO ⟨5,pred,field,n,args⟩)):=by
 refine pC h104_k rfl ?_
 simp only [Tryz.f104,go_sem,toList_beq,Int.reduceBEq,len0]
 repeat' (first
  | ((first | refine pK (PCall.lend (p_SamePred pred Pred.z)) ?_ | refine pK (p_named _ hfs) ?_ | refine pK (p_value _) ?_ | refine pK (p_formedPred _ hp) ?_ | refine pK (p_everyPolicy _ hl _ _ fmO hev) ?_); simp only [go_sem,toList_beq,Int.reduceBEq,len0])
  | ((first | refine cS ?_ ?_ | refine gS ?_ ?_) <;> (intro hc; simp only [go_sem,hc,toList_beq,Int.reduceBEq,len0])))
 all_goals (rw [fmO_eq]; cases args <;> (simp_all [okO,w16,fmOs_all,fmOs_nil] <;> first | omega | grind | skip))
theorem p_fO0 (kind : Int) (h1 : kind ≠ 1) (h2 : kind ≠ 2) (h3 : kind ≠ 3) (h4 : kind ≠ 4) (h5 : kind ≠ 5)
  (pred : Pred) (field : ByteArray) (n : Int) (args : List Policy) : PCall Tryz.prog 104 [.agg (Policy.c ⟨kind,pred,field,n,args⟩)] (.bool (fmO ⟨kind,pred,field,n,args⟩)):=by
 refine pC h104_k rfl ?_
 simp only [Tryz.f104,go_sem,toList_beq,len0,ieq_no h1,ieq_no h2,ieq_no h3,ieq_no h4,ieq_no h5]
 repeat' (first
  | (refine pK (PCall.lend (p_SamePred pred Pred.z)) ?_; simp only [go_sem,toList_beq,len0,ieq_no h1,ieq_no h2,ieq_no h3,ieq_no h4,ieq_no h5])
  | ((first | refine cS ?_ ?_ | refine gS ?_ ?_) <;> (intro hc; simp only [go_sem,hc,toList_beq,len0,ieq_no h1,ieq_no h2,ieq_no h3,ieq_no h4,ieq_no h5])))
 all_goals (rw [fmO_eq]; simp [okO, *])
theorem p_formedPolicy : ∀ x : Policy,bulkL x.c <= 1073741824 -> PCall Tryz.prog 104 [.agg x.c] (.bool (fmO x)):=by
 refine Policy.ind _ fun x ih => fun hb => ?_
 have hl : x.args.length <= 9223372036854775807:=Nat.le_trans (lPolicy_bn (Policy.bl_args hb)) (by decide)
 have hfs:=Policy.bk_field hb
 have hp:=Policy.bs_pred hb
 have hev : ∀ y ∈ x.args,PCall Tryz.prog 104 [.agg y.c] (.bool (fmO y)):=fun y hm =>
  ih y hm (by have:=lPolicy_bk (Policy.bl_args hb) hm; simpa only [AV.bulk] using this)
 obtain ⟨kind,pred,field,n,args⟩:=x
 by_cases h1 : kind = 1
 ·subst h1; exact p_fO1 pred field n args hl hfs hp hev
 by_cases h2 : kind = 2
 ·subst h2; exact p_fO2 pred field n args hl hfs hp hev
 by_cases h3 : kind = 3
 ·subst h3; exact p_fO3 pred field n args hl hfs hp hev
 by_cases h4 : kind = 4
 ·subst h4; exact p_fO4 pred field n args hl hfs hp hev
 by_cases h5 : kind = 5
 ·subst h5; exact p_fO5 pred field n args hl hfs hp hev
 exact p_fO0 kind h1 h2 h3 h4 h5 pred field n args
theorem p_CkO1 {H : Heap} (x : Policy) (hb : bulkL x.c <= 1073741824) (o : Nat) (ho : H[o]? = some (some x.c)) : SCall Tryz.prog 103 [.ptr o 0] H (.bool (fmO x)):=by
 refine ACall.drop rfl ?_
 refine aC h103_k rfl ?_
 simp only [Tryz.f103,go_sem,ho]
 repeat' (first
  | (refine pK (p_formedPolicy _ hb) ?_; simp only [go_sem,ho])
  | ((first | refine cS ?_ ?_ | refine gS ?_ ?_) <;> (intro hc; simp only [go_sem,hc,ho])))
theorem p_CheckPolicy (x : Policy) (hb : bulkL x.c <= 1073741824) : PCall Tryz.prog 52 [.agg x.c] (.int .i64 (ckO x)):=by
 refine pC h52_k rfl ?_
 simp only [Tryz.f52,go_sem]
 repeat' (first
  | ((first | refine pK (p_sizePolicy _) ?_ | refine aS (p_check (szO x) 103 [.ptr 0 0] (fmO x) (p_CkO1 x hb 0 rfl)) ?_); simp only [go_sem])
  | ((first | refine cS ?_ ?_ | refine gS ?_ ?_) <;> (intro hc; simp only [go_sem,hc])))
 all_goals rfl
end Go.AI
namespace Go.AI
open Go.Proofs
set_option maxRecDepth 50000
@[go_sem] theorem lPred_one (o : Option Nat) (x : Pred) : AV.sl o [AV.agg (x.cf none)] = AV.sl o (lPred [x]):=by rw [lPred_eq]; rfl
@[go_sem] theorem lPred_two (o : Option Nat) (x y : Pred) : AV.sl o [AV.agg (x.cf none),AV.agg (y.cf none)] = AV.sl o (lPred [x,y]):=by rw [lPred_eq]; rfl
@[go_sem] theorem lPolicy_one (o : Option Nat) (x : Policy) : AV.sl o [AV.agg (x.cf none none)] = AV.sl o (lPolicy [x]):=by rw [lPolicy_eq]; rfl
@[go_sem] theorem lPolicy_two (o : Option Nat) (x y : Policy) : AV.sl o [AV.agg (x.cf none none),AV.agg (y.cf none none)] = AV.sl o (lPolicy [x,y]):=by rw [lPolicy_eq]; rfl
@[go_sem] theorem lStage_one (o : Option Nat) (x : Stage) : AV.sl o [AV.agg (x.cf none none none)] = AV.sl o (lStage [x]):=rfl
def bAt (n : Int) : Pred:=⟨3,portS,n,0,[]⟩
def bFalse : Pred:=⟨2,⟨#[]⟩,0,0,[]⟩
def bOr (x y : Pred) : Pred:=⟨8,⟨#[]⟩,0,0,[x,y]⟩
def bNot (x : Pred) : Pred:=⟨6,⟨#[]⟩,0,0,[x]⟩
def bFilter (x : Pred) : Policy:=⟨1,x,⟨#[]⟩,0,[]⟩
def bSet (s : ByteArray) (n : Int) : Policy:=⟨2,Pred.z,s,n,[]⟩
def bUnion (x y : Policy) : Policy:=⟨3,Pred.z,⟨#[]⟩,0,[x,y]⟩
def bSeq (x y : Policy) : Policy:=⟨4,Pred.z,⟨#[]⟩,0,[x,y]⟩
def bStar (x : Policy) : Policy:=⟨5,Pred.z,⟨#[]⟩,0,[x]⟩
def joinL {α : Type} (z : α) (two : α -> α -> α) : List α -> α
 | [] => z
 | x :: l => l.foldl two x
def bEither (l : List Pred) : Pred:=joinL bFalse bOr l
def bWired (t : Tenant) : Pred:=bEither (t.wires.map fun w => bAt w.src)
def bWire (w : Wire) : Policy:=bSeq (bFilter (bAt w.src)) (bSet portS w.dst)
def bWires (t : Tenant) : Policy:=joinL (bFilter bFalse) bUnion (t.wires.map bWire)
def bClosed (t : Tenant) (p : Policy) : Policy :=
 if t.wires = [] then p else bSeq (bSeq p (bStar (bSeq (bWires t) p))) (bFilter (bNot (bWired t)))
theorem p_at (n : Int) : PCall Tryz.prog 160 [.int .i64 n] (.agg (bAt n).c):=by
 refine pB h160_k rfl ?_
 simp only [Tryz.f160,go_sem]
 rfl
theorem q_at (n : Int) : PCall Tryz.prog 309 [.int .i64 n] (.agg (bAt n).c):=by
 refine pB h309_k rfl ?_
 simp only [Tryz.f309,go_sem]
 rfl
theorem p_filter (x : Pred) : PCall Tryz.prog 99 [.agg x.c] (.agg (bFilter x).c):=by
 refine pB h99_k rfl ?_
 simp only [Tryz.f99,go_sem]
 rfl
theorem q_Filter (x : Pred) : PCall Tryz.prog 267 [.agg x.c] (.agg (bFilter x).c):=by
 refine pB h267_k rfl ?_
 simp only [Tryz.f267,go_sem]
 rfl
theorem p_seq (x y : Policy) : PCall Tryz.prog 97 [.agg x.c,.agg y.c] (.agg (bSeq x y).c):=by
 refine pB h97_k rfl ?_
 simp only [Tryz.f97,go_sem]
 rfl
theorem q_Seq (x y : Policy) : PCall Tryz.prog 265 [.agg x.c,.agg y.c] (.agg (bSeq x y).c):=by
 refine pB h265_k rfl ?_
 simp only [Tryz.f265,go_sem]
 rfl
theorem q_Union (x y : Policy) : PCall Tryz.prog 311 [.agg x.c,.agg y.c] (.agg (bUnion x y).c):=by
 refine pB h311_k rfl ?_
 simp only [Tryz.f311,go_sem]
 rfl
theorem q_Star (x : Policy) : PCall Tryz.prog 264 [.agg x.c] (.agg (bStar x).c):=by
 refine pB h264_k rfl ?_
 simp only [Tryz.f264,go_sem]
 rfl
theorem q_Put (s : ByteArray) (n : Int) : PCall Tryz.prog 310 [.str s,.int .i64 n] (.agg (bSet s n).c):=by
 refine pB h310_k rfl ?_
 simp only [Tryz.f310,go_sem]
 rfl
theorem p_either1 (x y : Pred) : PCall Tryz.prog 238 [.agg x.c,.agg y.c] (.agg (bOr x y).c):=by
 refine pB h238_k rfl ?_
 simp only [Tryz.f238,go_sem]
 rfl
theorem p_Wires1 (x y : Policy) : PCall Tryz.prog 162 [.agg x.c,.agg y.c] (.agg (bUnion x y).c):=by
 refine pB h162_k rfl ?_
 simp only [Tryz.f162,go_sem]
 rfl
end Go.AI
namespace Go.AI
open Go.Proofs
set_option maxRecDepth 50000
theorem p_joinPred (l : List Pred) (hl : l.length <= 1073741824) (z : Pred) : PCall Tryz.prog 237 [.sl none (lPred l),.agg z.c,.fn (.func 238) [] []] (.agg (joinL z bOr l).c):=by
 refine pB h237_k rfl ?_
 simp only [Tryz.f237,go_sem]
 cases l with
 | nil =>
  have g0 : (((0 : Nat) : Int) == 0) = true:=rfl
  simp only [go_sem,g0]
  rfl
 | cons x r =>
  have g0 : (((r.length + 1 : Nat) : Int) == 0) = false:=by simp; omega
  have g1 : (1 : Int) <= ((r.length + 1 : Nat) : Int):=by omega
  have g2 : (0 : Int) < ((r.length + 1 : Nat) : Int):=by omega
  have hx : (x :: r)[0]? = some x:=rfl
  have hd : List.drop 1 (x :: r) = r:=rfl
  simp only [go_sem,g0,g1,g2,lPred_get hx,Int.toNat_one,hd,Int.toNat_natCast,List.take_length]
  repeat' (first
   | ((first | refine cS ?_ ?_ | refine gS ?_ ?_) <;> (intro hc; simp only [go_sem,hc,g0,g1,g2,lPred_get hx,hd])))
  refine awp_lst r (fun o l => l.foldl bOr o) (fun _ _ => True) (fun k o => [(2,.fn (.func 238) [] []),(6,.ptr 1 0),(7,.ptr 2 0),(18,.sl none (lPred r)),(19,.int .i64 r.length),(20,.int .i64 k)]) (fun k o => [some z.c,some (Pred.z.cf (some 5)),some o.c]) x (by simp at hl; omega) trivial rfl rfl ?_ ?_
  ·intro k o y ys hd hx _ hF h0 h1 hw
   simp only [go_sem,h0,h1,lPred_get hx]
   repeat' (first
    | (refine aP (p_either1 _ _) ?_; simp only [go_sem,h0,h1,hw,lPred_get hx])
    | ((first | refine cS ?_ ?_ | refine gS ?_ ?_) <;> (intro hc; simp only [go_sem,hc,h0,h1,hw,lPred_get hx])))
   exact ⟨_,by rw [List.foldl_cons],rfl,rfl⟩
  ·intro o _ hF
   simp only [go_sem,Int.lt_irrefl,decide_false]
   rw [joinL,hF]; rfl
theorem p_joinPolicy (l : List Policy) (hl : l.length <= 1073741824) (z : Policy) : PCall Tryz.prog 161 [.sl none (lPolicy l),.agg z.c,.fn (.func 162) [] []] (.agg (joinL z bUnion l).c):=by
 refine pB h161_k rfl ?_
 simp only [Tryz.f161,go_sem]
 cases l with
 | nil =>
  have g0 : (((0 : Nat) : Int) == 0) = true:=rfl
  simp only [go_sem,g0]
  rfl
 | cons x r =>
  have g0 : (((r.length + 1 : Nat) : Int) == 0) = false:=by simp; omega
  have g1 : (1 : Int) <= ((r.length + 1 : Nat) : Int):=by omega
  have g2 : (0 : Int) < ((r.length + 1 : Nat) : Int):=by omega
  have hx : (x :: r)[0]? = some x:=rfl
  have hd : List.drop 1 (x :: r) = r:=rfl
  simp only [go_sem,g0,g1,g2,lPolicy_get hx,Int.toNat_one,hd,Int.toNat_natCast,List.take_length]
  repeat' (first
   | ((first | refine cS ?_ ?_ | refine gS ?_ ?_) <;> (intro hc; simp only [go_sem,hc,g0,g1,g2,lPolicy_get hx,hd])))
  refine awp_lst r (fun o l => l.foldl bUnion o) (fun _ _ => True) (fun k o => [(2,.fn (.func 162) [] []),(6,.ptr 1 0),(7,.ptr 2 0),(18,.sl none (lPolicy r)),(19,.int .i64 r.length),(20,.int .i64 k)]) (fun k o => [some z.c,some (Policy.z.cf (some 5) (some 9)),some o.c]) x (by simp at hl; omega) trivial rfl rfl ?_ ?_
  ·intro k o y ys hd hx _ hF h0 h1 hw
   simp only [go_sem,h0,h1,lPolicy_get hx]
   repeat' (first
    | (refine aP (p_Wires1 _ _) ?_; simp only [go_sem,h0,h1,hw,lPolicy_get hx])
    | ((first | refine cS ?_ ?_ | refine gS ?_ ?_) <;> (intro hc; simp only [go_sem,hc,h0,h1,hw,lPolicy_get hx])))
   exact ⟨_,by rw [List.foldl_cons],rfl,rfl⟩
  ·intro o _ hF
   simp only [go_sem,Int.lt_irrefl,decide_false]
   rw [joinL,hF]; rfl
end Go.AI
namespace Go.AI
open Go.Proofs
set_option maxRecDepth 50000
theorem q_either (l : List Pred) (hl : l.length <= 1073741824) : PCall Tryz.prog 312 [.sl none (lPred l)] (.agg (bEither l).c):=by
 refine pB h312_k rfl ?_
 simp only [Tryz.f312,go_sem]
 cases l with
 | nil =>
  have g0 : (((0 : Nat) : Int) == 0) = true:=rfl
  simp only [go_sem,g0]
  rfl
 | cons x r =>
  have g0 : (((r.length + 1 : Nat) : Int) == 0) = false:=by simp; omega
  have g2 : (0 : Int) < ((r.length + 1 : Nat) : Int):=by omega
  have hx : (x :: r)[0]? = some x:=rfl
  simp only [go_sem,g0,g2,lPred_get hx]
  repeat' (first
   | ((first | refine cS ?_ ?_ | refine gS ?_ ?_) <;> (intro hc; simp only [go_sem,hc,g0,g2,lPred_get hx])))
  refine awp_lst r (fun (o : Pred × Option Nat) l => l.foldl bOr o.1) (fun _ _ => True) (fun k o => [(0,.sl none (lPred (x :: r))),(2,.ptr 0 0),(3,.ptr 1 0),(4,.int .i64 ((k + 1 : Nat) : Int))]) (fun k o => [some (Pred.z.cf (some 5)),some (o.1.cf o.2)]) (x,none) (by simp at hl; omega) trivial rfl rfl ?_ ?_
  ·intro k o y ys hd hy _ hF h0 h1 hw
   have hy2 : (x :: r)[k + 1]? = some y:=by simpa using hy
   have h2 : (((k + 1 : Nat) : Int) < ((r.length + 1 : Nat) : Int)):=by omega
   have h3 : (0 : Int) <= ((k + 1 : Nat) : Int):=by omega
   have hw2:=w64s (k:=k + 1) (by simp at hl; omega)
   simp only [go_sem,h2,h3,decide_true,lPred_get hy2,Int.toNat_natCast,hw2]
   exact ⟨(bOr o.1 y,some 5),by rw [List.foldl_cons],rfl,rfl⟩
  ·intro o _ hF
   simp only [go_sem,Int.lt_irrefl,decide_false]
   rw [bEither,joinL,hF]; rfl
theorem p_either (l : List Int) (hl : l.length <= 1073741824) : PCall Tryz.prog 163 [.sl none (lI64 l)] (.agg (bEither (l.map bAt)).c):=by
 refine pB h163_k rfl ?_
 simp only [Tryz.f163,go_sem]
 refine awp_lst l (fun o r => o ++ r.map bAt) (fun k o => o.length = k) (fun k o => [(2,.ptr 0 0),(3,.sl (some 5) (lPred o)),(6,.sl none (lI64 l)),(7,.int .i64 l.length),(8,.int .i64 k)]) (fun k o => [some (Pred.z.cf (some 5))]) [] (by omega) rfl rfl rfl ?_ ?_
 ·intro k o y ys hd hy hI hF h0 h1 hw
  have hk2:=drop_len hd
  simp only [go_sem,h0,h1,lI64_get hy]
  repeat' (first
   | (refine pK (p_at _) ?_; simp only [go_sem,h0,h1,hw,lI64_get hy])
   | ((first | refine cS ?_ ?_ | refine gS ?_ ?_) <;> (intro hc; simp only [go_sem,hc,h0,h1,hw,lI64_get hy])))
  exact ⟨by omega,by omega,o ++ [bAt y],by simp,by simp [hI],rfl,rfl⟩
 ·intro o hI hF
  have hF : o = l.map bAt:=by simpa using hF.symm
  simp only [go_sem,Int.lt_irrefl,decide_false]
  repeat' (first
   | (refine pK (PCall.lend (p_joinPred o (by omega) bFalse)) ?_; simp only [go_sem])
   | ((first | refine cS ?_ ?_ | refine gS ?_ ?_) <;> (intro hc; simp only [go_sem,hc])))
  rw [hF]; rfl
theorem q_Wired (t : Tenant) (hl : t.wires.length <= 1073741824) : PCall Tryz.prog 268 [.agg t.c] (.agg (bWired t).c):=by
 refine pB h268_k rfl ?_
 simp only [Tryz.f268,go_sem]
 refine awp_lst t.wires (fun o r => o ++ r.map fun w => bAt w.src) (fun k o => o.length = k) (fun k o => [(1,.ptr 0 0),(2,.ptr 1 0),(3,.sl (some 5) (lPred o)),(4,.int .i64 k)]) (fun k o => [some t.c,some (Pred.z.cf (some 5))]) [] (by omega) rfl rfl rfl ?_ ?_
 ·intro k o y ys hd hy hI hF h0 h1 hw
  have hk2:=drop_len hd
  simp only [go_sem,h0,h1,hw,lWire_get hy]
  repeat' (first
   | (refine pK (q_at _) ?_; simp only [go_sem,h0,h1,hw,lWire_get hy])
   | ((first | refine cS ?_ ?_ | refine gS ?_ ?_) <;> (intro hc; simp only [go_sem,hc,h0,h1,hw,lWire_get hy])))
  exact ⟨by omega,by omega,o ++ [bAt y.src],by simp,by simp [hI],rfl,rfl⟩
 ·intro o hI hF
  have hF : o = t.wires.map fun w => bAt w.src:=by simpa using hF.symm
  simp only [go_sem,Int.lt_irrefl,decide_false]
  repeat' (first
   | (refine pK (PCall.lend (q_either o (by omega))) ?_; simp only [go_sem])
   | ((first | refine cS ?_ ?_ | refine gS ?_ ?_) <;> (intro hc; simp only [go_sem,hc])))
  rw [hF]; rfl
theorem p_Wired (t : Tenant) (hl : t.wires.length <= 1073741824) : PCall Tryz.prog 100 [.agg t.c] (.agg (bWired t).c):=by
 refine pB h100_k rfl ?_
 simp only [Tryz.f100,go_sem]
 refine awp_lst t.wires (fun o r => o ++ r.map (·.src)) (fun k o => o.length = k) (fun k o => [(2,.ptr 1 0),(3,.sl (some 1) (lI64 o)),(7,.sl none (lWire t.wires)),(8,.int .i64 t.wires.length),(9,.int .i64 k)]) (fun k o => [some t.c,some (Pred.z.cf (some 5))]) [] (by omega) rfl rfl rfl ?_ ?_
 ·intro k o y ys hd hy hI hF h0 h1 hw
  have hk2:=drop_len hd
  simp only [go_sem,h0,h1,hw,lWire_get hy]
  repeat' (first
   | ((first | refine cS ?_ ?_ | refine gS ?_ ?_) <;> (intro hc; simp only [go_sem,hc,h0,h1,hw,lWire_get hy])))
  exact ⟨by omega,by omega,o ++ [y.src],by simp,by simp [hI],rfl,rfl⟩
 ·intro o hI hF
  have hF : o = t.wires.map (·.src):=by simpa using hF.symm
  simp only [go_sem,Int.lt_irrefl,decide_false]
  repeat' (first
   | (refine pK (PCall.lend (p_either o (by omega))) ?_; simp only [go_sem])
   | ((first | refine cS ?_ ?_ | refine gS ?_ ?_) <;> (intro hc; simp only [go_sem,hc])))
  rw [hF,List.map_map]; rfl
theorem joinL_snoc {α : Type} {z : α} {two : α -> α -> α} (x : α) : ∀ {l : List α},l ≠ [] -> joinL z two (l ++ [x]) = two (joinL z two l) x
 | [],h => absurd rfl h
 | y :: l,_ => by simp [joinL]
theorem q_Wires (t : Tenant) (hl : t.wires.length <= 1073741824) : PCall Tryz.prog 266 [.agg t.c] (.agg (bWires t).c):=by
 refine pB h266_k rfl ?_
 simp only [Tryz.f266,go_sem]
 repeat' (first
  | (refine pK (PCall.lend (q_Filter bFalse)) ?_; simp only [go_sem])
  | ((first | refine cS ?_ ?_ | refine gS ?_ ?_) <;> (intro hc; simp only [go_sem,hc])))
 refine awp_lst t.wires (fun (_ : Policy) (_ : List Wire) => ()) (fun k o => o = joinL (bFilter bFalse) bUnion ((t.wires.take k).map bWire)) (fun k o => [(1,.ptr 0 0),(2,.ptr 1 0),(3,.ptr 2 0),(4,.int .i64 k)]) (fun k o => [some t.c,some (Policy.z.cf (some 5) (some 9)),some o.c]) (bFilter bFalse) (by omega) rfl rfl rfl ?_ ?_
 ·intro k o y ys hd hy hI hF h0 h1 hw
  have hk2:=drop_len hd
  have ht : t.wires.take (k + 1) = t.wires.take k ++ [y]:=by rw [List.take_add_one,hy]; rfl
  simp only [go_sem,h0,h1,hw,lWire_get hy]
  repeat' (first
   | ((first | refine pK (q_at _) ?_ | refine pK (q_Filter _) ?_ | refine pK (q_Put _ _) ?_ | refine pK (q_Seq _ _) ?_); simp only [go_sem,h0,h1,hw,lWire_get hy])
   | ((first | refine cS ?_ ?_ | refine gS ?_ ?_) <;> (intro hc; simp only [go_sem,hc,h0,h1,hw,lWire_get hy])))
  ·have hk : k = 0:=by simp at hc; omega
   subst hk
   refine ⟨bWire y, ?_,rfl,rfl⟩
   rw [ht]; rfl
  ·have hk : k ≠ 0:=by simp at hc; omega
   refine PCallK.intro (q_Union _ _) ?_
   simp only [go_sem,hw]
   refine ⟨bUnion o (bWire y), ?_,rfl,rfl⟩
   rw [ht,List.map_append,hI]
   exact (joinL_snoc _ (by simp; constructor; omega; intro h; rw [h] at hk2; simp at hk2)).symm
 ·intro o hI hF
  simp only [go_sem,Int.lt_irrefl,decide_false]
  rw [bWires,hI,List.take_length]
theorem p_Wires (t : Tenant) (hl : t.wires.length <= 1073741824) : PCall Tryz.prog 98 [.agg t.c] (.agg (bWires t).c):=by
 refine pB h98_k rfl ?_
 simp only [Tryz.f98,go_sem]
 refine awp_lst t.wires (fun o r => o ++ r.map bWire) (fun k o => o.length = k) (fun k o => [(2,.ptr 1 0),(3,.sl (some 9) (lPolicy o)),(7,.sl none (lWire t.wires)),(8,.int .i64 t.wires.length),(9,.int .i64 k)]) (fun k o => [some t.c,some (Policy.z.cf (some 5) (some 9))]) [] (by omega) rfl rfl rfl ?_ ?_
 ·intro k o y ys hd hy hI hF h0 h1 hw
  have hk2:=drop_len hd
  simp only [go_sem,h0,h1,hw,lWire_get hy]
  repeat' (first
   | ((first | refine pK (p_at _) ?_ | refine pK (p_filter _) ?_ | refine pK (PCall.lend (p_seq (bFilter (bAt y.src)) (bSet portS y.dst))) ?_); simp only [go_sem,h0,h1,hw,lWire_get hy])
   | ((first | refine cS ?_ ?_ | refine gS ?_ ?_) <;> (intro hc; simp only [go_sem,hc,h0,h1,hw,lWire_get hy])))
  exact ⟨by omega,by omega,o ++ [bWire y],by simp,by simp [hI],rfl,rfl⟩
 ·intro o hI hF
  have hF : o = t.wires.map bWire:=by simpa using hF.symm
  simp only [go_sem,Int.lt_irrefl,decide_false]
  repeat' (first
   | ((first | refine pK (PCall.lend (p_filter bFalse)) ?_ | refine pK (PCall.lend (p_joinPolicy o (by omega) (bFilter bFalse))) ?_); simp only [go_sem])
   | ((first | refine cS ?_ ?_ | refine gS ?_ ?_) <;> (intro hc; simp only [go_sem,hc])))
  rw [hF]; rfl
end Go.AI
namespace Go.AI
open Go.Proofs
set_option maxRecDepth 50000
theorem len_zero {α : Type} {l : List α} : ((l.length : Int) == 0) = true ↔ l = []:=by
 cases l <;> simp; omega
theorem q_Closed (t : Tenant) (hl : t.wires.length <= 1073741824) (p : Policy) : PCall Tryz.prog 202 [.agg t.c,.agg p.c] (.agg (bClosed t p).c):=by
 refine pB h202_k rfl ?_
 simp only [Tryz.f202,go_sem]
 repeat' (first
  | ((first | refine pK (q_Wires t hl) ?_ | refine pK (q_Wired t hl) ?_ | refine pK (q_Seq _ _) ?_ | refine pK (q_Star _) ?_ | refine pK (PCall.lend (q_Filter (bNot (bWired t)))) ?_); simp only [go_sem])
  | ((first | refine cS ?_ ?_ | refine gS ?_ ?_) <;> (intro hc; simp only [go_sem,hc])))
 ·rw [bClosed,if_pos (len_zero.1 hc)]
 ·rw [bClosed,if_neg (fun h => by rw [len_zero.2 h] at hc; cases hc)]
theorem p_Closed (t : Tenant) (hl : t.wires.length <= 1073741824) (p : Policy) : PCall Tryz.prog 51 [.agg t.c,.agg p.c] (.agg (bClosed t p).c):=by
 refine pB h51_k rfl ?_
 simp only [Tryz.f51,go_sem]
 repeat' (first
  | ((first | refine pK (p_Wires t hl) ?_ | refine pK (p_Wired t hl) ?_ | refine pK (PCall.lend (p_seq (bSeq p (bStar (bSeq (bWires t) p))) (bFilter (bNot (bWired t))))) ?_ | refine pK (PCall.lend (p_seq p (bStar (bSeq (bWires t) p)))) ?_ | refine pK (p_seq (bWires t) p) ?_ | refine pK (PCall.lend (p_filter (bNot (bWired t)))) ?_); simp only [go_sem])
  | ((first | refine cS ?_ ?_ | refine gS ?_ ?_) <;> (intro hc; simp only [go_sem,hc])))
 ·rw [bClosed,if_pos (len_zero.1 hc)]
 ·rw [bClosed,if_neg (fun h => by rw [len_zero.2 h] at hc; cases hc)]
def wholeGo (t : Tenant) : List Stage -> List Stage -> List Stage × Int
 | o,[] => (o,0)
 | o,x :: r => if ckO (bClosed t x.policy) = 2 then ([],2) else wholeGo t (o ++ [{ x with policy:=bClosed t x.policy }]) r
def bWhole (t : Tenant) : List Stage × Int:=wholeGo t [] t.program
theorem p_Whole (t : Tenant) (hl : t.wires.length <= 1073741824) (hp : t.program.length <= 1073741824) (hb : ∀ x ∈ t.program,bulkL (bClosed t x.policy).c <= 1073741824) :
  PCall Tryz.prog 27 [.agg t.c] (.tup [.sl none (lStage (bWhole t).1),.int .i64 (bWhole t).2]):=by
 refine pB h27_k rfl ?_
 simp only [Tryz.f27,go_sem]
 refine awp_lst t.program (fun o r => wholeGo t o r) (fun k o => o.length = k) (fun k o => [(1,.ptr 0 0),(4,.sl (some 15) (lStage o)),(8,.sl none (lStage t.program)),(9,.int .i64 t.program.length),(10,.int .i64 k)]) (fun k o => [some t.c]) [] (by omega) rfl rfl rfl ?_ ?_
 ·intro k o y ys hd hy hI hF h0 h1 hw
  have hk2:=drop_len hd
  simp only [go_sem,h0,h1,hw,lStage_get hy]
  repeat' (first
   | ((first | refine pK (p_Closed t hl _) ?_ | refine pK (p_CheckPolicy _ (hb y (List.mem_of_getElem? hy))) ?_); simp only [go_sem,h0,h1,hw,lStage_get hy])
   | ((first | refine cS ?_ ?_ | refine gS ?_ ?_) <;> (intro hc; simp only [go_sem,hc,h0,h1,hw,lStage_get hy])))
  ·have h2 : wholeGo t [] t.program = ([],2):=by rw [hF,wholeGo,if_pos (by simpa using hc)]
   rw [bWhole,h2]; rfl
  ·refine ⟨by omega,by omega,o ++ [{ y with policy:=bClosed t y.policy }], ?_,by simp [hI],rfl,rfl⟩
   rw [wholeGo,if_neg (by simpa using hc)]
 ·intro o hI hF
  simp only [go_sem,Int.lt_irrefl,decide_false]
  rw [bWhole,hF]; rfl
end Go.AI
namespace Go.AI
open Go.Proofs
set_option maxRecDepth 50000
theorem bk_p2 (x y : Pred) : bulkL (lPred [x,y]) = bulkL x.c + bulkL y.c:=by rw [lPred_eq]; simp [bulkL,AV.bulk]
theorem bk_p1 (x : Pred) : bulkL (lPred [x]) = bulkL x.c:=by rw [lPred_eq]; simp [bulkL,AV.bulk]
theorem bk_p0 : bulkL (lPred []) = 0:=by rw [lPred_eq]; rfl
theorem bk_o2 (x y : Policy) : bulkL (lPolicy [x,y]) = bulkL x.c + bulkL y.c:=by rw [lPolicy_eq]; simp [bulkL,AV.bulk]
theorem bk_o1 (x : Policy) : bulkL (lPolicy [x]) = bulkL x.c:=by rw [lPolicy_eq]; simp [bulkL,AV.bulk]
theorem bk_o0 : bulkL (lPolicy []) = 0:=by rw [lPolicy_eq]; rfl
theorem bk_at (n : Int) : bulkL (bAt n).c = 9:=by rw [bulk_pred]; simp only [bAt,bk_p0]; rfl
theorem bk_false : bulkL bFalse.c = 5:=by rw [bulk_pred]; simp only [bFalse,bk_p0]; rfl
theorem bk_or (x y : Pred) : bulkL (bOr x y).c = 5 + bulkL x.c + bulkL y.c:=by rw [bulk_pred]; simp only [bOr,bk_p2]; show 0 + 5 + _ = _; omega
theorem bk_not (x : Pred) : bulkL (bNot x).c = 5 + bulkL x.c:=by rw [bulk_pred]; simp only [bNot,bk_p1]; show 0 + 5 + _ = _; omega
theorem bk_zp : bulkL Pred.z.c = 5:=by rw [bulk_pred]; show _ + 5 + bulkL (lPred []) = 5; rw [bk_p0]; rfl
theorem bk_filter (x : Pred) : bulkL (bFilter x).c = bulkL x.c + 4:=by rw [bulk_policy]; simp only [bFilter,bk_o0]; show _ + 0 + 4 + 0 = _; omega
theorem bk_set (n : Int) : bulkL (bSet portS n).c = 13:=by rw [bulk_policy]; simp only [bSet,bk_o0,bk_zp]; rfl
theorem bk_union (x y : Policy) : bulkL (bUnion x y).c = 9 + bulkL x.c + bulkL y.c:=by rw [bulk_policy]; simp only [bUnion,bk_o2,bk_zp]; show 5 + 0 + 4 + _ = _; omega
theorem bk_seq (x y : Policy) : bulkL (bSeq x y).c = 9 + bulkL x.c + bulkL y.c:=by rw [bulk_policy]; simp only [bSeq,bk_o2,bk_zp]; show 5 + 0 + 4 + _ = _; omega
theorem bk_star (x : Policy) : bulkL (bStar x).c = 9 + bulkL x.c:=by rw [bulk_policy]; simp only [bStar,bk_o1,bk_zp]; show 5 + 0 + 4 + _ = _; omega
theorem bk_ors : ∀ (l : List Pred) (x : Pred) (B : Nat),(∀ y ∈ l,bulkL y.c <= B) -> bulkL (l.foldl bOr x).c <= bulkL x.c + l.length * (B + 5)
 | [],x,B,_ => by simp
 | y :: l,x,B,h => by
  rw [List.foldl_cons]
  have h1:=bk_ors l (bOr x y) B fun z hz => h z (by simp [hz])
  have h2:=h y (by simp)
  rw [bk_or] at h1
  rw [List.length_cons,Nat.succ_mul]
  omega
theorem bk_unions : ∀ (l : List Policy) (x : Policy) (B : Nat),(∀ y ∈ l,bulkL y.c <= B) -> bulkL (l.foldl bUnion x).c <= bulkL x.c + l.length * (B + 9)
 | [],x,B,_ => by simp
 | y :: l,x,B,h => by
  rw [List.foldl_cons]
  have h1:=bk_unions l (bUnion x y) B fun z hz => h z (by simp [hz])
  have h2:=h y (by simp)
  rw [bk_union] at h1
  rw [List.length_cons,Nat.succ_mul]
  omega
theorem bk_either (l : List Pred) (h : ∀ y ∈ l,bulkL y.c <= 9) : bulkL (bEither l).c <= 9 + l.length * 14:=by
 unfold bEither
 cases l with
 | nil => rw [joinL,bk_false]; omega
 | cons x l =>
  have h1:=bk_ors l x 9 fun y hy => h y (by simp [hy])
  have h2:=h x (by simp)
  rw [joinL,List.length_cons]
  omega
theorem bk_wired (t : Tenant) : bulkL (bWired t).c <= 9 + t.wires.length * 14:=by
 have:=bk_either (t.wires.map fun w => bAt w.src) (fun y hy => by obtain ⟨w,_,rfl⟩:=List.mem_map.1 hy; rw [bk_at]; omega)
 rwa [List.length_map] at this
theorem bk_wires (t : Tenant) : bulkL (bWires t).c <= 35 + t.wires.length * 44:=by
 unfold bWires
 have hw : ∀ y ∈ t.wires.map bWire,bulkL y.c <= 35:=fun y hy => by
  obtain ⟨w,_,rfl⟩:=List.mem_map.1 hy
  rw [bWire,bk_seq,bk_filter,bk_at,bk_set]; omega
 have hl : (t.wires.map bWire).length = t.wires.length:=List.length_map _
 rw [<- hl]
 generalize t.wires.map bWire = l at hw
 cases l with
 | nil => rw [joinL,bk_filter,bk_false]; omega
 | cons x l =>
  have h1:=bk_unions l x 35 fun y hy => hw y (by simp [hy])
  have h2:=hw x (by simp)
  rw [joinL,List.length_cons]
  omega
theorem bk_closed {t : Tenant} {p : Policy} (hp : bulkL p.c <= 1048576) (hw : t.wires.length <= 1048576) : bulkL (bClosed t p).c <= 1073741824:=by
 unfold bClosed
 split
 ·omega
 ·have h1:=bk_wired t
  have h2:=bk_wires t
  rw [bk_seq,bk_seq,bk_star,bk_seq,bk_filter,bk_not]
  omega
theorem eqP_refl : ∀ x : Pred,eqP x x = true:=by
 refine Pred.ind _ fun x ih => ?_
 rw [eqP_eq]
 have : ∀ l : List Pred,(∀ y ∈ l,eqP y y = true) -> eqPs l l = true:=by
  intro l
  induction l with
  | nil => intro _; rw [eqPs_nil]
  | cons y l ihl => intro h; rw [eqPs_cons,h y (by simp),ihl fun z hz => h z (by simp [hz])]; rfl
 rw [this x.args ih]; simp
end Go.AI
namespace Go.AI
open Go.Proofs
set_option maxRecDepth 50000
theorem q_Whole (t : Tenant) (hl : t.wires.length <= 1073741824) (hp : t.program.length <= 1073741824) (hb : ∀ x ∈ t.program,bulkL (bClosed t x.policy).c <= 1073741824) :
  PCall Tryz.prog 131 [.agg t.c] (.tup [.sl none (lStage (bWhole t).1),.int .i64 (bWhole t).2]):=by
 refine pB h131_k rfl ?_
 simp only [Tryz.f131,go_sem]
 refine awp_lst t.program (fun o r => wholeGo t o r) (fun k o => o.length = k) (fun k o => [(1,.ptr 0 0),(4,.sl (some 15) (lStage o)),(5,.int .i64 k)]) (fun k o => [some t.c]) [] (by omega) rfl rfl rfl ?_ ?_
 ·intro k o y ys hd hy hI hF h0 h1 hw
  have hk2:=drop_len hd
  simp only [go_sem,h0,h1,hw,lStage_get hy]
  repeat' (first
   | ((first | refine pK (q_Closed t hl _) ?_ | refine pK (c_ckO _ (hb y (List.mem_of_getElem? hy))) ?_); simp only [go_sem,h0,h1,hw,lStage_get hy])
   | ((first | refine cS ?_ ?_ | refine gS ?_ ?_) <;> (intro hc; simp only [go_sem,hc,h0,h1,hw,lStage_get hy])))
  ·have h2 : wholeGo t [] t.program = ([],2):=by rw [hF,wholeGo,if_pos (by simpa using hc)]
   rw [bWhole,h2]; rfl
  ·refine ⟨by omega,by omega,o ++ [{ y with policy:=bClosed t y.policy }], ?_,by simp [hI],rfl,rfl⟩
   rw [wholeGo,if_neg (by simpa using hc)]
 ·intro o hI hF
  simp only [go_sem,Int.lt_irrefl,decide_false]
  rw [bWhole,hF]; rfl
end Go.AI
namespace Go.AI
open Go.Proofs
set_option maxRecDepth 50000
end Go.AI
namespace Go.AI
open Go.Proofs
set_option maxRecDepth 50000
section
variable {P : Program} {K : Kt} {e : Env} {H : Heap} {d : Tmp} {t kt et : TypeId} {o : Nat} {α : Type}
theorem lkpK_set (f : α -> AV) (l : List α) (k : AV) (hu : P.underlying t = some (.map kt et)) (hz : zeroAV P et = some (.bool false)) (hm : H[o]? = some (some (mapc (setE f l)))) (hk : keysIn P kt (k :: l.map f)) (hd : distL f l)
  (h : K ((d,.bool (l.any fun x => keyEq (f x) k)) :: e) H) : lkpK P t false (.mapr o) k d K e H:=by
 unfold lkpK
 rw [hu]
 dsimp only
 rw [mapOf_at hm]
 dsimp only
 refine ⟨by rw [set_keys]; exact hk,dist_set f hd,_,hz, ?_⟩
 rw [lk_set]; exact h
end
@[go_sem] theorem bnd_mapr (o n : Nat) : (AV.mapr o).bnd n = decide (o < n):=rfl
end Go.AI
namespace Go.AI
open Go.Proofs
set_option maxRecDepth 50000
theorem p_IndexFld {H : Heap} (l : List Fld) (hl : l.length <= 9223372036854775807) (g : FuncId) (fi ca : List AV) (p : Fld -> Bool)
  (h : ∀ x ∈ l,SCall Tryz.prog g (fi.map AV.borrow ++ (.agg x.c :: ca.map AV.borrow)) H (.bool (p x))) :
  SCall Tryz.prog 150 [.sl none (lFld l),.fn (.func g) fi ca] H (.int .i64 (idxI p l)):=by
 unfold SCall
 refine aC h150_k rfl ?_
 simp only [Tryz.f150,go_sem]
 refine awp_all l (fun r => idxGo p (l.length - r.length) r) (fun k => [(0,.sl none (lFld l)),(1,.fn (.func g) fi ca),(7,.int .i64 l.length),(8,.int .i64 k)]) hl rfl ?_ ?_
 ·intro k x xs hd hx hF h0 h1 hw
  have hk2:=drop_len hd
  have e1 : l.length - (xs.length + 1) = k:=by omega
  have e2 : l.length - xs.length = k + 1:=by omega
  simp only [List.length_cons,e1,Nat.sub_self] at hF
  simp only [go_sem,h0,h1,lFld_get hx,e1,e2]
  repeat' (first
   | (refine aS (h x (List.mem_of_getElem? hx)) ?_; simp only [go_sem,h0,h1,hw,lFld_get hx,e1,e2])
   | ((first | refine cS ?_ ?_ | refine gS ?_ ?_) <;> (intro hc; simp only [go_sem,hc,h0,h1,hw,lFld_get hx,e1,e2])))
  ·rw [idxI,hF,idxGo,if_pos hc]
  ·rw [idxGo,if_neg (by rw [hc]; decide)]
 ·intro hF hlt
  simp only [go_sem,hlt,decide_false]
  rw [Nat.sub_self] at hF
  rw [idxI,hF]; rfl
end Go.AI
namespace Go.AI
open Go.Proofs
set_option maxRecDepth 50000
end Go.AI
namespace Go.AI
open Go.Proofs
set_option maxRecDepth 50000
@[go_sem] theorem borrow_it (o : Nat) : (AV.it o).borrow = .it o:=rfl
end Go.AI
namespace Go.AI
open Go.Proofs
set_option maxRecDepth 50000
end Go.AI
namespace Go.AI
open Go.Proofs
set_option maxRecDepth 50000
@[go_sem] theorem pset_end (H : Heap) (x y : Option (List AV)) : (H ++ [x]).set H.length y = H ++ [y]:=by simp
def Iv (Pre : Nat -> Heap -> Prop) (n : Nat) (g : Heap) (k : Nat) (H : Heap) : Prop:=∃ pre g',H = pre ++ (g ++ g') /\ pre.length = n /\ Pre k pre
theorem Iv.grow {Pre : Nat -> Heap -> Prop} {n k : Nat} {g H : Heap} (h : Iv Pre n g k H) (x : Heap) : Iv Pre n g k (H ++ x):=by
 obtain ⟨pre,g',rfl,h1,h2⟩:=h
 exact ⟨pre,g' ++ x,by simp,h1,h2⟩
theorem Iv.at {Pre : Nat -> Heap -> Prop} {n k i : Nat} {g H : Heap} (h : Iv Pre n g k H) {c : Option (List AV)} (hi : g[i]? = some c) : H[n + i]? = some c:=by
 obtain ⟨pre,g',rfl,h1,h2⟩:=h
 have hlt:=(List.getElem?_eq_some_iff.1 hi).1
 rw [List.getElem?_append_right (by omega),h1,Nat.add_sub_cancel_left,List.getElem?_append_left hlt,hi]
theorem Iv.atG {Pre : Nat -> Heap -> Prop} {n k i : Nat} {g H x : Heap} (h : Iv Pre n g k H) {c : Option (List AV)} (hi : g[i]? = some c) : (H ++ x)[n + i]? = some c:=(h.grow x).at hi
theorem Iv.of {Pre : Nat -> Heap -> Prop} {n k : Nat} {g g2 H : Heap} (h : Iv Pre n (g ++ g2) k H) : Iv Pre n g k H:=by
 obtain ⟨pre,g',rfl,h1,h2⟩:=h
 exact ⟨pre,g2 ++ g',by simp,h1,h2⟩
end Go.AI
namespace Go.AI
open Go.Proofs
set_option maxRecDepth 50000
theorem p_port : PCall Tryz.prog 88 [] (.agg fldPort.c):=by
 have h : PCall Tryz.prog 88 [] (.agg fldPort.c):=PCall.run evOk0 100 rfl (by kernel_rfl) (by kernel_rfl)
 exact h
theorem p_Find1 {H : Heap} (f : Fld) (s : ByteArray) (o : Nat) (ho : H[o]? = some (some [.str s])) : SCall Tryz.prog 246 [.agg f.c,.ptr o 0] H (.bool (decide (f.name = s))):=by
 refine ACall.drop rfl ?_
 refine aC h246_k rfl ?_
 have ho' : ∀ z,(H ++ z)[o]? = some (some [.str s]):=fun z => by
  have:=(List.getElem?_eq_some_iff.1 ho).1
  rw [List.getElem?_append_left this]; exact ho
 simp only [Tryz.f246,go_sem,ho',toList_beq]
theorem idx_find {α : Type} (p : α -> Bool) : ∀ (l : List α) (i : Nat),match l.find? p with
  | some x => ∃ k,idxGo p i l = (i + k : Nat) /\ l[k]? = some x
  | none => idxGo p i l = -1
 | [],i => rfl
 | y :: l,i => by
  rw [List.find?_cons,idxGo]
  cases h : p y with
  | true => exact ⟨0,by simp,rfl⟩
  | false =>
   have:=idx_find p l (i + 1)
   cases hf : l.find? p with
   | none => rw [hf] at this; simpa using this
   | some x =>
    rw [hf] at this
    obtain ⟨k,h1,h2⟩:=this
    exact ⟨k + 1,by simp only [Bool.false_eq_true,if_false]; rw [h1]; congr 1; omega,by simpa using h2⟩
theorem p_Find (l : List Fld) (hl : l.length <= 9223372036854775807) (s : ByteArray) : PCall Tryz.prog 174 [.sl none (lFld l),.str s] (.tup [.agg (findF l s).1.c,.bool (findF l s).2]):=by
 have hi:=idx_find (fun f : Fld => decide (f.name = s)) l 0
 have hport : (fldPort.name : ByteArray) = portS:=rfl
 have hidx:=p_IndexFld (H:=[some [.str s],some Fld.z.c]) l hl 246 [] [.ptr 0 0] (fun f => decide (f.name = s)) (fun x _ => p_Find1 x s 0 rfl)
 refine pB h174_k rfl ?_
 cases hf : l.find? (fun f : Fld => decide (f.name = s)) with
 | none =>
  rw [hf] at hi
  have hi : idxI (fun f : Fld => decide (f.name = s)) l = -1:=hi
  rw [hi] at hidx
  simp only [Tryz.f174,go_sem,toList_beq]
  repeat' (first
   | ((first | refine pK (p_port) ?_ | refine aS (hidx) ?_); simp only [go_sem,toList_beq])
   | ((first | refine cS ?_ ?_ | refine gS ?_ ?_) <;> (intro hc; simp only [go_sem,hc,toList_beq])))
  ·have h5 : s = portS:=by rw [<- hport]; exact of_decide_eq_true hc
   rw [findF,if_pos h5]
  ·have h5 : ¬ s = portS:=by rw [<- hport]; exact of_decide_eq_false hc
   rw [findF,if_neg h5,hf]
 | some x =>
  rw [hf] at hi
  obtain ⟨k,hk,hx⟩:=hi
  have hk : idxI (fun f : Fld => decide (f.name = s)) l = ((0 + k : Nat) : Int):=hk
  rw [hk,Nat.zero_add] at hidx
  have g1 : ¬ ((k : Int) < 0):=by omega
  have g2 : (0 : Int) <= (k : Int):=by omega
  simp only [Tryz.f174,go_sem,toList_beq]
  repeat' (first
   | ((first | refine pK (p_port) ?_ | refine aS (hidx) ?_); simp only [go_sem,toList_beq,g1,g2,lFld_get hx,decide_false])
   | ((first | refine cS ?_ ?_ | refine gS ?_ ?_) <;> (intro hc; simp only [go_sem,hc,toList_beq,g1,g2,lFld_get hx,decide_false])))
  ·have h5 : s = portS:=by rw [<- hport]; exact of_decide_eq_true hc
   rw [findF,if_pos h5]
  ·have h5 : ¬ s = portS:=by rw [<- hport]; exact of_decide_eq_false hc
   rw [findF,if_neg h5,hf]
@[go_sem] theorem binK_shlK {P : Program} {t : TypeId} {k k' : IntKind} {x y : Int} {d : Tmp} {K : Kt} {e : Env} {H : Heap} : binK P .shl t (.int k x) (.int k' y) d K e H = (0 <= y /\ K ((d,.int k (k.wrap (x * 2 ^ (min y.toNat k.bits)))) :: e) H):=by
 rw [binK_int]; simp [abin]
theorem max_small : ∀ n : Nat,n < 17 -> IntKind.i64.wrap (IntKind.i64.wrap (1 * 2 ^ (min n IntKind.i64.bits)) - 1) = i64 (powW n - 1):=by
 decide
theorem p_Max (f : Fld) (h0 : 0 <= f.width) (h1 : f.width <= 16) : PCall Tryz.prog 236 [.agg f.c] (.int .i64 (maxF f)):=by
 have hm:=max_small f.width.toNat (by omega)
 refine pC h236_k rfl ?_
 simp only [Tryz.f236,go_sem,h0]
 rw [maxF,<- hm]; rfl
end Go.AI
namespace Go.AI
open Go.Proofs
set_option maxRecDepth 50000
@[go_sem] theorem two_snd {α : Type} (G : List α) (a b : α) : (G ++ [a,b])[(G ++ [a]).length]? = some b:=by
 rw [List.length_append,List.getElem?_append_right (by simp)]; simp
@[go_sem] theorem two_fst {α : Type} (G : List α) (a b : α) : (G ++ [a,b])[G.length]? = some a:=by
 rw [List.getElem?_append_right (Nat.le_refl _)]; simp
@[go_sem] theorem two_set {α : Type} (G : List α) (a b z : α) : (G ++ [a,b]).set (G ++ [a]).length z = G ++ [a,z]:=by
 rw [List.length_append,List.set_append_right _ _ (by simp)]; simp
end Go.AI
namespace Go.AI
open Go.Proofs
set_option maxRecDepth 50000
end Go.AI
namespace Go.AI
open Go.Proofs
set_option maxRecDepth 50000
end Go.AI
namespace Go.AI
open Go.Proofs
set_option maxRecDepth 50000
end Go.AI
