/- Sets in the walk; repeated keys. -/
import Derived.Test.YtdgagjhjpffeaaaGreatDoorMp
import Derived.Test.YtdgagjhjpffeaaaGreatDoorMf
import Derived.Test.YtdgagjhjpffeaaaGreatDoorMs
import Derived.Test.YtdgagjhjpffeaaaGreatDoorMg
import Derived.Test.YtdgagjhjpffeaaaGreatDoorMi
set_option linter.unusedSimpArgs false
set_option linter.unusedVariables false
namespace Go.AI
open Go.Proofs
set_option maxRecDepth 50000

section
variable {P : Program} {K : Kt} {e : Env} {H : Heap} {d : Tmp} {t kt et : TypeId} {o : Nat} {α : Type}

theorem lkpK_set (f : α → AV) (l : List α) (k : AV) (hu : P.underlying t = some (.map kt et)) (hz : zeroAV P et = some (.bool false)) (hm : H[o]? = some (some (mapc (setE f l)))) (hk : keysIn P kt (k :: l.map f)) (hd : distL f l)
    (h : K ((d, .bool (l.any fun x => keyEq (f x) k)) :: e) H) : lkpK P t false (.mapr o) k d K e H := by
  unfold lkpK
  rw [hu]
  dsimp only
  rw [mapOf_at hm]
  dsimp only
  refine ⟨by rw [set_keys]; exact hk, dist_set f hd, _, hz, ?_⟩
  rw [lk_set]; exact h

theorem updK_set (f : α → AV) (l : List α) (x : α) (hu : P.underlying t = some (.map kt et)) (hm : H[o]? = some (some (mapc (setE f l)))) (hk : keysIn P kt (f x :: l.map f)) (hd : distL f l) (hn : (l.any fun y => keyEq (f y) (f x)) = false)
    (h : K e (H.set o (some (mapc (setE f (l ++ [x])))))) : updK P t (.mapr o) (f x) (.bool true) K e H := by
  unfold updK
  dsimp only
  rw [hu]
  dsimp only
  rw [mapOf_at hm]
  dsimp only
  refine ⟨by rw [set_keys]; exact hk, dist_set f hd, rfl, ?_⟩
  rw [upd_set f x l hn]; exact h
end

/-- Is an element's key among those before it? -/
def repGo {α : Type} (f : α → AV) (l : List α) : Nat → List α → Bool
  | _, [] => false
  | i, x :: r => (l.take i).any (fun y => keyEq (f y) (f x)) || repGo f l (i + 1) r
def repB {α : Type} (f : α → AV) (l : List α) : Bool := repGo f l 0 l

theorem take_snoc {α : Type} {l : List α} {k : Nat} {y : α} (hy : l[k]? = some y) : l.take (k + 1) = l.take k ++ [y] := by rw [List.take_add_one, hy]; rfl

theorem bnd_setE {α : Type} {f : α → AV} {n : Nat} {l : List α} (hf : ∀ x, (f x).bnd n = true) : bndL n (mapc (setE f l)) = true := by
  simp only [mapc, bndL, AV.bnd, Bool.and_true]
  refine bndL_iff.2 fun c hc => ?_
  obtain ⟨p, hp, hc⟩ := List.mem_flatMap.1 hc
  obtain ⟨x, _, rfl⟩ := List.mem_map.1 hp
  rcases List.mem_cons.1 hc with rfl | hc
  · exact hf x
  · rcases List.mem_singleton.1 hc with rfl
    rfl

@[go_sem] theorem bnd_mapr (o n : Nat) : (AV.mapr o).bnd n = decide (o < n) := rfl

theorem p_repWire (l : List Wire) (hl : l.length ≤ 9223372036854775807) (g : FuncId) (hg : ∀ x, PCall Tryz.prog g [.agg (Wire.c x)] (.int .i64 x.src)) :
    PCall Tryz.prog 129 [.sl none (lWire l), .fn (.func g) [] []] (.bool (repB (fun x : Wire => AV.int .i64 x.src) l)) := by
  refine PCall.of h129 mixed h129_d Tryz.func129 rfl call129 (by simp [Tryz.f129]) (by simp [pureL, AV.pure, go_sem]) rfl ?_
  simp only [Tryz.f129, go_sem, ↓reduceIte]
  refine awp_lst l (fun (_ : Unit) r => repGo (fun x : Wire => AV.int .i64 x.src) l (l.length - r.length) r) (fun k _ => distL (fun x : Wire => AV.int .i64 x.src) (l.take k)) (fun k _ => [(1, .fn (.func g) [] []), (5, .mapr 0), (9, .sl none (lWire l)), (10, .int .i64 l.length), (11, .int .i64 k)]) (fun k _ => [some (mapc (setE (fun x : Wire => AV.int .i64 x.src) (l.take k)))]) () hl trivial rfl rfl ?_ ?_
  · intro k _ x xs hd hx hI hF h0 h1 hw
    have hk2 := drop_len hd
    have e1 : l.length - (xs.length + 1) = k := by omega
    have e2 : l.length - xs.length = k + 1 := by omega
    simp only [List.length_cons, e1, Nat.sub_self, repGo] at hF
    simp only [go_sem, ↓reduceIte, h0, h1, lWire_get hx]
    repeat' (first
      | ((first | refine ACallK.ofP (hg _) ?_); simp only [go_sem, ↓reduceIte, h0, h1, hw, lWire_get hx])
      | ((first | refine condK_split _ _ _ (fun hc => ?_) (fun hc => ?_) | refine gsel_split _ _ _ _ (fun hc => ?_) (fun hc => ?_)) <;> simp only [go_sem, ↓reduceIte, hc, Bool.not_true, Bool.not_false, h0, h1, hw, lWire_get hx]))
    have hkeys : keysIn Tryz.prog 3 (AV.int .i64 x.src :: (l.take k).map (fun x : Wire => AV.int .i64 x.src)) := keysIn_int (k := .i64) (by simp only [go_sem]) fun a ha => by
      rcases List.mem_cons.1 ha with rfl | ha
      · exact ⟨_, rfl⟩
      · obtain ⟨y, _, rfl⟩ := List.mem_map.1 ha; exact ⟨_, rfl⟩
    have hb : bndL 1 (mapc (setE (fun x : Wire => AV.int .i64 x.src) (l.take k ++ [x]))) = true := bnd_setE fun _ => rfl
    refine lkpK_set (kt := 3) (et := 4) (fun x : Wire => AV.int .i64 x.src) (l.take k) (AV.int .i64 x.src) ?_ ?_ rfl hkeys hI ?_
    · first | simp only [go_sem] | kernel_rfl
    · first | simp only [go_sem] | kernel_rfl
    simp only [go_sem, ↓reduceIte]
    repeat' (first
      | ((first | refine ACallK.ofP (hg _) ?_); simp only [go_sem, ↓reduceIte, h0, h1, hw, lWire_get hx])
      | ((first | refine condK_split _ _ _ (fun hc => ?_) (fun hc => ?_) | refine gsel_split _ _ _ _ (fun hc => ?_) (fun hc => ?_)) <;> simp only [go_sem, ↓reduceIte, hc, Bool.not_true, Bool.not_false, h0, h1, hw, lWire_get hx]))
    · rw [repB, hF, hc, Bool.true_or]
    · refine updK_set (kt := 3) (et := 4) (fun x : Wire => AV.int .i64 x.src) (l.take k) x ?_ rfl hkeys hI hc ?_
      · first | simp only [go_sem] | kernel_rfl
      simp only [go_sem, ↓reduceIte, hw, hb]
      exact ⟨(), by rw [e1, e2, repGo, hc, Bool.false_or], by rw [take_snoc hx]; exact distL_snoc _ _ hI hc, rfl, by rw [take_snoc hx]⟩
  · intro _ _ hF
    simp only [go_sem, ↓reduceIte, Int.lt_irrefl, decide_false]
    rw [Nat.sub_self] at hF
    rw [repB, hF]; rfl

theorem p_repPort (l : List Port) (hl : l.length ≤ 9223372036854775807) (g : FuncId) (hg : ∀ x, PCall Tryz.prog g [.agg (Port.c x)] (.str x.name)) :
    PCall Tryz.prog 125 [.sl none (lPort l), .fn (.func g) [] []] (.bool (repB (fun x : Port => AV.str x.name) l)) := by
  refine PCall.of h125 mixed h125_d Tryz.func125 rfl call125 (by simp [Tryz.f125]) (by simp [pureL, AV.pure, go_sem]) rfl ?_
  simp only [Tryz.f125, go_sem, ↓reduceIte]
  refine awp_lst l (fun (_ : Unit) r => repGo (fun x : Port => AV.str x.name) l (l.length - r.length) r) (fun k _ => distL (fun x : Port => AV.str x.name) (l.take k)) (fun k _ => [(1, .fn (.func g) [] []), (5, .mapr 0), (9, .sl none (lPort l)), (10, .int .i64 l.length), (11, .int .i64 k)]) (fun k _ => [some (mapc (setE (fun x : Port => AV.str x.name) (l.take k)))]) () hl trivial rfl rfl ?_ ?_
  · intro k _ x xs hd hx hI hF h0 h1 hw
    have hk2 := drop_len hd
    have e1 : l.length - (xs.length + 1) = k := by omega
    have e2 : l.length - xs.length = k + 1 := by omega
    simp only [List.length_cons, e1, Nat.sub_self, repGo] at hF
    simp only [go_sem, ↓reduceIte, h0, h1, lPort_get hx]
    repeat' (first
      | ((first | refine ACallK.ofP (hg _) ?_); simp only [go_sem, ↓reduceIte, h0, h1, hw, lPort_get hx])
      | ((first | refine condK_split _ _ _ (fun hc => ?_) (fun hc => ?_) | refine gsel_split _ _ _ _ (fun hc => ?_) (fun hc => ?_)) <;> simp only [go_sem, ↓reduceIte, hc, Bool.not_true, Bool.not_false, h0, h1, hw, lPort_get hx]))
    have hkeys : keysIn Tryz.prog 9 (AV.str x.name :: (l.take k).map (fun x : Port => AV.str x.name)) := keysIn_str (by simp only [go_sem]) fun a ha => by
      rcases List.mem_cons.1 ha with rfl | ha
      · exact ⟨_, rfl⟩
      · obtain ⟨y, _, rfl⟩ := List.mem_map.1 ha; exact ⟨_, rfl⟩
    have hb : bndL 1 (mapc (setE (fun x : Port => AV.str x.name) (l.take k ++ [x]))) = true := bnd_setE fun _ => rfl
    refine lkpK_set (kt := 9) (et := 4) (fun x : Port => AV.str x.name) (l.take k) (AV.str x.name) ?_ ?_ rfl hkeys hI ?_
    · first | simp only [go_sem] | kernel_rfl
    · first | simp only [go_sem] | kernel_rfl
    simp only [go_sem, ↓reduceIte]
    repeat' (first
      | ((first | refine ACallK.ofP (hg _) ?_); simp only [go_sem, ↓reduceIte, h0, h1, hw, lPort_get hx])
      | ((first | refine condK_split _ _ _ (fun hc => ?_) (fun hc => ?_) | refine gsel_split _ _ _ _ (fun hc => ?_) (fun hc => ?_)) <;> simp only [go_sem, ↓reduceIte, hc, Bool.not_true, Bool.not_false, h0, h1, hw, lPort_get hx]))
    · rw [repB, hF, hc, Bool.true_or]
    · refine updK_set (kt := 9) (et := 4) (fun x : Port => AV.str x.name) (l.take k) x ?_ rfl hkeys hI hc ?_
      · first | simp only [go_sem] | kernel_rfl
      simp only [go_sem, ↓reduceIte, hw, hb]
      exact ⟨(), by rw [e1, e2, repGo, hc, Bool.false_or], by rw [take_snoc hx]; exact distL_snoc _ _ hI hc, rfl, by rw [take_snoc hx]⟩
  · intro _ _ hF
    simp only [go_sem, ↓reduceIte, Int.lt_irrefl, decide_false]
    rw [Nat.sub_self] at hF
    rw [repB, hF]; rfl

end Go.AI

namespace Go.AI
open Go.Proofs
set_option maxRecDepth 50000

theorem p_IndexPort {H : Heap} (l : List Port) (hl : l.length ≤ 9223372036854775807) (g : FuncId) (fi ca : List AV) (p : Port → Bool)
    (h : ∀ x ∈ l, SCall Tryz.prog g (fi.map AV.borrow ++ (.agg x.c :: ca.map AV.borrow)) H (.bool (p x))) :
    SCall Tryz.prog 193 [.sl none (lPort l), .fn (.func g) fi ca] H (.int .i64 (idxI p l)) := by
  unfold SCall
  refine ACall.of h193 rfl mixed h193_d Tryz.func193 rfl call193 (by simp [Tryz.f193]) ?_
  simp only [Tryz.f193, go_sem, ↓reduceIte]
  refine awp_all l (fun r => idxGo p (l.length - r.length) r) (fun k => [(0, .sl none (lPort l)), (1, .fn (.func g) fi ca), (7, .int .i64 l.length), (8, .int .i64 k)]) hl rfl ?_ ?_
  · intro k x xs hd hx hF h0 h1 hw
    have hk2 := drop_len hd
    have e1 : l.length - (xs.length + 1) = k := by omega
    have e2 : l.length - xs.length = k + 1 := by omega
    simp only [List.length_cons, e1, Nat.sub_self] at hF
    simp only [go_sem, ↓reduceIte, h0, h1, lPort_get hx, e1, e2]
    repeat' (first
      | ((first | refine ACallK.ofS (h x (List.mem_of_getElem? hx)) ?_); simp only [go_sem, ↓reduceIte, h0, h1, hw, lPort_get hx, e1, e2])
      | ((first | refine condK_split _ _ _ (fun hc => ?_) (fun hc => ?_) | refine gsel_split _ _ _ _ (fun hc => ?_) (fun hc => ?_)) <;> simp only [go_sem, ↓reduceIte, hc, Bool.not_true, Bool.not_false, h0, h1, hw, lPort_get hx, e1, e2]))
    · rw [idxI, hF, idxGo, if_pos hc]
    · rw [idxGo, if_neg (by rw [hc]; decide)]
  · intro hF hlt
    simp only [go_sem, ↓reduceIte, hlt, decide_false]
    rw [Nat.sub_self] at hF
    rw [idxI, hF]; rfl

theorem p_ContainsPort {H : Heap} (l : List Port) (hl : l.length ≤ 9223372036854775807) (g : FuncId) (fi ca : List AV) (p : Port → Bool)
    (h : ∀ x ∈ l, SCall Tryz.prog g (fi.map AV.borrow ++ (.agg x.c :: ca.map AV.borrow)) H (.bool (p x))) :
    SCall Tryz.prog 123 [.sl none (lPort l), .fn (.func g) fi ca] H (.bool (l.any p)) := by
  unfold SCall
  refine ACall.of h123 rfl mixed h123_d Tryz.func123 rfl call123 (by simp [Tryz.f123]) ?_
  simp only [Tryz.f123, go_sem, ↓reduceIte]
  repeat' (first
    | ((first | refine ACallK.ofS (p_IndexPort l hl g fi ca p h) ?_); simp only [go_sem, ↓reduceIte])
    | ((first | refine condK_split _ _ _ (fun hc => ?_) (fun hc => ?_) | refine gsel_split _ _ _ _ (fun hc => ?_) (fun hc => ?_)) <;> simp only [go_sem, ↓reduceIte, hc, Bool.not_true, Bool.not_false]))
  rw [idxI, idxGo_any]

theorem p_IndexWire {H : Heap} (l : List Wire) (hl : l.length ≤ 9223372036854775807) (g : FuncId) (fi ca : List AV) (p : Wire → Bool)
    (h : ∀ x ∈ l, SCall Tryz.prog g (fi.map AV.borrow ++ (.agg x.c :: ca.map AV.borrow)) H (.bool (p x))) :
    SCall Tryz.prog 194 [.sl none (lWire l), .fn (.func g) fi ca] H (.int .i64 (idxI p l)) := by
  unfold SCall
  refine ACall.of h194 rfl mixed h194_d Tryz.func194 rfl call194 (by simp [Tryz.f194]) ?_
  simp only [Tryz.f194, go_sem, ↓reduceIte]
  refine awp_all l (fun r => idxGo p (l.length - r.length) r) (fun k => [(0, .sl none (lWire l)), (1, .fn (.func g) fi ca), (7, .int .i64 l.length), (8, .int .i64 k)]) hl rfl ?_ ?_
  · intro k x xs hd hx hF h0 h1 hw
    have hk2 := drop_len hd
    have e1 : l.length - (xs.length + 1) = k := by omega
    have e2 : l.length - xs.length = k + 1 := by omega
    simp only [List.length_cons, e1, Nat.sub_self] at hF
    simp only [go_sem, ↓reduceIte, h0, h1, lWire_get hx, e1, e2]
    repeat' (first
      | ((first | refine ACallK.ofS (h x (List.mem_of_getElem? hx)) ?_); simp only [go_sem, ↓reduceIte, h0, h1, hw, lWire_get hx, e1, e2])
      | ((first | refine condK_split _ _ _ (fun hc => ?_) (fun hc => ?_) | refine gsel_split _ _ _ _ (fun hc => ?_) (fun hc => ?_)) <;> simp only [go_sem, ↓reduceIte, hc, Bool.not_true, Bool.not_false, h0, h1, hw, lWire_get hx, e1, e2]))
    · rw [idxI, hF, idxGo, if_pos hc]
    · rw [idxGo, if_neg (by rw [hc]; decide)]
  · intro hF hlt
    simp only [go_sem, ↓reduceIte, hlt, decide_false]
    rw [Nat.sub_self] at hF
    rw [idxI, hF]; rfl

theorem p_ContainsWire {H : Heap} (l : List Wire) (hl : l.length ≤ 9223372036854775807) (g : FuncId) (fi ca : List AV) (p : Wire → Bool)
    (h : ∀ x ∈ l, SCall Tryz.prog g (fi.map AV.borrow ++ (.agg x.c :: ca.map AV.borrow)) H (.bool (p x))) :
    SCall Tryz.prog 126 [.sl none (lWire l), .fn (.func g) fi ca] H (.bool (l.any p)) := by
  unfold SCall
  refine ACall.of h126 rfl mixed h126_d Tryz.func126 rfl call126 (by simp [Tryz.f126]) ?_
  simp only [Tryz.f126, go_sem, ↓reduceIte]
  repeat' (first
    | ((first | refine ACallK.ofS (p_IndexWire l hl g fi ca p h) ?_); simp only [go_sem, ↓reduceIte])
    | ((first | refine condK_split _ _ _ (fun hc => ?_) (fun hc => ?_) | refine gsel_split _ _ _ _ (fun hc => ?_) (fun hc => ?_)) <;> simp only [go_sem, ↓reduceIte, hc, Bool.not_true, Bool.not_false]))
  rw [idxI, idxGo_any]

theorem p_IndexRegex {H : Heap} (l : List Regex) (hl : l.length ≤ 9223372036854775807) (g : FuncId) (fi ca : List AV) (p : Regex → Bool)
    (h : ∀ x ∈ l, SCall Tryz.prog g (fi.map AV.borrow ++ (.agg x.c :: ca.map AV.borrow)) H (.bool (p x))) :
    SCall Tryz.prog 208 [.sl none (lRegex l), .fn (.func g) fi ca] H (.int .i64 (idxI p l)) := by
  unfold SCall
  refine ACall.of h208 rfl mixed h208_d Tryz.func208 rfl call208 (by simp [Tryz.f208]) ?_
  simp only [Tryz.f208, go_sem, ↓reduceIte]
  refine awp_all l (fun r => idxGo p (l.length - r.length) r) (fun k => [(0, .sl none (lRegex l)), (1, .fn (.func g) fi ca), (7, .int .i64 l.length), (8, .int .i64 k)]) hl rfl ?_ ?_
  · intro k x xs hd hx hF h0 h1 hw
    have hk2 := drop_len hd
    have e1 : l.length - (xs.length + 1) = k := by omega
    have e2 : l.length - xs.length = k + 1 := by omega
    simp only [List.length_cons, e1, Nat.sub_self] at hF
    simp only [go_sem, ↓reduceIte, h0, h1, lRegex_get hx, e1, e2]
    repeat' (first
      | ((first | refine ACallK.ofS (h x (List.mem_of_getElem? hx)) ?_); simp only [go_sem, ↓reduceIte, h0, h1, hw, lRegex_get hx, e1, e2])
      | ((first | refine condK_split _ _ _ (fun hc => ?_) (fun hc => ?_) | refine gsel_split _ _ _ _ (fun hc => ?_) (fun hc => ?_)) <;> simp only [go_sem, ↓reduceIte, hc, Bool.not_true, Bool.not_false, h0, h1, hw, lRegex_get hx, e1, e2]))
    · rw [idxI, hF, idxGo, if_pos hc]
    · rw [idxGo, if_neg (by rw [hc]; decide)]
  · intro hF hlt
    simp only [go_sem, ↓reduceIte, hlt, decide_false]
    rw [Nat.sub_self] at hF
    rw [idxI, hF]; rfl

theorem p_ContainsRegex {H : Heap} (l : List Regex) (hl : l.length ≤ 9223372036854775807) (g : FuncId) (fi ca : List AV) (p : Regex → Bool)
    (h : ∀ x ∈ l, SCall Tryz.prog g (fi.map AV.borrow ++ (.agg x.c :: ca.map AV.borrow)) H (.bool (p x))) :
    SCall Tryz.prog 143 [.sl none (lRegex l), .fn (.func g) fi ca] H (.bool (l.any p)) := by
  unfold SCall
  refine ACall.of h143 rfl mixed h143_d Tryz.func143 rfl call143 (by simp [Tryz.f143]) ?_
  simp only [Tryz.f143, go_sem, ↓reduceIte]
  repeat' (first
    | ((first | refine ACallK.ofS (p_IndexRegex l hl g fi ca p h) ?_); simp only [go_sem, ↓reduceIte])
    | ((first | refine condK_split _ _ _ (fun hc => ?_) (fun hc => ?_) | refine gsel_split _ _ _ _ (fun hc => ?_) (fun hc => ?_)) <;> simp only [go_sem, ↓reduceIte, hc, Bool.not_true, Bool.not_false]))
  rw [idxI, idxGo_any]

theorem p_everyRegex (l : List Regex) (hl : l.length ≤ 9223372036854775807) (n : Int) (g : FuncId) (p : Regex → Bool) (h : ∀ x ∈ l, PCall Tryz.prog g [.agg x.c] (.bool (p x))) :
    PCall Tryz.prog 206 [.sl none (lRegex l), .int .i64 n, .fn (.func g) [] []] (.bool (((l.length : Int) == n) && l.all p)) := by
  refine PCall.of h206 mixed h206_d Tryz.func206 rfl call206 (by simp [Tryz.f206]) (by simp [pureL, AV.pure, go_sem]) rfl ?_
  simp only [Tryz.f206, go_sem, ↓reduceIte]
  have h1 : ∀ x ∈ l, SCall Tryz.prog 253 [.agg x.c, .ptr 0 0] [some [.fn (.func g) [] []]] (.bool (!p x)) := by
    intro x hx
    refine ACall.drop rfl ?_
    refine ACall.of h253 rfl mixed h253_d Tryz.func253 rfl call253 (by simp [Tryz.f253]) ?_
    simp only [Tryz.f253, go_sem, ↓reduceIte]
    repeat' (first
      | ((first | refine ACallK.ofP (h x hx) ?_); simp only [go_sem, ↓reduceIte])
      | ((first | refine condK_split _ _ _ (fun hc => ?_) (fun hc => ?_) | refine gsel_split _ _ _ _ (fun hc => ?_) (fun hc => ?_)) <;> simp only [go_sem, ↓reduceIte, hc, Bool.not_true, Bool.not_false]))
    exact ⟨_, rfl⟩
  repeat' (first
    | ((first | refine ACallK.ofS (p_ContainsRegex l hl 253 [] [.ptr 0 0] (fun x => !p x) h1) ?_); simp only [go_sem, ↓reduceIte, any_not])
    | ((first | refine condK_split _ _ _ (fun hc => ?_) (fun hc => ?_) | refine gsel_split _ _ _ _ (fun hc => ?_) (fun hc => ?_)) <;> simp only [go_sem, ↓reduceIte, hc, Bool.not_true, Bool.not_false, any_not]))

theorem p_IndexFld {H : Heap} (l : List Fld) (hl : l.length ≤ 9223372036854775807) (g : FuncId) (fi ca : List AV) (p : Fld → Bool)
    (h : ∀ x ∈ l, SCall Tryz.prog g (fi.map AV.borrow ++ (.agg x.c :: ca.map AV.borrow)) H (.bool (p x))) :
    SCall Tryz.prog 228 [.sl none (lFld l), .fn (.func g) fi ca] H (.int .i64 (idxI p l)) := by
  unfold SCall
  refine ACall.of h228 rfl mixed h228_d Tryz.func228 rfl call228 (by simp [Tryz.f228]) ?_
  simp only [Tryz.f228, go_sem, ↓reduceIte]
  refine awp_all l (fun r => idxGo p (l.length - r.length) r) (fun k => [(0, .sl none (lFld l)), (1, .fn (.func g) fi ca), (7, .int .i64 l.length), (8, .int .i64 k)]) hl rfl ?_ ?_
  · intro k x xs hd hx hF h0 h1 hw
    have hk2 := drop_len hd
    have e1 : l.length - (xs.length + 1) = k := by omega
    have e2 : l.length - xs.length = k + 1 := by omega
    simp only [List.length_cons, e1, Nat.sub_self] at hF
    simp only [go_sem, ↓reduceIte, h0, h1, lFld_get hx, e1, e2]
    repeat' (first
      | ((first | refine ACallK.ofS (h x (List.mem_of_getElem? hx)) ?_); simp only [go_sem, ↓reduceIte, h0, h1, hw, lFld_get hx, e1, e2])
      | ((first | refine condK_split _ _ _ (fun hc => ?_) (fun hc => ?_) | refine gsel_split _ _ _ _ (fun hc => ?_) (fun hc => ?_)) <;> simp only [go_sem, ↓reduceIte, hc, Bool.not_true, Bool.not_false, h0, h1, hw, lFld_get hx, e1, e2]))
    · rw [idxI, hF, idxGo, if_pos hc]
    · rw [idxGo, if_neg (by rw [hc]; decide)]
  · intro hF hlt
    simp only [go_sem, ↓reduceIte, hlt, decide_false]
    rw [Nat.sub_self] at hF
    rw [idxI, hF]; rfl


theorem p_IndexNode {H : Heap} (l : List Node) (hl : l.length ≤ 9223372036854775807) (g : FuncId) (fi ca : List AV) (p : Node → Bool)
    (h : ∀ x ∈ l, SCall Tryz.prog g (fi.map AV.borrow ++ (.agg x.c :: ca.map AV.borrow)) H (.bool (p x))) :
    SCall Tryz.prog 207 [.sl none (lNode l), .fn (.func g) fi ca] H (.int .i64 (idxI p l)) := by
  unfold SCall
  refine ACall.of h207 rfl mixed h207_d Tryz.func207 rfl call207 (by simp [Tryz.f207]) ?_
  simp only [Tryz.f207, go_sem, ↓reduceIte]
  refine awp_all l (fun r => idxGo p (l.length - r.length) r) (fun k => [(0, .sl none (lNode l)), (1, .fn (.func g) fi ca), (7, .int .i64 l.length), (8, .int .i64 k)]) hl rfl ?_ ?_
  · intro k x xs hd hx hF h0 h1 hw
    have hk2 := drop_len hd
    have e1 : l.length - (xs.length + 1) = k := by omega
    have e2 : l.length - xs.length = k + 1 := by omega
    simp only [List.length_cons, e1, Nat.sub_self] at hF
    simp only [go_sem, ↓reduceIte, h0, h1, lNode_get hx, e1, e2]
    repeat' (first
      | ((first | refine ACallK.ofS (h x (List.mem_of_getElem? hx)) ?_); simp only [go_sem, ↓reduceIte, h0, h1, hw, lNode_get hx, e1, e2])
      | ((first | refine condK_split _ _ _ (fun hc => ?_) (fun hc => ?_) | refine gsel_split _ _ _ _ (fun hc => ?_) (fun hc => ?_)) <;> simp only [go_sem, ↓reduceIte, hc, Bool.not_true, Bool.not_false, h0, h1, hw, lNode_get hx, e1, e2]))
    · rw [idxI, hF, idxGo, if_pos hc]
    · rw [idxGo, if_neg (by rw [hc]; decide)]
  · intro hF hlt
    simp only [go_sem, ↓reduceIte, hlt, decide_false]
    rw [Nat.sub_self] at hF
    rw [idxI, hF]; rfl

theorem p_ContainsNode {H : Heap} (l : List Node) (hl : l.length ≤ 9223372036854775807) (g : FuncId) (fi ca : List AV) (p : Node → Bool)
    (h : ∀ x ∈ l, SCall Tryz.prog g (fi.map AV.borrow ++ (.agg x.c :: ca.map AV.borrow)) H (.bool (p x))) :
    SCall Tryz.prog 141 [.sl none (lNode l), .fn (.func g) fi ca] H (.bool (l.any p)) := by
  unfold SCall
  refine ACall.of h141 rfl mixed h141_d Tryz.func141 rfl call141 (by simp [Tryz.f141]) ?_
  simp only [Tryz.f141, go_sem, ↓reduceIte]
  repeat' (first
    | ((first | refine ACallK.ofS (p_IndexNode l hl g fi ca p h) ?_); simp only [go_sem, ↓reduceIte])
    | ((first | refine condK_split _ _ _ (fun hc => ?_) (fun hc => ?_) | refine gsel_split _ _ _ _ (fun hc => ?_) (fun hc => ?_)) <;> simp only [go_sem, ↓reduceIte, hc, Bool.not_true, Bool.not_false]))
  rw [idxI, idxGo_any]

theorem p_IndexStr {H : Heap} (l : List ByteArray) (hl : l.length ≤ 9223372036854775807) (g : FuncId) (fi ca : List AV) (p : ByteArray → Bool)
    (h : ∀ x ∈ l, SCall Tryz.prog g (fi.map AV.borrow ++ (.str x :: ca.map AV.borrow)) H (.bool (p x))) :
    SCall Tryz.prog 265 [.sl none (lStr l), .fn (.func g) fi ca] H (.int .i64 (idxI p l)) := by
  unfold SCall
  refine ACall.of h265 rfl mixed h265_d Tryz.func265 rfl call265 (by simp [Tryz.f265]) ?_
  simp only [Tryz.f265, go_sem, ↓reduceIte]
  refine awp_all l (fun r => idxGo p (l.length - r.length) r) (fun k => [(0, .sl none (lStr l)), (1, .fn (.func g) fi ca), (7, .int .i64 l.length), (8, .int .i64 k)]) hl rfl ?_ ?_
  · intro k x xs hd hx hF h0 h1 hw
    have hk2 := drop_len hd
    have e1 : l.length - (xs.length + 1) = k := by omega
    have e2 : l.length - xs.length = k + 1 := by omega
    simp only [List.length_cons, e1, Nat.sub_self] at hF
    simp only [go_sem, ↓reduceIte, h0, h1, lStr_get hx, e1, e2]
    repeat' (first
      | ((first | refine ACallK.ofS (h x (List.mem_of_getElem? hx)) ?_); simp only [go_sem, ↓reduceIte, h0, h1, hw, lStr_get hx, e1, e2])
      | ((first | refine condK_split _ _ _ (fun hc => ?_) (fun hc => ?_) | refine gsel_split _ _ _ _ (fun hc => ?_) (fun hc => ?_)) <;> simp only [go_sem, ↓reduceIte, hc, Bool.not_true, Bool.not_false, h0, h1, hw, lStr_get hx, e1, e2]))
    · rw [idxI, hF, idxGo, if_pos hc]
    · rw [idxGo, if_neg (by rw [hc]; decide)]
  · intro hF hlt
    simp only [go_sem, ↓reduceIte, hlt, decide_false]
    rw [Nat.sub_self] at hF
    rw [idxI, hF]; rfl

theorem p_ContainsStr {H : Heap} (l : List ByteArray) (hl : l.length ≤ 9223372036854775807) (g : FuncId) (fi ca : List AV) (p : ByteArray → Bool)
    (h : ∀ x ∈ l, SCall Tryz.prog g (fi.map AV.borrow ++ (.str x :: ca.map AV.borrow)) H (.bool (p x))) :
    SCall Tryz.prog 230 [.sl none (lStr l), .fn (.func g) fi ca] H (.bool (l.any p)) := by
  unfold SCall
  refine ACall.of h230 rfl mixed h230_d Tryz.func230 rfl call230 (by simp [Tryz.f230]) ?_
  simp only [Tryz.f230, go_sem, ↓reduceIte]
  repeat' (first
    | ((first | refine ACallK.ofS (p_IndexStr l hl g fi ca p h) ?_); simp only [go_sem, ↓reduceIte])
    | ((first | refine condK_split _ _ _ (fun hc => ?_) (fun hc => ?_) | refine gsel_split _ _ _ _ (fun hc => ?_) (fun hc => ?_)) <;> simp only [go_sem, ↓reduceIte, hc, Bool.not_true, Bool.not_false]))
  rw [idxI, idxGo_any]

theorem p_everyStr (l : List ByteArray) (hl : l.length ≤ 9223372036854775807) (n : Int) (g : FuncId) (p : ByteArray → Bool) (h : ∀ x ∈ l, PCall Tryz.prog g [.str x] (.bool (p x))) :
    PCall Tryz.prog 264 [.sl none (lStr l), .int .i64 n, .fn (.func g) [] []] (.bool (((l.length : Int) == n) && l.all p)) := by
  refine PCall.of h264 mixed h264_d Tryz.func264 rfl call264 (by simp [Tryz.f264]) (by simp [pureL, AV.pure, go_sem]) rfl ?_
  simp only [Tryz.f264, go_sem, ↓reduceIte]
  have h1 : ∀ x ∈ l, SCall Tryz.prog 297 [.str x, .ptr 0 0] [some [.fn (.func g) [] []]] (.bool (!p x)) := by
    intro x hx
    refine ACall.drop rfl ?_
    refine ACall.of h297 rfl mixed h297_d Tryz.func297 rfl call297 (by simp [Tryz.f297]) ?_
    simp only [Tryz.f297, go_sem, ↓reduceIte]
    repeat' (first
      | ((first | refine ACallK.ofP (h x hx) ?_); simp only [go_sem, ↓reduceIte])
      | ((first | refine condK_split _ _ _ (fun hc => ?_) (fun hc => ?_) | refine gsel_split _ _ _ _ (fun hc => ?_) (fun hc => ?_)) <;> simp only [go_sem, ↓reduceIte, hc, Bool.not_true, Bool.not_false]))
    exact ⟨_, rfl⟩
  repeat' (first
    | ((first | refine ACallK.ofS (p_ContainsStr l hl 297 [] [.ptr 0 0] (fun x => !p x) h1) ?_); simp only [go_sem, ↓reduceIte, any_not])
    | ((first | refine condK_split _ _ _ (fun hc => ?_) (fun hc => ?_) | refine gsel_split _ _ _ _ (fun hc => ?_) (fun hc => ?_)) <;> simp only [go_sem, ↓reduceIte, hc, Bool.not_true, Bool.not_false, any_not]))

theorem p_IndexI64 {H : Heap} (l : List Int) (hl : l.length ≤ 9223372036854775807) (g : FuncId) (fi ca : List AV) (p : Int → Bool)
    (h : ∀ x ∈ l, SCall Tryz.prog g (fi.map AV.borrow ++ (.int .i64 x :: ca.map AV.borrow)) H (.bool (p x))) :
    SCall Tryz.prog 195 [.sl none (lI64 l), .fn (.func g) fi ca] H (.int .i64 (idxI p l)) := by
  unfold SCall
  refine ACall.of h195 rfl mixed h195_d Tryz.func195 rfl call195 (by simp [Tryz.f195]) ?_
  simp only [Tryz.f195, go_sem, ↓reduceIte]
  refine awp_all l (fun r => idxGo p (l.length - r.length) r) (fun k => [(0, .sl none (lI64 l)), (1, .fn (.func g) fi ca), (7, .int .i64 l.length), (8, .int .i64 k)]) hl rfl ?_ ?_
  · intro k x xs hd hx hF h0 h1 hw
    have hk2 := drop_len hd
    have e1 : l.length - (xs.length + 1) = k := by omega
    have e2 : l.length - xs.length = k + 1 := by omega
    simp only [List.length_cons, e1, Nat.sub_self] at hF
    simp only [go_sem, ↓reduceIte, h0, h1, lI64_get hx, e1, e2]
    repeat' (first
      | ((first | refine ACallK.ofS (h x (List.mem_of_getElem? hx)) ?_); simp only [go_sem, ↓reduceIte, h0, h1, hw, lI64_get hx, e1, e2])
      | ((first | refine condK_split _ _ _ (fun hc => ?_) (fun hc => ?_) | refine gsel_split _ _ _ _ (fun hc => ?_) (fun hc => ?_)) <;> simp only [go_sem, ↓reduceIte, hc, Bool.not_true, Bool.not_false, h0, h1, hw, lI64_get hx, e1, e2]))
    · rw [idxI, hF, idxGo, if_pos hc]
    · rw [idxGo, if_neg (by rw [hc]; decide)]
  · intro hF hlt
    simp only [go_sem, ↓reduceIte, hlt, decide_false]
    rw [Nat.sub_self] at hF
    rw [idxI, hF]; rfl

theorem p_ContainsI64 {H : Heap} (l : List Int) (hl : l.length ≤ 9223372036854775807) (g : FuncId) (fi ca : List AV) (p : Int → Bool)
    (h : ∀ x ∈ l, SCall Tryz.prog g (fi.map AV.borrow ++ (.int .i64 x :: ca.map AV.borrow)) H (.bool (p x))) :
    SCall Tryz.prog 131 [.sl none (lI64 l), .fn (.func g) fi ca] H (.bool (l.any p)) := by
  unfold SCall
  refine ACall.of h131 rfl mixed h131_d Tryz.func131 rfl call131 (by simp [Tryz.f131]) ?_
  simp only [Tryz.f131, go_sem, ↓reduceIte]
  repeat' (first
    | ((first | refine ACallK.ofS (p_IndexI64 l hl g fi ca p h) ?_); simp only [go_sem, ↓reduceIte])
    | ((first | refine condK_split _ _ _ (fun hc => ?_) (fun hc => ?_) | refine gsel_split _ _ _ _ (fun hc => ?_) (fun hc => ?_)) <;> simp only [go_sem, ↓reduceIte, hc, Bool.not_true, Bool.not_false]))
  rw [idxI, idxGo_any]

theorem p_allRegex (l : List Regex) (hl : l.length ≤ 9223372036854775807) (h : ∀ x ∈ l, PCall Tryz.prog 137 [.agg x.c] (.agg (szR x).c)) :
    PCall Tryz.prog 203 [.sl none (lRegex l), .fn (.func 137) [] []] (.agg (szRs l ⟨1, 1⟩).c) := by
  refine PCall.ofB h203 mixed h203_d Tryz.func203 rfl call203 (by simp [Tryz.f203]) (by simp [pureL, AV.pure, go_sem]) (by simp [pureL, AV.pure, go_sem]) ?_
  simp only [Tryz.f203, go_sem, ↓reduceIte]
  refine awp_lst l (fun o l => szRs l o) (fun _ _ => True) (fun k o => [(1, .fn (.func 137) [] []), (4, .ptr 0 0), (5, .ptr 1 0), (9, .sl none (lRegex l)), (10, .int .i64 l.length), (11, .int .i64 k)]) (fun k o => [some Sizes.z.c, some o.c]) ⟨1, 1⟩ hl trivial rfl rfl ?_ ?_
  · intro k o y ys hd hx _ hF h0 h1 hw
    simp only [go_sem, ↓reduceIte, h0, h1, lRegex_get hx]
    repeat' (first
      | ((first | refine PCallK.intro (h _ (List.mem_of_getElem? hx)) ?_ | refine PCallK.intro (p_with _ _) ?_); simp only [go_sem, ↓reduceIte, h0, h1, hw, lRegex_get hx])
      | ((first | refine condK_split _ _ _ (fun hc => ?_) (fun hc => ?_) | refine gsel_split _ _ _ _ (fun hc => ?_) (fun hc => ?_)) <;> simp only [go_sem, ↓reduceIte, hc, Bool.not_true, Bool.not_false, h0, h1, hw, lRegex_get hx]))
    exact ⟨_, szRs_cons _ _ _, rfl, rfl⟩
  · intro o _ hF
    simp only [go_sem, ↓reduceIte, Int.lt_irrefl, decide_false]
    rw [hF, szRs_nil]

end Go.AI

namespace Go.AI
open Go.Proofs
set_option maxRecDepth 50000

theorem p_EqualStr (a b : List ByteArray) (ha : a.length ≤ 9223372036854775807) : PCall Tryz.prog 296 [.sl none (lStr a), .sl none (lStr b)] (.bool (((a.length : Int) == (b.length : Int)) && keysEq a b)) := by
  refine PCall.of h296 mixed h296_d Tryz.func296 rfl call296 (by simp [Tryz.f296]) (by simp [pureL, AV.pure, go_sem]) rfl ?_
  simp only [Tryz.f296, go_sem, ↓reduceIte, toList_beq]
  repeat' (first
    | ((first | refine condK_split _ _ _ (fun hc => ?_) (fun hc => ?_) | refine gsel_split _ _ _ _ (fun hc => ?_) (fun hc => ?_)) <;> simp only [go_sem, ↓reduceIte, hc, Bool.not_true, Bool.not_false, toList_beq]))
  · simp at hc; simp [hc]
  · have hlen : a.length = b.length := by simp at hc; omega
    refine awp_lst a (fun (_ : Unit) r => keysEq r (b.drop (a.length - r.length))) (fun _ _ => True) (fun k _ => [(0, .sl none (lStr a)), (1, .sl none (lStr b)), (12, .int .i64 a.length), (13, .int .i64 k)]) (fun k _ => []) () ha trivial rfl rfl ?_ ?_
    · intro k _ x xs hd hx _ hF h0 h1 hw
      have hk2 := drop_len hd
      obtain ⟨y, hy⟩ : ∃ y, b[k]? = some y := ⟨_, List.getElem?_eq_getElem (by omega)⟩
      have e1 : a.length - (xs.length + 1) = k := by omega
      have e2 : a.length - xs.length = k + 1 := by omega
      have hbd : b.drop k = y :: b.drop (k + 1) := by
        obtain ⟨hlt, rfl⟩ := List.getElem?_eq_some_iff.1 hy
        exact List.drop_eq_getElem_cons hlt
      simp only [List.length_cons, e1, Nat.sub_self, List.drop_zero, hbd, keysEq_cons] at hF
      simp only [go_sem, ↓reduceIte, h0, h1, lStr_get hx, lStr_get hy, toList_beq]
      repeat' (first
        | ((first | refine condK_split _ _ _ (fun hc => ?_) (fun hc => ?_) | refine gsel_split _ _ _ _ (fun hc => ?_) (fun hc => ?_)) <;> simp only [go_sem, ↓reduceIte, hc, Bool.not_true, Bool.not_false, h0, h1, hw, lStr_get hx, lStr_get hy, toList_beq]))
      · have h5 : decide (x = y) = false := by simpa using hc
        rw [hF, h5, Bool.false_and, Bool.and_false]
      · have h5 : decide (x = y) = true := by simpa using hc
        exact ⟨(), by rw [e1, e2, hbd, keysEq_cons, h5, Bool.true_and]⟩
    · intro _ _ hF
      simp only [go_sem, ↓reduceIte, Int.lt_irrefl, decide_false]
      rw [Nat.sub_self, List.drop_zero, keysEq_nil] at hF
      rw [hF, hlen]; simp

theorem p_sameStep (x y : Stp) : PCall Tryz.prog 263 [.agg x.c, .agg y.c] (.bool (eqS x y)) := by
  refine PCall.fit call263 fun hf => ?_
  have hl : x.key.length ≤ 9223372036854775807 := Stp.fit_key (pfit1 hf)
  refine PCall.of h263 mixed h263_d Tryz.func263 rfl call263 (by simp [Tryz.f263]) (by simp [pureL, AV.pure, go_sem]) rfl ?_
  simp only [Tryz.f263, go_sem, ↓reduceIte, toList_beq]
  repeat' (first
    | ((first | refine PCallK.intro (p_EqualStr _ _ hl) ?_); simp only [go_sem, ↓reduceIte, toList_beq])
    | ((first | refine condK_split _ _ _ (fun hc => ?_) (fun hc => ?_) | refine gsel_split _ _ _ _ (fun hc => ?_) (fun hc => ?_)) <;> simp only [go_sem, ↓reduceIte, hc, Bool.not_true, Bool.not_false, toList_beq]))
  all_goals (unfold eqS; simp_all [ibeq])

theorem p_fS1
(var field : ByteArray) (n m : Int) (key : List ByteArray) (hl : key.length ≤ 9223372036854775807) (hv : var.size ≤ 1073741824) (hf : field.size ≤ 1073741824) (hk : ∀ y ∈ key, PCall Tryz.prog 221 [.str y] (.bool (fnB y))) : PCall Tryz.prog 224 [.agg (Stp.c ⟨1, var, key, field, n, m⟩)] (.bool (fmS ⟨1, var, key, field, n, m⟩)) := by
  refine PCall.of h224 mixed h224_d Tryz.func224 rfl call224 (by simp [Tryz.f224]) (by simp [pureL, AV.pure, go_sem]) rfl ?_
  simp only [Tryz.f224, go_sem, ↓reduceIte, toList_beq, Int.reduceBEq, len0]
  repeat' (first
    | ((first | refine PCallK.intro (PCall.lend (p_sameStep ⟨1, var, key, field, n, m⟩ Stp.z)) ?_ | refine PCallK.intro (p_Plain _ hv) ?_ | refine PCallK.intro (p_named _ hf) ?_ | refine PCallK.intro (p_value _) ?_ | refine PCallK.intro (p_tick _) ?_ | refine PCallK.intro (p_everyStr _ hl _ _ fnB hk) ?_); simp only [go_sem, ↓reduceIte, toList_beq, Int.reduceBEq, len0])
    | ((first | refine condK_split _ _ _ (fun hc => ?_) (fun hc => ?_) | refine gsel_split _ _ _ _ (fun hc => ?_) (fun hc => ?_)) <;> simp only [go_sem, ↓reduceIte, hc, Bool.not_true, Bool.not_false, toList_beq, Int.reduceBEq, len0]))
  all_goals (unfold fmS; cases key <;> (simp_all [w16, tickB] <;> first | omega | grind | skip))

theorem p_fS2
(var field : ByteArray) (n m : Int) (key : List ByteArray) (hl : key.length ≤ 9223372036854775807) (hv : var.size ≤ 1073741824) (hf : field.size ≤ 1073741824) (hk : ∀ y ∈ key, PCall Tryz.prog 221 [.str y] (.bool (fnB y))) : PCall Tryz.prog 224 [.agg (Stp.c ⟨2, var, key, field, n, m⟩)] (.bool (fmS ⟨2, var, key, field, n, m⟩)) := by
  refine PCall.of h224 mixed h224_d Tryz.func224 rfl call224 (by simp [Tryz.f224]) (by simp [pureL, AV.pure, go_sem]) rfl ?_
  simp only [Tryz.f224, go_sem, ↓reduceIte, toList_beq, Int.reduceBEq, len0]
  repeat' (first
    | ((first | refine PCallK.intro (PCall.lend (p_sameStep ⟨2, var, key, field, n, m⟩ Stp.z)) ?_ | refine PCallK.intro (p_Plain _ hv) ?_ | refine PCallK.intro (p_named _ hf) ?_ | refine PCallK.intro (p_value _) ?_ | refine PCallK.intro (p_tick _) ?_ | refine PCallK.intro (p_everyStr _ hl _ _ fnB hk) ?_); simp only [go_sem, ↓reduceIte, toList_beq, Int.reduceBEq, len0])
    | ((first | refine condK_split _ _ _ (fun hc => ?_) (fun hc => ?_) | refine gsel_split _ _ _ _ (fun hc => ?_) (fun hc => ?_)) <;> simp only [go_sem, ↓reduceIte, hc, Bool.not_true, Bool.not_false, toList_beq, Int.reduceBEq, len0]))
  all_goals (unfold fmS; cases key <;> (simp_all [w16, tickB] <;> first | omega | grind | skip))

theorem p_fS3
(var field : ByteArray) (n m : Int) (key : List ByteArray) (hl : key.length ≤ 9223372036854775807) (hv : var.size ≤ 1073741824) (hf : field.size ≤ 1073741824) (hk : ∀ y ∈ key, PCall Tryz.prog 221 [.str y] (.bool (fnB y))) : PCall Tryz.prog 224 [.agg (Stp.c ⟨3, var, key, field, n, m⟩)] (.bool (fmS ⟨3, var, key, field, n, m⟩)) := by
  refine PCall.of h224 mixed h224_d Tryz.func224 rfl call224 (by simp [Tryz.f224]) (by simp [pureL, AV.pure, go_sem]) rfl ?_
  simp only [Tryz.f224, go_sem, ↓reduceIte, toList_beq, Int.reduceBEq, len0]
  repeat' (first
    | ((first | refine PCallK.intro (PCall.lend (p_sameStep ⟨3, var, key, field, n, m⟩ Stp.z)) ?_ | refine PCallK.intro (p_Plain _ hv) ?_ | refine PCallK.intro (p_named _ hf) ?_ | refine PCallK.intro (p_value _) ?_ | refine PCallK.intro (p_tick _) ?_ | refine PCallK.intro (p_everyStr _ hl _ _ fnB hk) ?_); simp only [go_sem, ↓reduceIte, toList_beq, Int.reduceBEq, len0])
    | ((first | refine condK_split _ _ _ (fun hc => ?_) (fun hc => ?_) | refine gsel_split _ _ _ _ (fun hc => ?_) (fun hc => ?_)) <;> simp only [go_sem, ↓reduceIte, hc, Bool.not_true, Bool.not_false, toList_beq, Int.reduceBEq, len0]))
  all_goals (unfold fmS; cases key <;> (simp_all [w16, tickB] <;> first | omega | grind | skip))

theorem p_fS4
(var field : ByteArray) (n m : Int) (key : List ByteArray) (hl : key.length ≤ 9223372036854775807) (hv : var.size ≤ 1073741824) (hf : field.size ≤ 1073741824) (hk : ∀ y ∈ key, PCall Tryz.prog 221 [.str y] (.bool (fnB y))) : PCall Tryz.prog 224 [.agg (Stp.c ⟨4, var, key, field, n, m⟩)] (.bool (fmS ⟨4, var, key, field, n, m⟩)) := by
  refine PCall.of h224 mixed h224_d Tryz.func224 rfl call224 (by simp [Tryz.f224]) (by simp [pureL, AV.pure, go_sem]) rfl ?_
  simp only [Tryz.f224, go_sem, ↓reduceIte, toList_beq, Int.reduceBEq, len0]
  repeat' (first
    | ((first | refine PCallK.intro (PCall.lend (p_sameStep ⟨4, var, key, field, n, m⟩ Stp.z)) ?_ | refine PCallK.intro (p_Plain _ hv) ?_ | refine PCallK.intro (p_named _ hf) ?_ | refine PCallK.intro (p_value _) ?_ | refine PCallK.intro (p_tick _) ?_ | refine PCallK.intro (p_everyStr _ hl _ _ fnB hk) ?_); simp only [go_sem, ↓reduceIte, toList_beq, Int.reduceBEq, len0])
    | ((first | refine condK_split _ _ _ (fun hc => ?_) (fun hc => ?_) | refine gsel_split _ _ _ _ (fun hc => ?_) (fun hc => ?_)) <;> simp only [go_sem, ↓reduceIte, hc, Bool.not_true, Bool.not_false, toList_beq, Int.reduceBEq, len0]))
  all_goals (unfold fmS; cases key <;> (simp_all [w16, tickB] <;> first | omega | grind | skip))

theorem p_fS5
(var field : ByteArray) (n m : Int) (key : List ByteArray) (hl : key.length ≤ 9223372036854775807) (hv : var.size ≤ 1073741824) (hf : field.size ≤ 1073741824) (hk : ∀ y ∈ key, PCall Tryz.prog 221 [.str y] (.bool (fnB y))) : PCall Tryz.prog 224 [.agg (Stp.c ⟨5, var, key, field, n, m⟩)] (.bool (fmS ⟨5, var, key, field, n, m⟩)) := by
  refine PCall.of h224 mixed h224_d Tryz.func224 rfl call224 (by simp [Tryz.f224]) (by simp [pureL, AV.pure, go_sem]) rfl ?_
  simp only [Tryz.f224, go_sem, ↓reduceIte, toList_beq, Int.reduceBEq, len0]
  repeat' (first
    | ((first | refine PCallK.intro (PCall.lend (p_sameStep ⟨5, var, key, field, n, m⟩ Stp.z)) ?_ | refine PCallK.intro (p_Plain _ hv) ?_ | refine PCallK.intro (p_named _ hf) ?_ | refine PCallK.intro (p_value _) ?_ | refine PCallK.intro (p_tick _) ?_ | refine PCallK.intro (p_everyStr _ hl _ _ fnB hk) ?_); simp only [go_sem, ↓reduceIte, toList_beq, Int.reduceBEq, len0])
    | ((first | refine condK_split _ _ _ (fun hc => ?_) (fun hc => ?_) | refine gsel_split _ _ _ _ (fun hc => ?_) (fun hc => ?_)) <;> simp only [go_sem, ↓reduceIte, hc, Bool.not_true, Bool.not_false, toList_beq, Int.reduceBEq, len0]))
  all_goals (unfold fmS; cases key <;> (simp_all [w16, tickB] <;> first | omega | grind | skip))

theorem p_fS6
(var field : ByteArray) (n m : Int) (key : List ByteArray) (hl : key.length ≤ 9223372036854775807) (hv : var.size ≤ 1073741824) (hf : field.size ≤ 1073741824) (hk : ∀ y ∈ key, PCall Tryz.prog 221 [.str y] (.bool (fnB y))) : PCall Tryz.prog 224 [.agg (Stp.c ⟨6, var, key, field, n, m⟩)] (.bool (fmS ⟨6, var, key, field, n, m⟩)) := by
  refine PCall.of h224 mixed h224_d Tryz.func224 rfl call224 (by simp [Tryz.f224]) (by simp [pureL, AV.pure, go_sem]) rfl ?_
  simp only [Tryz.f224, go_sem, ↓reduceIte, toList_beq, Int.reduceBEq, len0]
  repeat' (first
    | ((first | refine PCallK.intro (PCall.lend (p_sameStep ⟨6, var, key, field, n, m⟩ Stp.z)) ?_ | refine PCallK.intro (p_Plain _ hv) ?_ | refine PCallK.intro (p_named _ hf) ?_ | refine PCallK.intro (p_value _) ?_ | refine PCallK.intro (p_tick _) ?_ | refine PCallK.intro (p_everyStr _ hl _ _ fnB hk) ?_); simp only [go_sem, ↓reduceIte, toList_beq, Int.reduceBEq, len0])
    | ((first | refine condK_split _ _ _ (fun hc => ?_) (fun hc => ?_) | refine gsel_split _ _ _ _ (fun hc => ?_) (fun hc => ?_)) <;> simp only [go_sem, ↓reduceIte, hc, Bool.not_true, Bool.not_false, toList_beq, Int.reduceBEq, len0]))
  all_goals (unfold fmS; cases key <;> (simp_all [w16, tickB] <;> first | omega | grind | skip))

theorem p_fS0 (kind : Int) (h1 : kind ≠ 1) (h2 : kind ≠ 2) (h3 : kind ≠ 3) (h4 : kind ≠ 4) (h5 : kind ≠ 5) (h6 : kind ≠ 6)
    (var field : ByteArray) (n m : Int) (key : List ByteArray) (hl : key.length ≤ 9223372036854775807) (hv : var.size ≤ 1073741824) (hf : field.size ≤ 1073741824) (hk : ∀ y ∈ key, PCall Tryz.prog 221 [.str y] (.bool (fnB y))) : PCall Tryz.prog 224 [.agg (Stp.c ⟨kind, var, key, field, n, m⟩)] (.bool (fmS ⟨kind, var, key, field, n, m⟩)) := by
  refine PCall.of h224 mixed h224_d Tryz.func224 rfl call224 (by simp [Tryz.f224]) (by simp [pureL, AV.pure, go_sem]) rfl ?_
  simp only [Tryz.f224, go_sem, ↓reduceIte, toList_beq, len0, ieq_no h1, ieq_no h2, ieq_no h3, ieq_no h4, ieq_no h5, ieq_no h6]
  repeat' (first
    | ((first | refine PCallK.intro (PCall.lend (p_sameStep ⟨kind, var, key, field, n, m⟩ Stp.z)) ?_ | refine PCallK.intro (p_Plain _ hv) ?_ | refine PCallK.intro (p_named _ hf) ?_ | refine PCallK.intro (p_everyStr _ hl _ _ fnB hk) ?_); simp only [go_sem, ↓reduceIte, toList_beq, len0, ieq_no h1, ieq_no h2, ieq_no h3, ieq_no h4, ieq_no h5, ieq_no h6])
    | ((first | refine condK_split _ _ _ (fun hc => ?_) (fun hc => ?_) | refine gsel_split _ _ _ _ (fun hc => ?_) (fun hc => ?_)) <;> simp only [go_sem, ↓reduceIte, hc, Bool.not_true, Bool.not_false, toList_beq, len0, ieq_no h1, ieq_no h2, ieq_no h3, ieq_no h4, ieq_no h5, ieq_no h6]))
  all_goals (unfold fmS; cases key <;> (simp_all <;> first | omega | grind | skip))

theorem p_formedStep (x : Stp) (hb : bulkL x.c ≤ 1073741824) : PCall Tryz.prog 224 [.agg x.c] (.bool (fmS x)) := by
  have hl : x.key.length ≤ 9223372036854775807 := Nat.le_trans (lStr_bn (Stp.bl_key hb)) (by decide)
  have hv := Stp.bk_var hb
  have hf := Stp.bk_field hb
  have hk : ∀ y ∈ x.key, PCall Tryz.prog 221 [.str y] (.bool (fnB y)) := fun y hy => p_named y (by have := lStr_bk (Stp.bl_key hb) hy; simp only [AV.bulk] at this; omega)
  obtain ⟨kind, var, key, field, n, m⟩ := x
  by_cases h1 : kind = 1
  · subst h1; exact p_fS1 var field n m key hl hv hf hk
  by_cases h2 : kind = 2
  · subst h2; exact p_fS2 var field n m key hl hv hf hk
  by_cases h3 : kind = 3
  · subst h3; exact p_fS3 var field n m key hl hv hf hk
  by_cases h4 : kind = 4
  · subst h4; exact p_fS4 var field n m key hl hv hf hk
  by_cases h5 : kind = 5
  · subst h5; exact p_fS5 var field n m key hl hv hf hk
  by_cases h6 : kind = 6
  · subst h6; exact p_fS6 var field n m key hl hv hf hk
  exact p_fS0 kind h1 h2 h3 h4 h5 h6 var field n m key hl hv hf hk

end Go.AI

namespace Go.AI
open Go.Proofs
set_option maxRecDepth 50000

theorem get_bang (s : ByteArray) {i : Nat} (h : i < s.size) : s.get! i = (s.data[i]?).getD 0 := by
  have h2 : i < s.data.size := h
  show s.data[i]! = _
  rw [getElem!_pos s.data i h2, Array.getElem?_eq_getElem h2]; rfl

theorem decode_lo {s : ByteArray} {i : Nat} {c : UInt8} (hc : s.get! i = c) (h : c.toNat < 128) : Utf8.decode s i = (c.toNat, 1) := by
  unfold Utf8.decode
  simp only [Nat.add_zero, hc]
  rw [if_pos (by omega)]

theorem decode_hi {s : ByteArray} {i : Nat} {c : UInt8} (hc : s.get! i = c) (h : 128 ≤ c.toNat) : 128 ≤ (Utf8.decode s i).1 := by
  unfold Utf8.decode
  simp only [Nat.add_zero, hc]
  rw [if_neg (by omega)]
  repeat' split
  all_goals first | (show 128 ≤ 0xFFFD; decide) | (simp_all; done) | (simp_all; omega)

def oddR (r : Int) : Bool := (decide (r < 97) || decide (122 < r)) && ((decide (r < 48) || decide (57 < r)) && r != 95)
def oddI : Nat → List UInt8 → Int
  | _, [] => -1
  | i, c :: l => if wdB c then oddI (i + 1) l else (i : Int)

theorem oddR_byte (c : UInt8) : oddR c.toNat = !wdB c := by
  unfold oddR wdB loB dgB bz
  rw [Bool.eq_iff_iff]
  simp
  omega
theorem oddR_hi {r : Int} (h : 128 ≤ r) : oddR r = true := by
  unfold oddR
  simp
  omega
theorem wdB_hi {c : UInt8} (h : 128 ≤ c.toNat) : wdB c = false := by
  unfold wdB loB dgB bz
  simp
  omega

theorem p_odd (r : Int) : PCall Tryz.prog 191 [.int .i32 r] (.bool (oddR r)) := by
  refine PCall.of h191 mixed h191_d Tryz.func191 rfl call191 (by simp [Tryz.f191]) (by simp [pureL, AV.pure, go_sem]) rfl ?_
  simp only [Tryz.f191, go_sem, ↓reduceIte]
  repeat' (first
    | ((first | refine condK_split _ _ _ (fun hc => ?_) (fun hc => ?_) | refine gsel_split _ _ _ _ (fun hc => ?_) (fun hc => ?_)) <;> simp only [go_sem, ↓reduceIte, hc, Bool.not_true, Bool.not_false]))
  all_goals (unfold oddR; grind)

@[go_sem] theorem borrow_it (o : Nat) : (AV.it o).borrow = .it o := rfl

theorem nxtK_yes {d : Tmp} {K : Kt} {e : Env} {H : Heap} {o : Nat} {s : ByteArray} {k : Nat} (h : H[o]? = some (some (iterS s k))) (hk : k < s.size)
    (hK : K ((d, .tup [.bool true, .int .i64 k, .int .i32 (Utf8.decode s k).1]) :: e) (H.set o (some (iterS s ((k + (Utf8.decode s k).2 : Nat) : Int))))) : nxtK true (.it o) d K e H := by
  unfold nxtK
  dsimp only
  unfold anext
  rw [h]
  dsimp only [iterS]
  rw [if_pos (by simpa using hk)]
  exact hK
theorem nxtK_no {d : Tmp} {K : Kt} {e : Env} {H : Heap} {o : Nat} {s : ByteArray} {k : Nat} (h : H[o]? = some (some (iterS s k))) (hk : ¬ k < s.size)
    (hK : K ((d, .tup [.bool false]) :: e) H) : nxtK true (.it o) d K e H := by
  unfold nxtK
  dsimp only
  unfold anext
  rw [h]
  dsimp only [iterS]
  rw [if_neg (by simpa using hk)]
  exact hK

theorem p_indexFunc (s : ByteArray) (hs : s.size ≤ 1073741824) : PCall Tryz.prog 281 [.str s, .fn (.func 191) [] [], .bool true] (.int .i64 (oddI 0 s.data.toList)) := by
  refine PCall.of h281 mixed h281_d Tryz.func281 rfl call281 (by simp [Tryz.f281]) (by simp [pureL, AV.pure, go_sem]) rfl ?_
  simp only [Tryz.f281, go_sem, ↓reduceIte, rngK, arange]
  refine awp_wh (σ := Nat × Option Nat) (fun q => match q.2 with
      | none => [(1, .fn (.func 191) [] []), (2, .bool true), (10, .it 0)]
      | some i => [(1, .fn (.func 191) [] []), (2, .bool true), (7, .int .i64 i), (10, .it 0), (19, .bool false)]) (fun q => [some (iterS s q.1)]) (fun q => q.1 ≤ s.size ∧ oddI 0 s.data.toList = oddI q.1 (s.data.toList.drop q.1)) (fun q => s.size - q.1) (0, none) ⟨Nat.zero_le _, rfl⟩ rfl rfl ?_
  rintro ⟨k, x⟩ ⟨hk, hI⟩
  dsimp only at hk hI ⊢
  by_cases hlt : k < s.size
  · obtain ⟨c, r, hcr⟩ : ∃ c r, s.data.toList.drop k = c :: r := ⟨_, _, List.drop_eq_getElem_cons (by rw [blen]; exact hlt)⟩
    have hr : s.data.toList.drop (k + 1) = r := by rw [← List.drop_drop, hcr]; rfl
    have hc0 : s.get! k = c := by
      have h0 : (s.data.toList.drop k)[0]? = some c := by rw [hcr]; rfl
      rw [List.getElem?_drop, Nat.add_zero, Array.getElem?_toList] at h0
      rw [get_bang s hlt, h0]; rfl
    rw [hcr, oddI] at hI
    by_cases hlo : c.toNat < 128
    · cases x
      all_goals
        simp only [go_sem, ↓reduceIte]
        refine nxtK_yes rfl hlt ?_
        simp only [go_sem, ↓reduceIte, decode_lo hc0 hlo]
        repeat' (first
          | ((first | refine ACallK.ofP (p_odd _) ?_); simp only [go_sem, ↓reduceIte, oddR_byte])
          | ((first | refine condK_split _ _ _ (fun hc => ?_) (fun hc => ?_) | refine gsel_split _ _ _ _ (fun hc => ?_) (fun hc => ?_)) <;> simp only [go_sem, ↓reduceIte, hc, Bool.not_true, Bool.not_false, oddR_byte]))
        · rw [hI, if_neg (by simpa using hc)]
        · exact ⟨(k + 1, some k), ⟨by dsimp only; omega, by dsimp only; rw [hI, if_pos (by simpa using hc), hr]⟩, by dsimp only; omega, rfl, rfl⟩
    · have hd := decode_hi hc0 (by omega)
      have ho : oddR ((Utf8.decode s k).1 : Int) = true := oddR_hi (by omega)
      have hw : wdB c = false := wdB_hi (by omega)
      cases x
      all_goals
        simp only [go_sem, ↓reduceIte]
        refine nxtK_yes rfl hlt ?_
        simp only [go_sem, ↓reduceIte]
        repeat' (first
          | ((first | refine ACallK.ofP (p_odd _) ?_); simp only [go_sem, ↓reduceIte, ho])
          | ((first | refine condK_split _ _ _ (fun hc => ?_) (fun hc => ?_) | refine gsel_split _ _ _ _ (fun hc => ?_) (fun hc => ?_)) <;> simp only [go_sem, ↓reduceIte, hc, Bool.not_true, Bool.not_false, ho]))
        all_goals first
          | exact absurd hc (by decide)
          | rw [hI, if_neg (by rw [hw]; decide)]
          | skip
  · have hk2 : k = s.size := by omega
    cases x
    all_goals
      simp only [go_sem, ↓reduceIte]
      refine nxtK_no rfl hlt ?_
      simp only [go_sem, ↓reduceIte]
      rw [hk2, ← blen, List.drop_length] at hI
      rw [hI]; rfl

theorem oddI_any : ∀ (l : List UInt8) (i : Nat), decide (0 ≤ oddI i l) = !(l.all wdB)
  | [], i => rfl
  | c :: l, i => by
    rw [oddI, List.all_cons]
    cases h : wdB c with
    | true => simp [oddI_any l (i + 1)]
    | false => simp

theorem p_sContains (s : ByteArray) (hs : s.size ≤ 1073741824) : PCall Tryz.prog 192 [.str s, .fn (.func 191) [] []] (.bool !(s.data.toList.all wdB)) := by
  have h1 : PCall Tryz.prog 243 [.str s, .fn (.func 191) [] []] (.int .i64 (oddI 0 s.data.toList)) := by
    refine PCall.of h243 mixed h243_d Tryz.func243 rfl call243 (by simp [Tryz.f243]) (by simp [pureL, AV.pure, go_sem]) rfl ?_
    simp only [Tryz.f243, go_sem, ↓reduceIte]
    repeat' (first
      | ((first | refine PCallK.intro (p_indexFunc s hs) ?_); simp only [go_sem, ↓reduceIte])
      | ((first | refine condK_split _ _ _ (fun hc => ?_) (fun hc => ?_) | refine gsel_split _ _ _ _ (fun hc => ?_) (fun hc => ?_)) <;> simp only [go_sem, ↓reduceIte, hc, Bool.not_true, Bool.not_false]))
  refine PCall.of h192 mixed h192_d Tryz.func192 rfl call192 (by simp [Tryz.f192]) (by simp [pureL, AV.pure, go_sem]) rfl ?_
  simp only [Tryz.f192, go_sem, ↓reduceIte]
  repeat' (first
    | ((first | refine ACallK.ofP (h1) ?_ | refine PCallK.intro (h1) ?_); simp only [go_sem, ↓reduceIte])
    | ((first | refine condK_split _ _ _ (fun hc => ?_) (fun hc => ?_) | refine gsel_split _ _ _ _ (fun hc => ?_) (fun hc => ?_)) <;> simp only [go_sem, ↓reduceIte, hc, Bool.not_true, Bool.not_false]))
  all_goals rw [oddI_any]

theorem nmGo_all : ∀ (l : List UInt8) (i : Nat), i ≠ 0 → nmGo i l = l.all wdB
  | [], _, _ => by rw [nmGo]; rfl
  | c :: l, i, h => by
    rw [nmGo, List.all_cons, nmGo_all l (i + 1) (by omega)]
    have : (i != 0) = true := by simpa using h
    rw [this, Bool.and_true, wdB, Bool.or_assoc]

theorem p_fName (s : ByteArray) (hs : s.size ≤ 1073741824) : PCall Tryz.prog 122 [.str s] (.bool (nmB s)) := by
  refine PCall.of h122 mixed h122_d Tryz.func122 rfl call122 (by simp [Tryz.f122]) (by simp [pureL, AV.pure, go_sem]) rfl ?_
  by_cases hz : s = ⟨#[]⟩
  · subst hz
    simp only [Tryz.f122, go_sem, ↓reduceIte, toList_beq, decide_true]
    rfl
  · have h0 : (0 : Int) < (s.size : Int) := by
      have : s.size ≠ 0 := fun h => hz (ByteArray.size_eq_zero_iff.1 h)
      omega
    obtain ⟨x, xs, hx2⟩ : ∃ x xs, s.data.toList = x :: xs := by
      cases h : s.data.toList with
      | nil => rw [← blen, h] at h0; simp at h0
      | cons x xs => exact ⟨x, xs, rfl⟩
    have hx0 : (s.data[0]?).getD 0 = x := by rw [← Array.getElem?_toList, hx2]; rfl
    simp only [Tryz.f122, go_sem, ↓reduceIte, toList_beq, hz, decide_false, h0, hx0]
    repeat' (first
      | ((first | refine PCallK.intro (p_sContains s hs) ?_); simp only [go_sem, ↓reduceIte, toList_beq, hz, decide_false, h0, hx0])
      | ((first | refine condK_split _ _ _ (fun hc => ?_) (fun hc => ?_) | refine gsel_split _ _ _ _ (fun hc => ?_) (fun hc => ?_)) <;> simp only [go_sem, ↓reduceIte, hc, Bool.not_true, Bool.not_false, toList_beq, hz, decide_false, h0, hx0]))
    all_goals
      simp only [nmB, hx2, nmGo, nmGo_all xs 1 (by decide), List.all_cons]
      have g1 : decide ((1 : Int) ≤ (s.size : Int)) = true := by simp; omega
      first
        | grind [loB, wdB, bz]
        | (simp_all [loB, wdB, bz]; done)
        | (simp_all [loB, wdB, bz]; grind)
        | skip

end Go.AI

namespace Go.AI
open Go.Proofs
set_option maxRecDepth 50000

theorem p_CheckStep (x : Stp) (hb : bulkL x.c ≤ 1073741824) : PCall Tryz.prog 158 [.agg x.c] (.int .i64 (ckS x)) := by
  refine PCall.of h158 mixed h158_d Tryz.func158 rfl call158 (by simp [Tryz.f158]) (by simp [pureL, AV.pure, go_sem]) rfl ?_
  simp only [Tryz.f158, go_sem, ↓reduceIte]
  repeat' (first
    | ((first | refine PCallK.intro (p_formedStep _ hb) ?_); simp only [go_sem, ↓reduceIte])
    | ((first | refine condK_split _ _ _ (fun hc => ?_) (fun hc => ?_) | refine gsel_split _ _ _ _ (fun hc => ?_) (fun hc => ?_)) <;> simp only [go_sem, ↓reduceIte, hc, Bool.not_true, Bool.not_false]))
  all_goals (unfold ckS; simp_all)

theorem p_CheckProgram (l : List Stage) (hb : bulkL (lStage l) ≤ 1073741824) : PCall Tryz.prog 87 [.sl none (lStage l)] (.int .i64 (ckG l)) := by
  have hn := lStage_bn hb
  refine PCall.of h87 mixed h87_d Tryz.func87 rfl call87 (by simp [Tryz.f87]) (by simp [pureL, AV.pure, go_sem]) rfl ?_
  simp only [Tryz.f87, go_sem, ↓reduceIte]
  repeat' (first
    | ((first | refine condK_split _ _ _ (fun hc => ?_) (fun hc => ?_) | refine gsel_split _ _ _ _ (fun hc => ?_) (fun hc => ?_)) <;> simp only [go_sem, ↓reduceIte, hc, Bool.not_true, Bool.not_false]))
  · unfold ckG; rw [if_pos (by have := of_decide_eq_true hc; omega)]
  · have hg : ckG l = ckGo l := by unfold ckG; rw [if_neg (by have := of_decide_eq_false hc; omega)]
    refine awp_all l (fun r => ckGo r) (fun k => [(10, .sl none (lStage l)), (11, .int .i64 l.length), (12, .int .i64 k)]) (by omega) rfl ?_ ?_
    · intro k x xs hd hx hF h0 h1 hw
      have hbx : bulkL x.c ≤ 1073741824 := by have := lStage_bk hb (List.mem_of_getElem? hx); simpa only [AV.bulk] using this
      simp only [go_sem, ↓reduceIte, h0, h1, lStage_get hx]
      repeat' (first
        | ((first | refine PCallK.intro (p_CheckPolicy _ (Stage.bs_policy hbx)) ?_ | refine PCallK.intro (p_CheckStep _ (Stage.bs_step hbx)) ?_); simp only [go_sem, ↓reduceIte, h0, h1, hw, lStage_get hx])
        | ((first | refine condK_split _ _ _ (fun hc => ?_) (fun hc => ?_) | refine gsel_split _ _ _ _ (fun hc => ?_) (fun hc => ?_)) <;> simp only [go_sem, ↓reduceIte, hc, Bool.not_true, Bool.not_false, h0, h1, hw, lStage_get hx]))
      · rw [hg, hF, ckGo, if_neg (by simpa using hc)]
      · have h5 : ckO x.policy = 0 := by rename_i h5; simpa using h5
        rw [hg, hF, ckGo, if_pos h5, if_neg (by simpa using hc)]
      · have h5 : ckO x.policy = 0 := by rename_i h5; simpa using h5
        rw [ckGo, if_pos h5, if_pos (by simpa using hc)]
    · intro hF hlt
      simp only [go_sem, ↓reduceIte, hlt, decide_false]
      rw [hg, hF]; rfl

theorem p_CkP1 {H : Heap} (x : Pred) (hb : bulkL x.c ≤ 1073741824) (o : Nat) (ho : H[o]? = some (some x.c)) : SCall Tryz.prog 200 [.ptr o 0] H (.bool (fmP x)) := by
  refine ACall.drop rfl ?_
  refine ACall.of h200 rfl mixed h200_d Tryz.func200 rfl call200 (by simp [Tryz.f200]) ?_
  simp only [Tryz.f200, go_sem, ↓reduceIte, ho]
  repeat' (first
    | ((first | refine PCallK.intro (p_formedPred _ hb) ?_); simp only [go_sem, ↓reduceIte, ho])
    | ((first | refine condK_split _ _ _ (fun hc => ?_) (fun hc => ?_) | refine gsel_split _ _ _ _ (fun hc => ?_) (fun hc => ?_)) <;> simp only [go_sem, ↓reduceIte, hc, Bool.not_true, Bool.not_false, ho]))

theorem p_CheckPred (x : Pred) (hb : bulkL x.c ≤ 1073741824) : PCall Tryz.prog 135 [.agg x.c] (.int .i64 (ckP x)) := by
  refine PCall.of h135 mixed h135_d Tryz.func135 rfl call135 (by simp [Tryz.f135]) (by simp [pureL, AV.pure, go_sem]) rfl ?_
  simp only [Tryz.f135, go_sem, ↓reduceIte]
  repeat' (first
    | ((first | refine PCallK.intro (p_sizePred _) ?_ | refine ACallK.ofS (p_check (szP x) 200 [.ptr 0 0] (fmP x) (p_CkP1 x hb 0 rfl)) ?_); simp only [go_sem, ↓reduceIte])
    | ((first | refine condK_split _ _ _ (fun hc => ?_) (fun hc => ?_) | refine gsel_split _ _ _ _ (fun hc => ?_) (fun hc => ?_)) <;> simp only [go_sem, ↓reduceIte, hc, Bool.not_true, Bool.not_false]))
  all_goals rfl

theorem p_sizeRegex : ∀ x : Regex, PCall Tryz.prog 137 [.agg x.c] (.agg (szR x).c) := by
  refine Regex.ind _ fun x ih => ?_
  refine PCall.fit call137 fun hf => ?_
  have hl := Regex.fit_args (pfit1 hf)
  refine PCall.ofB h137 mixed h137_d Tryz.func137 rfl call137 (by simp [Tryz.f137]) (by simp [pureL, AV.pure, go_sem]) (by simp [pureL, AV.pure, go_sem]) ?_
  simp only [Tryz.f137, go_sem, ↓reduceIte]
  repeat' (first
    | ((first | refine PCallK.intro (p_allRegex _ hl (fun y hy => ih y hy)) ?_); simp only [go_sem, ↓reduceIte])
    | ((first | refine condK_split _ _ _ (fun hc => ?_) (fun hc => ?_) | refine gsel_split _ _ _ _ (fun hc => ?_) (fun hc => ?_)) <;> simp only [go_sem, ↓reduceIte, hc, Bool.not_true, Bool.not_false]))
  rw [szR_eq]

theorem fmRs_all : ∀ l : List Regex, fmRs l = l.all fmR
  | [] => by rw [fmRs_nil]; rfl
  | x :: l => by rw [fmRs_cons, List.all_cons, fmRs_all l]

theorem p_formedRegex : ∀ x : Regex, bulkL x.c ≤ 1073741824 → PCall Tryz.prog 140 [.agg x.c] (.bool (fmR x)) := by
  refine Regex.ind _ fun x ih => fun hb => ?_
  have hl : x.args.length ≤ 9223372036854775807 := Nat.le_trans (lRegex_bn (Regex.bl_args hb)) (by decide)
  have hfs := Regex.bk_node hb
  have hev : ∀ y ∈ x.args, PCall Tryz.prog 140 [.agg y.c] (.bool (fmR y)) := fun y hm =>
    ih y hm (by have := lRegex_bk (Regex.bl_args hb) hm; simpa only [AV.bulk] using this)
  refine PCall.of h140 mixed h140_d Tryz.func140 rfl call140 (by simp [Tryz.f140]) (by simp [pureL, AV.pure, go_sem]) rfl ?_
  simp only [Tryz.f140, go_sem, ↓reduceIte, toList_beq, len0]
  repeat' (first
    | ((first | refine PCallK.intro (p_Plain _ hfs) ?_ | refine PCallK.intro (p_everyRegex _ hl _ _ fmR hev) ?_); simp only [go_sem, ↓reduceIte, toList_beq, len0])
    | ((first | refine condK_split _ _ _ (fun hc => ?_) (fun hc => ?_) | refine gsel_split _ _ _ _ (fun hc => ?_) (fun hc => ?_)) <;> simp only [go_sem, ↓reduceIte, hc, Bool.not_true, Bool.not_false, toList_beq, len0]))
  all_goals (rw [fmR_eq]; simp_all [okR, fmRs_all] <;> first | omega | grind | skip)

theorem p_CkR1 {H : Heap} (x : Regex) (hb : bulkL x.c ≤ 1073741824) (o : Nat) (ho : H[o]? = some (some x.c)) : SCall Tryz.prog 139 [.ptr o 0] H (.bool (fmR x)) := by
  refine ACall.drop rfl ?_
  refine ACall.of h139 rfl mixed h139_d Tryz.func139 rfl call139 (by simp [Tryz.f139]) ?_
  simp only [Tryz.f139, go_sem, ↓reduceIte, ho]
  repeat' (first
    | ((first | refine PCallK.intro (p_formedRegex _ hb) ?_); simp only [go_sem, ↓reduceIte, ho])
    | ((first | refine condK_split _ _ _ (fun hc => ?_) (fun hc => ?_) | refine gsel_split _ _ _ _ (fun hc => ?_) (fun hc => ?_)) <;> simp only [go_sem, ↓reduceIte, hc, Bool.not_true, Bool.not_false, ho]))

theorem p_CheckRegex (x : Regex) (hb : bulkL x.c ≤ 1073741824) : PCall Tryz.prog 59 [.agg x.c] (.int .i64 (ckR x)) := by
  refine PCall.of h59 mixed h59_d Tryz.func59 rfl call59 (by simp [Tryz.f59]) (by simp [pureL, AV.pure, go_sem]) rfl ?_
  simp only [Tryz.f59, go_sem, ↓reduceIte]
  repeat' (first
    | ((first | refine PCallK.intro (p_sizeRegex _) ?_ | refine ACallK.ofS (p_check (szR x) 139 [.ptr 0 0] (fmR x) (p_CkR1 x hb 0 rfl)) ?_); simp only [go_sem, ↓reduceIte])
    | ((first | refine condK_split _ _ _ (fun hc => ?_) (fun hc => ?_) | refine gsel_split _ _ _ _ (fun hc => ?_) (fun hc => ?_)) <;> simp only [go_sem, ↓reduceIte, hc, Bool.not_true, Bool.not_false]))
  all_goals rfl

end Go.AI

namespace Go.AI
open Go.Proofs
set_option maxRecDepth 50000

@[go_sem] theorem pset_end (H : Heap) (x y : Option (List AV)) : (H ++ [x]).set H.length y = H ++ [y] := by simp

/-- The first n objects are as Pre says, then come g and whatever else. -/
def Iv (Pre : Nat → Heap → Prop) (n : Nat) (g : Heap) (k : Nat) (H : Heap) : Prop := ∃ pre g', H = pre ++ (g ++ g') ∧ pre.length = n ∧ Pre k pre

theorem Iv.grow {Pre : Nat → Heap → Prop} {n k : Nat} {g H : Heap} (h : Iv Pre n g k H) (x : Heap) : Iv Pre n g k (H ++ x) := by
  obtain ⟨pre, g', rfl, h1, h2⟩ := h
  exact ⟨pre, g' ++ x, by simp, h1, h2⟩
theorem Iv.at {Pre : Nat → Heap → Prop} {n k i : Nat} {g H : Heap} (h : Iv Pre n g k H) {c : Option (List AV)} (hi : g[i]? = some c) : H[n + i]? = some c := by
  obtain ⟨pre, g', rfl, h1, h2⟩ := h
  have hlt := (List.getElem?_eq_some_iff.1 hi).1
  rw [List.getElem?_append_right (by omega), h1, Nat.add_sub_cancel_left, List.getElem?_append_left hlt, hi]
theorem Iv.atG {Pre : Nat → Heap → Prop} {n k i : Nat} {g H x : Heap} (h : Iv Pre n g k H) {c : Option (List AV)} (hi : g[i]? = some c) : (H ++ x)[n + i]? = some c := (h.grow x).at hi
theorem Iv.of {Pre : Nat → Heap → Prop} {n k : Nat} {g g2 H : Heap} (h : Iv Pre n (g ++ g2) k H) : Iv Pre n g k H := by
  obtain ⟨pre, g', rfl, h1, h2⟩ := h
  exact ⟨pre, g2 ++ g', by simp, h1, h2⟩

theorem mem_ptsPs {x y : Pred} : ∀ {l : List Pred}, x ∈ l → y ∈ ptsP x → y ∈ ptsPs l
  | z :: l, hx, hy => by
    rw [ptsPs_cons]
    rcases List.mem_cons.1 hx with rfl | hx
    · exact List.mem_append_left _ hy
    · exact List.mem_append_right _ (mem_ptsPs hx hy)

theorem p_testsW (o a w n : Nat) (L : LoopRec) (Pre : Nat → Heap → Prop) (Qp : Heap → Prop) (l : List Pred)
    (round : ∀ g k y H, l[k]? = some y → Iv Pre n g k H → YCall Tryz.prog o L [.agg (Pred.c y)] H fun v H' => (v = .bool true ∧ Iv Pre n g (k + 1) H') ∨ (v = .bool false ∧ Iv (fun _ => Qp) n g 0 H')) :
    ∀ (x : Pred) (k : Nat) (H : Heap) (g : Heap) (rest : List Pred), g[a]? = some (some [.yld o L]) → g[w]? = some (some [.fn (.func 251) [] [.ptr (n + a) 0, .ptr (n + w) 0]]) → (∀ y ∈ ptsP x, y.args.length ≤ 9223372036854775807) → l.drop k = ptsP x ++ rest → Iv Pre n g k H →
      ACall Tryz.prog 251 [.agg x.c, .ptr (n + a) 0, .ptr (n + w) 0] H fun v H' => (v = .bool true ∧ Iv Pre n g (k + (ptsP x).length) H') ∨ (v = .bool false ∧ Iv (fun _ => Qp) n g 0 H') := by
  refine Pred.ind _ fun x ih => fun k H g rest ha hw hal hd hI => ?_
  have hl := hal x (by rw [ptsP_eq]; simp)
  have hk0 : l[k]? = some x := by
    have := congrArg (·[0]?) hd
    rw [ptsP_eq] at this
    simpa using this
  obtain ⟨pre, g', rfl, hn, hP⟩ := hI
  have hlen : (pre ++ (g ++ g')).length = n + (g ++ g').length := by simp; omega
  have hG : pre ++ (g ++ g') ++ [some x.c] = pre ++ ((g ++ g' ++ [some x.c]) ++ []) := by simp
  have hI1 : Iv Pre n (g ++ g' ++ [some x.c]) k (pre ++ (g ++ g') ++ [some x.c]) := ⟨pre, [], hG, hn, hP⟩
  have haG : (g ++ g' ++ [some x.c])[a]? = some (some [.yld o L]) := by
    have := (List.getElem?_eq_some_iff.1 ha).1
    rw [List.append_assoc, List.getElem?_append_left this]; exact ha
  have hwG : (g ++ g' ++ [some x.c])[w]? = some (some [.fn (.func 251) [] [.ptr (n + a) 0, .ptr (n + w) 0]]) := by
    have := (List.getElem?_eq_some_iff.1 hw).1
    rw [List.append_assoc, List.getElem?_append_left this]; exact hw
  have hxG : (g ++ g' ++ [some x.c])[(g ++ g').length]? = some (some x.c) := by simp
  have hdown : ∀ {Q : Nat → Heap → Prop} {k : Nat} {H : Heap}, Iv Q n (g ++ g' ++ [some x.c]) k H → Iv Q n g k H := fun h => by
    rw [List.append_assoc] at h; exact h.of
  refine ACall.of h251 rfl mixed h251_d Tryz.func251 rfl call251 (by simp [Tryz.f251]) ?_
  have h1 := hI1.at haG
  have h1x := hI1.at hxG
  have hr := round _ k x _ hk0 hI1
  generalize hGd : g ++ g' ++ [some x.c] = G at *
  generalize hH1 : pre ++ (g ++ g') ++ [some x.c] = H1 at *
  simp only [Tryz.f251, go_sem, ↓reduceIte, hlen, hH1, h1, h1x]
  refine YCallK.intro hr fun v H' hr => ?_
  rcases hr with ⟨rfl, hi⟩ | ⟨rfl, hq⟩
  · have h2 := hi.at hxG
    simp only [go_sem, ↓reduceIte, Bool.not_true, h2]
    refine awp_lst x.args (fun (_ : Heap × Nat) (_ : List Pred) => ()) (fun i q => Iv Pre n G q.2 q.1 ∧ q.2 + (ptsPs (x.args.drop i)).length = k + (ptsP x).length ∧ l.drop q.2 = ptsPs (x.args.drop i) ++ rest) (fun i q => [(2, .ptr (n + w) 0), (12, .sl none (lPred x.args)), (13, .int .i64 x.args.length), (14, .int .i64 i)]) (fun i q => q.1) (H', k + 1) hl ⟨hi, ?_, ?_⟩ rfl rfl ?_ ?_
    · rw [List.drop_zero, ptsP_eq, List.length_cons]; dsimp only; omega
    · rw [List.drop_zero, ← List.drop_drop, hd, ptsP_eq]; rfl
    · rintro i ⟨H2, k2⟩ y ys hdi hy ⟨hi2, hk2, hl2⟩ _ h0 h1 hwr
      have hm := List.mem_of_getElem? hy
      dsimp only at hi2 hk2 hl2 ⊢
      rw [hdi, ptsPs_cons] at hk2 hl2
      have hdi2 : x.args.drop (i + 1) = ys := by rw [← List.drop_drop, hdi]; rfl
      have h3 := hi2.atG (x := [some y.c]) hwG
      simp only [go_sem, ↓reduceIte, h0, h1, lPred_get hy, h3]
      refine ACallK.intro (ih y hm k2 (H2 ++ [some y.c]) G (ptsPs ys ++ rest) haG hwG (fun z hz => hal z ?_) (by rw [hl2, List.append_assoc]) (hi2.grow _)) fun v H3 hr3 => ?_
      · rw [ptsP_eq]; exact List.mem_cons_of_mem _ (mem_ptsPs hm hz)
      rcases hr3 with ⟨rfl, hi3⟩ | ⟨rfl, hq3⟩
      · simp only [go_sem, ↓reduceIte, Bool.not_true, hwr]
        refine ⟨(H3, k2 + (ptsP y).length), ⟨hi3, ?_, ?_⟩, rfl, rfl⟩
        · dsimp only; rw [hdi2]; rw [List.length_append] at hk2; omega
        · dsimp only; rw [hdi2, ← List.drop_drop, hl2, List.append_assoc, List.drop_left]
      · simp only [go_sem, ↓reduceIte, Bool.not_false]
        exact .inr (hdown hq3)
    · rintro ⟨H2, k2⟩ ⟨hi2, hk2, hl2⟩ _
      dsimp only at hi2 hk2 hl2 ⊢
      rw [List.drop_length, ptsPs_nil, List.length_nil, Nat.add_zero] at hk2
      subst hk2
      simp only [go_sem, ↓reduceIte, Int.lt_irrefl, decide_false]
      exact .inl (hdown hi2)
  · simp only [go_sem, ↓reduceIte, Bool.not_false]
    exact .inr (hdown hq)

theorem mem_ptsOs {x y : Policy} : ∀ {l : List Policy}, x ∈ l → y ∈ ptsO x → y ∈ ptsOs l
  | z :: l, hx, hy => by
    rw [ptsOs_cons]
    rcases List.mem_cons.1 hx with rfl | hx
    · exact List.mem_append_left _ hy
    · exact List.mem_append_right _ (mem_ptsOs hx hy)

theorem p_partsW (o a w n : Nat) (L : LoopRec) (Pre : Nat → Heap → Prop) (Qp : Heap → Prop) (l : List Policy)
    (round : ∀ g k y H, l[k]? = some y → Iv Pre n g k H → YCall Tryz.prog o L [.agg (Policy.c y)] H fun v H' => (v = .bool true ∧ Iv Pre n g (k + 1) H') ∨ (v = .bool false ∧ Iv (fun _ => Qp) n g 0 H')) :
    ∀ (x : Policy) (k : Nat) (H : Heap) (g : Heap) (rest : List Policy), g[a]? = some (some [.yld o L]) → g[w]? = some (some [.fn (.func 226) [] [.ptr (n + a) 0, .ptr (n + w) 0]]) → (∀ y ∈ ptsO x, y.args.length ≤ 9223372036854775807) → l.drop k = ptsO x ++ rest → Iv Pre n g k H →
      ACall Tryz.prog 226 [.agg x.c, .ptr (n + a) 0, .ptr (n + w) 0] H fun v H' => (v = .bool true ∧ Iv Pre n g (k + (ptsO x).length) H') ∨ (v = .bool false ∧ Iv (fun _ => Qp) n g 0 H') := by
  refine Policy.ind _ fun x ih => fun k H g rest ha hw hal hd hI => ?_
  have hl := hal x (by rw [ptsO_eq]; simp)
  have hk0 : l[k]? = some x := by
    have := congrArg (·[0]?) hd
    rw [ptsO_eq] at this
    simpa using this
  obtain ⟨pre, g', rfl, hn, hP⟩ := hI
  have hlen : (pre ++ (g ++ g')).length = n + (g ++ g').length := by simp; omega
  have hG : pre ++ (g ++ g') ++ [some x.c] = pre ++ ((g ++ g' ++ [some x.c]) ++ []) := by simp
  have hI1 : Iv Pre n (g ++ g' ++ [some x.c]) k (pre ++ (g ++ g') ++ [some x.c]) := ⟨pre, [], hG, hn, hP⟩
  have haG : (g ++ g' ++ [some x.c])[a]? = some (some [.yld o L]) := by
    have := (List.getElem?_eq_some_iff.1 ha).1
    rw [List.append_assoc, List.getElem?_append_left this]; exact ha
  have hwG : (g ++ g' ++ [some x.c])[w]? = some (some [.fn (.func 226) [] [.ptr (n + a) 0, .ptr (n + w) 0]]) := by
    have := (List.getElem?_eq_some_iff.1 hw).1
    rw [List.append_assoc, List.getElem?_append_left this]; exact hw
  have hxG : (g ++ g' ++ [some x.c])[(g ++ g').length]? = some (some x.c) := by simp
  have hdown : ∀ {Q : Nat → Heap → Prop} {k : Nat} {H : Heap}, Iv Q n (g ++ g' ++ [some x.c]) k H → Iv Q n g k H := fun h => by
    rw [List.append_assoc] at h; exact h.of
  refine ACall.of h226 rfl mixed h226_d Tryz.func226 rfl call226 (by simp [Tryz.f226]) ?_
  have h1 := hI1.at haG
  have h1x := hI1.at hxG
  have hr := round _ k x _ hk0 hI1
  generalize hGd : g ++ g' ++ [some x.c] = G at *
  generalize hH1 : pre ++ (g ++ g') ++ [some x.c] = H1 at *
  simp only [Tryz.f226, go_sem, ↓reduceIte, hlen, hH1, h1, h1x]
  refine YCallK.intro hr fun v H' hr => ?_
  rcases hr with ⟨rfl, hi⟩ | ⟨rfl, hq⟩
  · have h2 := hi.at hxG
    simp only [go_sem, ↓reduceIte, Bool.not_true, h2]
    refine awp_lst x.args (fun (_ : Heap × Nat) (_ : List Policy) => ()) (fun i q => Iv Pre n G q.2 q.1 ∧ q.2 + (ptsOs (x.args.drop i)).length = k + (ptsO x).length ∧ l.drop q.2 = ptsOs (x.args.drop i) ++ rest) (fun i q => [(2, .ptr (n + w) 0), (12, .sl none (lPolicy x.args)), (13, .int .i64 x.args.length), (14, .int .i64 i)]) (fun i q => q.1) (H', k + 1) hl ⟨hi, ?_, ?_⟩ rfl rfl ?_ ?_
    · rw [List.drop_zero, ptsO_eq, List.length_cons]; dsimp only; omega
    · rw [List.drop_zero, ← List.drop_drop, hd, ptsO_eq]; rfl
    · rintro i ⟨H2, k2⟩ y ys hdi hy ⟨hi2, hk2, hl2⟩ _ h0 h1 hwr
      have hm := List.mem_of_getElem? hy
      dsimp only at hi2 hk2 hl2 ⊢
      rw [hdi, ptsOs_cons] at hk2 hl2
      have hdi2 : x.args.drop (i + 1) = ys := by rw [← List.drop_drop, hdi]; rfl
      have h3 := hi2.atG (x := [some y.c]) hwG
      simp only [go_sem, ↓reduceIte, h0, h1, lPolicy_get hy, h3]
      refine ACallK.intro (ih y hm k2 (H2 ++ [some y.c]) G (ptsOs ys ++ rest) haG hwG (fun z hz => hal z ?_) (by rw [hl2, List.append_assoc]) (hi2.grow _)) fun v H3 hr3 => ?_
      · rw [ptsO_eq]; exact List.mem_cons_of_mem _ (mem_ptsOs hm hz)
      rcases hr3 with ⟨rfl, hi3⟩ | ⟨rfl, hq3⟩
      · simp only [go_sem, ↓reduceIte, Bool.not_true, hwr]
        refine ⟨(H3, k2 + (ptsO y).length), ⟨hi3, ?_, ?_⟩, rfl, rfl⟩
        · dsimp only; rw [hdi2]; rw [List.length_append] at hk2; omega
        · dsimp only; rw [hdi2, ← List.drop_drop, hl2, List.append_assoc, List.drop_left]
      · simp only [go_sem, ↓reduceIte, Bool.not_false]
        exact .inr (hdown hq3)
    · rintro ⟨H2, k2⟩ ⟨hi2, hk2, hl2⟩ _
      dsimp only at hi2 hk2 hl2 ⊢
      rw [List.drop_length, ptsOs_nil, List.length_nil, Nat.add_zero] at hk2
      subst hk2
      simp only [go_sem, ↓reduceIte, Int.lt_irrefl, decide_false]
      exact .inl (hdown hi2)
  · simp only [go_sem, ↓reduceIte, Bool.not_false]
    exact .inr (hdown hq)

theorem p_tests (x : Pred) (H : Heap) : ACall Tryz.prog 202 [.agg x.c] H (fun v H' => v = .fn (.func 250) [] [.ptr H.length 0] ∧ H' = H ++ [some x.c]) := by
  refine ACall.of h202 rfl mixed h202_d Tryz.func202 rfl call202 (by simp [Tryz.f202]) ?_
  simp only [Tryz.f202, go_sem, ↓reduceIte]

theorem p_testsIt (x : Pred) (o p n : Nat) (L : LoopRec) (Pre : Nat → Heap → Prop) (Qp : Heap → Prop) (H0 : Heap) (hn : H0.length = n) (h0 : Pre 0 H0) (hp : ∀ pre, Pre 0 pre → pre[p]? = some (some x.c)) (hal : ∀ y ∈ ptsP x, y.args.length ≤ 9223372036854775807)
    (round : ∀ g k y H, (ptsP x)[k]? = some y → Iv Pre n g k H → YCall Tryz.prog o L [.agg (Pred.c y)] H fun v H' => (v = .bool true ∧ Iv Pre n g (k + 1) H') ∨ (v = .bool false ∧ Iv (fun _ => Qp) n g 0 H'))
    (fin : ∀ pre, Pre (ptsP x).length pre → Qp pre) : ACall Tryz.prog 250 [.yld o L, .ptr p 0] H0 (fun _ H' => ∃ pre g, H' = pre ++ g ∧ pre.length = n ∧ Qp pre) := by
  subst hn
  have hpx := hp H0 h0
  have hlt := (List.getElem?_eq_some_iff.1 hpx).1
  have e1 : ∀ z : Heap, (H0 ++ z)[p]? = some (some x.c) := fun z => by rw [List.getElem?_append_left hlt]; exact hpx
  refine ACall.of h250 rfl mixed h250_d Tryz.func250 rfl call250 (by simp [Tryz.f250]) ?_
  have e2 : ∀ u v : Option (List AV), (H0 ++ [u, v])[H0.length + 1]? = some v := fun u v => by rw [List.getElem?_append_right (by omega), Nat.add_sub_cancel_left]; rfl
  have e3 : ∀ u v z : Option (List AV), (H0 ++ [u, v]).set (H0.length + 1) z = H0 ++ [u, z] := fun u v z => by rw [List.set_append_right _ _ (by omega), Nat.add_sub_cancel_left]; rfl
  simp only [Tryz.f250, go_sem, ↓reduceIte, List.length_append, List.append_assoc, List.cons_append, List.nil_append, e1, e2, e3]
  refine ACallK.intro (p_testsW o 0 1 H0.length L Pre Qp (ptsP x) round x 0 _ [some [.yld o L], some [.fn (.func 251) [] [.ptr (H0.length + 0) 0, .ptr (H0.length + 1) 0]]] [] rfl rfl hal (by simp) ⟨H0, [], by simp, rfl, h0⟩) fun v H' hr => ?_
  simp only [go_sem, ↓reduceIte]
  rcases hr with ⟨rfl, pre, g', rfl, h1, h2⟩ | ⟨rfl, pre, g', rfl, h1, h2⟩
  · exact ⟨pre, _, rfl, h1, fin pre (by rwa [Nat.zero_add] at h2)⟩
  · exact ⟨pre, _, rfl, h1, h2⟩

theorem p_parts (x : Policy) (H : Heap) : ACall Tryz.prog 159 [.agg x.c] H (fun v H' => v = .fn (.func 225) [] [.ptr H.length 0] ∧ H' = H ++ [some x.c]) := by
  refine ACall.of h159 rfl mixed h159_d Tryz.func159 rfl call159 (by simp [Tryz.f159]) ?_
  simp only [Tryz.f159, go_sem, ↓reduceIte]

theorem p_partsIt (x : Policy) (o p n : Nat) (L : LoopRec) (Pre : Nat → Heap → Prop) (Qp : Heap → Prop) (H0 : Heap) (hn : H0.length = n) (h0 : Pre 0 H0) (hp : ∀ pre, Pre 0 pre → pre[p]? = some (some x.c)) (hal : ∀ y ∈ ptsO x, y.args.length ≤ 9223372036854775807)
    (round : ∀ g k y H, (ptsO x)[k]? = some y → Iv Pre n g k H → YCall Tryz.prog o L [.agg (Policy.c y)] H fun v H' => (v = .bool true ∧ Iv Pre n g (k + 1) H') ∨ (v = .bool false ∧ Iv (fun _ => Qp) n g 0 H'))
    (fin : ∀ pre, Pre (ptsO x).length pre → Qp pre) : ACall Tryz.prog 225 [.yld o L, .ptr p 0] H0 (fun _ H' => ∃ pre g, H' = pre ++ g ∧ pre.length = n ∧ Qp pre) := by
  subst hn
  have hpx := hp H0 h0
  have hlt := (List.getElem?_eq_some_iff.1 hpx).1
  have e1 : ∀ z : Heap, (H0 ++ z)[p]? = some (some x.c) := fun z => by rw [List.getElem?_append_left hlt]; exact hpx
  refine ACall.of h225 rfl mixed h225_d Tryz.func225 rfl call225 (by simp [Tryz.f225]) ?_
  have e2 : ∀ u v : Option (List AV), (H0 ++ [u, v])[H0.length + 1]? = some v := fun u v => by rw [List.getElem?_append_right (by omega), Nat.add_sub_cancel_left]; rfl
  have e3 : ∀ u v z : Option (List AV), (H0 ++ [u, v]).set (H0.length + 1) z = H0 ++ [u, z] := fun u v z => by rw [List.set_append_right _ _ (by omega), Nat.add_sub_cancel_left]; rfl
  simp only [Tryz.f225, go_sem, ↓reduceIte, List.length_append, List.append_assoc, List.cons_append, List.nil_append, e1, e2, e3]
  refine ACallK.intro (p_partsW o 0 1 H0.length L Pre Qp (ptsO x) round x 0 _ [some [.yld o L], some [.fn (.func 226) [] [.ptr (H0.length + 0) 0, .ptr (H0.length + 1) 0]]] [] rfl rfl hal (by simp) ⟨H0, [], by simp, rfl, h0⟩) fun v H' hr => ?_
  simp only [go_sem, ↓reduceIte]
  rcases hr with ⟨rfl, pre, g', rfl, h1, h2⟩ | ⟨rfl, pre, g', rfl, h1, h2⟩
  · exact ⟨pre, _, rfl, h1, fin pre (by rwa [Nat.zero_add] at h2)⟩
  · exact ⟨pre, _, rfl, h1, h2⟩

end Go.AI

namespace Go.AI
open Go.Proofs
set_option maxRecDepth 50000

theorem p_port : PCall Tryz.prog 227 [] (.agg fldPort.c) := by
  have h : PCall Tryz.prog 227 [] (.agg fldPort.c) := PCall.run evOk0 100 rfl (by kernel_rfl) (by kernel_rfl)
  exact h

theorem p_Find1 {H : Heap} (f : Fld) (s : ByteArray) (o : Nat) (ho : H[o]? = some (some [.str s])) : SCall Tryz.prog 229 [.agg f.c, .ptr o 0] H (.bool (decide (f.name = s))) := by
  refine ACall.drop rfl ?_
  refine ACall.of h229 rfl mixed h229_d Tryz.func229 rfl call229 (by simp [Tryz.f229]) ?_
  have ho' : ∀ z, (H ++ z)[o]? = some (some [.str s]) := fun z => by
    have := (List.getElem?_eq_some_iff.1 ho).1
    rw [List.getElem?_append_left this]; exact ho
  simp only [Tryz.f229, go_sem, ↓reduceIte, ho', toList_beq]

theorem idx_find {α : Type} (p : α → Bool) : ∀ (l : List α) (i : Nat), match l.find? p with
    | some x => ∃ k, idxGo p i l = (i + k : Nat) ∧ l[k]? = some x
    | none => idxGo p i l = -1
  | [], i => rfl
  | y :: l, i => by
    rw [List.find?_cons, idxGo]
    cases h : p y with
    | true => exact ⟨0, by simp, rfl⟩
    | false =>
      have := idx_find p l (i + 1)
      cases hf : l.find? p with
      | none => rw [hf] at this; simpa using this
      | some x =>
        rw [hf] at this
        obtain ⟨k, h1, h2⟩ := this
        exact ⟨k + 1, by simp only [Bool.false_eq_true, if_false]; rw [h1]; congr 1; omega, by simpa using h2⟩

theorem p_Find (l : List Fld) (hl : l.length ≤ 9223372036854775807) (s : ByteArray) : PCall Tryz.prog 160 [.sl none (lFld l), .str s] (.tup [.agg (findF l s).1.c, .bool (findF l s).2]) := by
  have hi := idx_find (fun f : Fld => decide (f.name = s)) l 0
  have hport : (fldPort.name : ByteArray) = portS := rfl
  have hidx := p_IndexFld (H := [some [.str s], some Fld.z.c]) l hl 229 [] [.ptr 0 0] (fun f => decide (f.name = s)) (fun x _ => p_Find1 x s 0 rfl)
  refine PCall.ofB h160 mixed h160_d Tryz.func160 rfl call160 (by simp [Tryz.f160]) (by simp [pureL, AV.pure, go_sem]) (by simp [pureL, AV.pure, go_sem]) ?_
  cases hf : l.find? (fun f : Fld => decide (f.name = s)) with
  | none =>
    rw [hf] at hi
    have hi : idxI (fun f : Fld => decide (f.name = s)) l = -1 := hi
    rw [hi] at hidx
    simp only [Tryz.f160, go_sem, ↓reduceIte, toList_beq]
    repeat' (first
      | ((first | refine PCallK.intro (p_port) ?_ | refine ACallK.ofS (hidx) ?_); simp only [go_sem, ↓reduceIte, toList_beq])
      | ((first | refine condK_split _ _ _ (fun hc => ?_) (fun hc => ?_) | refine gsel_split _ _ _ _ (fun hc => ?_) (fun hc => ?_)) <;> simp only [go_sem, ↓reduceIte, hc, Bool.not_true, Bool.not_false, toList_beq]))
    · have h5 : s = portS := by rw [← hport]; exact of_decide_eq_true hc
      rw [findF, if_pos h5]
    · have h5 : ¬ s = portS := by rw [← hport]; exact of_decide_eq_false hc
      rw [findF, if_neg h5, hf]
  | some x =>
    rw [hf] at hi
    obtain ⟨k, hk, hx⟩ := hi
    have hk : idxI (fun f : Fld => decide (f.name = s)) l = ((0 + k : Nat) : Int) := hk
    rw [hk, Nat.zero_add] at hidx
    have g1 : ¬ ((k : Int) < 0) := by omega
    have g2 : (0 : Int) ≤ (k : Int) := by omega
    simp only [Tryz.f160, go_sem, ↓reduceIte, toList_beq]
    repeat' (first
      | ((first | refine PCallK.intro (p_port) ?_ | refine ACallK.ofS (hidx) ?_); simp only [go_sem, ↓reduceIte, toList_beq, g1, g2, lFld_get hx, decide_false])
      | ((first | refine condK_split _ _ _ (fun hc => ?_) (fun hc => ?_) | refine gsel_split _ _ _ _ (fun hc => ?_) (fun hc => ?_)) <;> simp only [go_sem, ↓reduceIte, hc, Bool.not_true, Bool.not_false, toList_beq, g1, g2, lFld_get hx, decide_false]))
    · have h5 : s = portS := by rw [← hport]; exact of_decide_eq_true hc
      rw [findF, if_pos h5]
    · have h5 : ¬ s = portS := by rw [← hport]; exact of_decide_eq_false hc
      rw [findF, if_neg h5, hf]

@[go_sem] theorem binK_shlK {P : Program} {t : TypeId} {k k' : IntKind} {x y : Int} {d : Tmp} {K : Kt} {e : Env} {H : Heap} : binK P .shl t (.int k x) (.int k' y) d K e H = (0 ≤ y ∧ K ((d, .int k (k.wrap (x * 2 ^ (min y.toNat k.bits)))) :: e) H) := by
  rw [binK_int]; simp [abin]

theorem max_small : ∀ n : Nat, n < 17 → IntKind.i64.wrap (IntKind.i64.wrap (1 * 2 ^ (min n IntKind.i64.bits)) - 1) = i64 (powW n - 1) := by
  decide

theorem p_Max (f : Fld) (h0 : 0 ≤ f.width) (h1 : f.width ≤ 16) : PCall Tryz.prog 161 [.agg f.c] (.int .i64 (maxF f)) := by
  have hm := max_small f.width.toNat (by omega)
  refine PCall.of h161 mixed h161_d Tryz.func161 rfl call161 (by simp [Tryz.f161]) (by simp [pureL, AV.pure, go_sem]) rfl ?_
  simp only [Tryz.f161, go_sem, ↓reduceIte, h0]
  rw [maxF, ← hm]; rfl

end Go.AI

namespace Go.AI
open Go.Proofs
set_option maxRecDepth 50000

theorem fmP_pts : ∀ x : Pred, fmP x = true → ∀ y ∈ ptsP x, fmP y = true := by
  refine Pred.ind _ fun x ih => fun h y hy => ?_
  rw [ptsP_eq] at hy
  rcases List.mem_cons.1 hy with rfl | hy
  · exact h
  rw [fmP_eq, Bool.and_eq_true] at h
  have : ∀ l : List Pred, (∀ z ∈ l, z ∈ x.args) → fmPs l = true → ∀ y ∈ ptsPs l, fmP y = true := by
    intro l
    induction l with
    | nil => intro _ _ y hy; rw [ptsPs_nil] at hy; cases hy
    | cons z l ihl =>
      intro hs hf y hy
      rw [fmPs_cons, Bool.and_eq_true] at hf
      rw [ptsPs_cons] at hy
      rcases List.mem_append.1 hy with hy | hy
      · exact ih z (hs z (by simp)) hf.1 y hy
      · exact ihl (fun w hw => hs w (by simp [hw])) hf.2 y hy
  exact this x.args (fun _ h => h) h.2 y hy

@[go_sem] theorem two_snd {α : Type} (G : List α) (a b : α) : (G ++ [a, b])[(G ++ [a]).length]? = some b := by
  rw [List.length_append, List.getElem?_append_right (by simp)]; simp
@[go_sem] theorem two_fst {α : Type} (G : List α) (a b : α) : (G ++ [a, b])[G.length]? = some a := by
  rw [List.getElem?_append_right (Nat.le_refl _)]; simp
@[go_sem] theorem two_set {α : Type} (G : List α) (a b z : α) : (G ++ [a, b]).set (G ++ [a]).length z = G ++ [a, z] := by
  rw [List.length_append, List.set_append_right _ _ (by simp)]; simp

theorem fnB_empty : fnB ⟨#[]⟩ = false := by decide

theorem fm_field {y : Pred} (h : fmP y = true) : (y.field = ⟨#[]⟩ → y.kind ≠ 3 ∧ y.kind ≠ 4 ∧ y.kind ≠ 5) ∧ (y.field ≠ ⟨#[]⟩ → y.kind = 3 ∨ y.kind = 4 ∨ y.kind = 5) := by
  rw [fmP_eq, Bool.and_eq_true, Bool.and_eq_true] at h
  have ho := h.1.1
  have he := fnB_empty
  constructor
  · intro hf
    unfold okP at ho
    rw [hf, he] at ho
    grind
  · intro hf
    unfold okP noneP at ho
    grind

theorem findF_w16 {l : List Fld} (hok : ∀ f ∈ l, 0 ≤ f.width ∧ f.width ≤ 16) (s : ByteArray) : 0 ≤ (findF l s).1.width ∧ (findF l s).1.width ≤ 16 := by
  unfold findF
  split
  · decide
  · split
    · rename_i f hf
      exact hok f (List.mem_of_find?_eq_some hf)
    · decide

def fitB (l : List Fld) (x : Pred) (r st : Int) : Heap := [some [.sl none (lFld l)], some x.c, some [.int .i64 r], some x.c, some (loopc st (frameVals 49 [(2, .ptr 0 0), (4, .ptr 2 0), (10, .fn (.func 250) [] [.ptr 3 0])]))]

set_option maxHeartbeats 2000000 in
theorem p_fits (l : List Fld) (hl : l.length ≤ 9223372036854775807) (hok : ∀ f ∈ l, 0 ≤ f.width ∧ f.width ≤ 16) (x : Pred) (hb : bulkL x.c ≤ 1073741824) (hfm : fmP x = true) : PCall Tryz.prog 136 [.sl none (lFld l), .agg x.c] (.int .i64 (fitA l x)) := by
  have hargs : ∀ y ∈ ptsP x, y.args.length ≤ 9223372036854775807 := fun y hy => Nat.le_trans (lPred_bn (Pred.bl_args (Nat.le_trans (ptsP_bulk x y hy) hb))) (by decide)
  refine PCall.of h136 mixed h136_d Tryz.func136 rfl call136 (by simp [Tryz.f136]) (by simp [pureL, AV.pure, go_sem]) rfl ?_
  simp only [Tryz.f136, go_sem, ↓reduceIte]
  refine ACallK.intro (p_tests x _) fun v H' hr => ?_
  obtain ⟨rfl, rfl⟩ := hr
  simp only [go_sem, ↓reduceIte]
  refine rfK_intro (tag := 136) rfl (ACall.mono (p_testsIt x 4 3 5 _ (fun k pre => pre = fitB l x 0 0 ∧ fitGo l (ptsP x) = fitGo l ((ptsP x).drop k)) (fun pre => (pre = fitB l x 0 0 ∧ fitA l x = 0) ∨ ∃ r, pre = fitB l x r (-2) ∧ fitA l x = r) (fitB l x 0 0) rfl ⟨rfl, rfl⟩ ?_ hargs ?_ ?_) fun v H2 hq => ?_)
  · rintro pre ⟨rfl, _⟩; rfl
  · rintro g k y H hy ⟨pre, g', rfl, hn, rfl, hF⟩
    have hmy := List.mem_of_getElem? hy
    have hfy := fmP_pts x hfm y hmy
    obtain ⟨f1, f2⟩ := fm_field hfy
    have hd : (ptsP x).drop k = y :: (ptsP x).drop (k + 1) := by
      obtain ⟨hlt, rfl⟩ := List.getElem?_eq_some_iff.1 hy
      exact List.drop_eq_getElem_cons hlt
    rw [hd, fitGo] at hF
    have hw := findF_w16 hok y.field
    refine ycall_of_awp (h := h136) (n := 49) mixed rfl ⟨by kernel_rfl, by kernel_rfl⟩ (by decide) _ _ _ _ rfl rfl rfl ?_
    show awp _ _ _ _ _ _ [(11, .agg y.c), (0, .undef), (1, .undef), (2, .ptr 0 0), (3, .undef), (4, .ptr 2 0), (5, .undef), (6, .undef), (7, .undef), (8, .undef), (9, .undef), (10, .fn (.func 250) [] [.ptr 3 0]), (11, .undef), (12, .undef), (13, .undef), (14, .undef), (15, .undef), (16, .undef), (17, .undef), (18, .undef), (19, .undef), (20, .undef), (21, .undef), (22, .undef), (23, .undef), (24, .undef), (25, .undef), (26, .undef), (27, .undef), (28, .undef), (29, .undef), (30, .undef), (31, .undef), (32, .undef), (33, .undef), (34, .undef), (35, .undef), (36, .undef), (37, .undef), (38, .undef), (39, .undef), (40, .undef), (41, .undef), (42, .undef), (43, .undef), (44, .undef), (45, .undef), (46, .undef), (47, .undef), (48, .undef)] _
    generalize hG : g ++ g' = G
    by_cases hf : y.field = ⟨#[]⟩
    · have hz : fitP l y = 0 := by unfold fitP; obtain ⟨a1, a2, a3⟩ := f1 hf; rw [if_pos ⟨a1, a2, a3⟩]
      simp only [go_sem, ↓reduceIte, toList_beq, hf, decide_true, fitB]
      exact ⟨_, rfl, _, rfl, .inl ⟨fitB l x 0 0, g' ++ [some y.c], by rw [← hG]; simp [fitB], rfl, rfl, by rw [hF, if_pos hz]⟩⟩
    · have hd2 : decide (y.field = ⟨#[]⟩) = false := by simp [hf]
      simp only [go_sem, ↓reduceIte, fitB, toList_beq, hd2]
      refine ⟨_, rfl, ?_⟩
      repeat' (first
        | ((first | refine PCallK.intro (p_Find l hl _) ?_ | refine PCallK.intro (p_Max _ hw.1 hw.2) ?_); simp only [go_sem, ↓reduceIte, toList_beq])
        | ((first | refine condK_split _ _ _ (fun hc => ?_) (fun hc => ?_) | refine gsel_split _ _ _ _ (fun hc => ?_) (fun hc => ?_)) <;> simp only [go_sem, ↓reduceIte, hc, Bool.not_true, Bool.not_false, toList_beq]))
      all_goals have hkd := f2 hf
      all_goals first
        | (exfalso; clear hF hy hd hn hG hargs hmy; grind)
        | (have hz : fitP l y = 0 := by grind [fitP]
           exact ⟨_, rfl, .inl ⟨fitB l x 0 0, g' ++ [some y.c, some (findF l y.field).1.c], by rw [← hG]; simp [fitB], rfl, rfl, by rw [hF, if_pos hz]⟩⟩)
        | (have hz : fitP l y = 4 := by grind [fitP]
           exact ⟨_, rfl, .inr ⟨fitB l x 4 (-2), g' ++ [some y.c, some (findF l y.field).1.c], by rw [← hG]; simp [fitB], rfl, .inr ⟨4, rfl, by rw [fitA, hF, hz]; rfl⟩⟩⟩)
        | (have hz : fitP l y = 1 := by grind [fitP]
           exact ⟨_, rfl, .inr ⟨fitB l x 1 (-2), g' ++ [some y.c, some (findF l y.field).1.c], by rw [← hG]; simp [fitB], rfl, .inr ⟨1, rfl, by rw [fitA, hF, hz]; rfl⟩⟩⟩)
        | skip
  · rintro pre ⟨rfl, hF⟩
    refine .inl ⟨rfl, ?_⟩
    rw [fitA, hF, List.drop_length]; rfl
  · obtain ⟨pre, g, rfl, hn, hq⟩ := hq
    rcases hq with ⟨rfl, h⟩ | ⟨r, rfl, h⟩
    · refine ⟨0, _, rfl, .inl ⟨rfl, ?_⟩⟩
      show blkK 0 _ .normal _ (some [.sl none (lFld l)] :: some x.c :: some [.int .i64 0] :: some x.c :: none :: g)
      simp only [go_sem, ↓reduceIte, h]
    · refine ⟨-2, _, rfl, .inr (.inl ⟨rfl, ?_⟩)⟩
      show blkK 0 _ .ret _ (some [.sl none (lFld l)] :: some x.c :: some [.int .i64 r] :: some x.c :: none :: g)
      simp only [go_sem, ↓reduceIte, h]

end Go.AI

namespace Go.AI
open Go.Proofs
set_option maxRecDepth 50000

theorem fmE_0 {z : Sizes} {b : Bool} (h : fmE z b = 0) : b = true := by
  unfold fmE at h
  split at h
  · split at h
    · assumption
    · cases h
  · rename_i h2; exact absurd h h2

theorem p_tPred (l : List Fld) (hl : l.length ≤ 9223372036854775807) (hok : ∀ f ∈ l, 0 ≤ f.width ∧ f.width ≤ 16) (x : Pred) (hb : bulkL x.c ≤ 1073741824) : PCall Tryz.prog 58 [.sl none (lFld l), .agg x.c] (.int .i64 (ckTP l x)) := by
  refine PCall.of h58 mixed h58_d Tryz.func58 rfl call58 (by simp [Tryz.f58]) (by simp [pureL, AV.pure, go_sem]) rfl ?_
  simp only [Tryz.f58, go_sem, ↓reduceIte]
  repeat' (first
    | ((first | refine PCallK.intro (p_CheckPred x hb) ?_); simp only [go_sem, ↓reduceIte])
    | ((first | refine condK_split _ _ _ (fun hc => ?_) (fun hc => ?_) | refine gsel_split _ _ _ _ (fun hc => ?_) (fun hc => ?_)) <;> simp only [go_sem, ↓reduceIte, hc, Bool.not_true, Bool.not_false]))
  · rw [ckTP, if_neg (by simpa using hc)]
  · have h0 : ckP x = 0 := by simpa using hc
    have hfm : fmP x = true := fmE_0 h0
    repeat' (first
      | ((first | refine PCallK.intro (p_fits l hl hok x hb hfm) ?_); simp only [go_sem, ↓reduceIte])
      | ((first | refine condK_split _ _ _ (fun hc => ?_) (fun hc => ?_) | refine gsel_split _ _ _ _ (fun hc => ?_) (fun hc => ?_)) <;> simp only [go_sem, ↓reduceIte, hc, Bool.not_true, Bool.not_false]))
    rw [ckTP, if_pos h0]

theorem fmO_pts : ∀ x : Policy, fmO x = true → ∀ y ∈ ptsO x, fmO y = true := by
  refine Policy.ind _ fun x ih => fun h y hy => ?_
  rw [ptsO_eq] at hy
  rcases List.mem_cons.1 hy with rfl | hy
  · exact h
  rw [fmO_eq, Bool.and_eq_true] at h
  have : ∀ l : List Policy, (∀ z ∈ l, z ∈ x.args) → fmOs l = true → ∀ y ∈ ptsOs l, fmO y = true := by
    intro l
    induction l with
    | nil => intro _ _ y hy; rw [ptsOs_nil] at hy; cases hy
    | cons z l ihl =>
      intro hs hf y hy
      rw [fmOs_cons, Bool.and_eq_true] at hf
      rw [ptsOs_cons] at hy
      rcases List.mem_append.1 hy with hy | hy
      · exact ih z (hs z (by simp)) hf.1 y hy
      · exact ihl (fun w hw => hs w (by simp [hw])) hf.2 y hy
  exact this x.args (fun _ h => h) h.2 y hy

theorem fm_pol {y : Policy} (h : fmO y = true) (h1 : y.kind = 1) : fmP y.pred = true := by
  rw [fmO_eq, Bool.and_eq_true, Bool.and_eq_true] at h
  have ho := h.1.1
  unfold okO at ho
  rw [if_pos h1] at ho
  simp only [Bool.and_eq_true] at ho
  exact ho.1

def polB (l : List Fld) (x : Policy) (r st : Int) : Heap := [some [.sl none (lFld l)], some x.c, some [.int .i64 r], some x.c, some (loopc st (frameVals 47 [(2, .ptr 0 0), (4, .ptr 2 0), (16, .fn (.func 225) [] [.ptr 3 0])]))]

set_option maxHeartbeats 2000000 in
theorem p_tPolicy (l : List Fld) (hl : l.length ≤ 9223372036854775807) (hok : ∀ f ∈ l, 0 ≤ f.width ∧ f.width ≤ 16) (x : Policy) (hb : bulkL x.c ≤ 1073741824) : PCall Tryz.prog 88 [.sl none (lFld l), .agg x.c] (.int .i64 (ckTO l x)) := by
  have hbp : ∀ y ∈ ptsO x, bulkL y.c ≤ 1073741824 := fun y hy => Nat.le_trans (ptsO_bulk x y hy) hb
  have hargs : ∀ y ∈ ptsO x, y.args.length ≤ 9223372036854775807 := fun y hy => Nat.le_trans (lPolicy_bn (Policy.bl_args (hbp y hy))) (by decide)
  refine PCall.of h88 mixed h88_d Tryz.func88 rfl call88 (by simp [Tryz.f88]) (by simp [pureL, AV.pure, go_sem]) rfl ?_
  simp only [Tryz.f88, go_sem, ↓reduceIte]
  repeat' (first
    | ((first | refine PCallK.intro (p_CheckPolicy x hb) ?_); simp only [go_sem, ↓reduceIte])
    | ((first | refine condK_split _ _ _ (fun hc => ?_) (fun hc => ?_) | refine gsel_split _ _ _ _ (fun hc => ?_) (fun hc => ?_)) <;> simp only [go_sem, ↓reduceIte, hc, Bool.not_true, Bool.not_false]))
  · rw [ckTO, if_neg (by simpa using hc)]
  · have h0 : ckO x = 0 := by simpa using hc
    have hfm : fmO x = true := fmE_0 h0
    have hT : ckTO l x = polGo l (ptsO x) := by rw [ckTO, if_pos h0]
    refine ACallK.intro (p_parts x _) fun v H' hr => ?_
    obtain ⟨rfl, rfl⟩ := hr
    simp only [go_sem, ↓reduceIte]
    refine rfK_intro (tag := 88) rfl (ACall.mono (p_partsIt x 4 3 5 _ (fun k pre => pre = polB l x 0 0 ∧ polGo l (ptsO x) = polGo l ((ptsO x).drop k)) (fun pre => (pre = polB l x 0 0 ∧ ckTO l x = 0) ∨ ∃ r, pre = polB l x r (-2) ∧ ckTO l x = r) (polB l x 0 0) rfl ⟨rfl, rfl⟩ ?_ hargs ?_ ?_) fun v H2 hq => ?_)
    · rintro pre ⟨rfl, _⟩; rfl
    · rintro g k y H hy ⟨pre, g', rfl, hn, rfl, hF⟩
      have hmy := List.mem_of_getElem? hy
      have hfy := fmO_pts x hfm y hmy
      have hd : (ptsO x).drop k = y :: (ptsO x).drop (k + 1) := by
        obtain ⟨hlt, rfl⟩ := List.getElem?_eq_some_iff.1 hy
        exact List.drop_eq_getElem_cons hlt
      rw [hd, polGo] at hF
      have hw := findF_w16 hok y.field
      have hby := hbp y hmy
      refine ycall_of_awp (h := h88) (n := 47) mixed rfl ⟨by kernel_rfl, by kernel_rfl⟩ (by decide) _ _ _ _ rfl rfl rfl ?_
      show awp _ _ _ _ _ _ [(17, .agg y.c), (0, .undef), (1, .undef), (2, .ptr 0 0), (3, .undef), (4, .ptr 2 0), (5, .undef), (6, .undef), (7, .undef), (8, .undef), (9, .undef), (10, .undef), (11, .undef), (12, .undef), (13, .undef), (14, .undef), (15, .undef), (16, .fn (.func 225) [] [.ptr 3 0]), (17, .undef), (18, .undef), (19, .undef), (20, .undef), (21, .undef), (22, .undef), (23, .undef), (24, .undef), (25, .undef), (26, .undef), (27, .undef), (28, .undef), (29, .undef), (30, .undef), (31, .undef), (32, .undef), (33, .undef), (34, .undef), (35, .undef), (36, .undef), (37, .undef), (38, .undef), (39, .undef), (40, .undef), (41, .undef), (42, .undef), (43, .undef), (44, .undef), (45, .undef), (46, .undef)] _
      generalize hG : g ++ g' = G
      by_cases k1 : y.kind = 1
      · have c1 : (y.kind == 1) = true := by simp [k1]
        have hp := p_fits l hl hok y.pred (Policy.bs_pred hby) (fm_pol hfy k1)
        have he : polE l y = fitA l y.pred := by rw [polE, if_pos k1]
        simp only [go_sem, ↓reduceIte, polB, c1]
        refine ⟨_, rfl, ?_⟩
        repeat' (first
          | ((first | refine PCallK.intro (hp) ?_); simp only [go_sem, ↓reduceIte])
          | ((first | refine condK_split _ _ _ (fun hc => ?_) (fun hc => ?_) | refine gsel_split _ _ _ _ (fun hc => ?_) (fun hc => ?_)) <;> simp only [go_sem, ↓reduceIte, hc, Bool.not_true, Bool.not_false]))
        · have hne : polE l y ≠ 0 := by rw [he]; simpa using hc
          exact ⟨_, rfl, .inr ⟨polB l x (fitA l y.pred) (-2), g' ++ [some y.c], by rw [← hG]; simp [polB], rfl, .inr ⟨_, rfl, by rw [hT, hF, if_neg hne, he]⟩⟩⟩
        · have hz : polE l y = 0 := by rw [he]; simpa using hc
          exact ⟨_, rfl, .inl ⟨polB l x 0 0, g' ++ [some y.c], by rw [← hG]; simp [polB], rfl, rfl, by rw [hF, if_pos hz]⟩⟩
      · have c1 : (y.kind == 1) = false := by simp [k1]
        by_cases k2 : y.kind = 2
        · have c2 : (y.kind == 2) = true := by simp [k2]
          simp only [go_sem, ↓reduceIte, polB, c1, c2]
          refine ⟨_, rfl, ?_⟩
          repeat' (first
            | ((first | refine PCallK.intro (p_Find l hl _) ?_ | refine PCallK.intro (p_Max _ hw.1 hw.2) ?_); simp only [go_sem, ↓reduceIte])
            | ((first | refine condK_split _ _ _ (fun hc => ?_) (fun hc => ?_) | refine gsel_split _ _ _ _ (fun hc => ?_) (fun hc => ?_)) <;> simp only [go_sem, ↓reduceIte, hc, Bool.not_true, Bool.not_false]))
          all_goals first
            | (have hz : polE l y = 0 := by grind [polE]
               exact ⟨_, rfl, .inl ⟨polB l x 0 0, g' ++ [some y.c, some (findF l y.field).1.c], by rw [← hG]; simp [polB], rfl, rfl, by rw [hF, if_pos hz]⟩⟩)
            | (have hz : polE l y = 4 := by grind [polE]
               exact ⟨_, rfl, .inr ⟨polB l x 4 (-2), g' ++ [some y.c, some (findF l y.field).1.c], by rw [← hG]; simp [polB], rfl, .inr ⟨4, rfl, by rw [hT, hF, hz]; rfl⟩⟩⟩)
            | (have hz : polE l y = 1 := by grind [polE]
               exact ⟨_, rfl, .inr ⟨polB l x 1 (-2), g' ++ [some y.c, some (findF l y.field).1.c], by rw [← hG]; simp [polB], rfl, .inr ⟨1, rfl, by rw [hT, hF, hz]; rfl⟩⟩⟩)
            | skip
        · have c2 : (y.kind == 2) = false := by simp [k2]
          have hz : polE l y = 0 := by rw [polE, if_neg k1, if_neg k2]
          simp only [go_sem, ↓reduceIte, polB, c1, c2]
          exact ⟨_, rfl, _, rfl, .inl ⟨polB l x 0 0, g' ++ [some y.c], by rw [← hG]; simp [polB], rfl, rfl, by rw [hF, if_pos hz]⟩⟩
    · rintro pre ⟨rfl, hF⟩
      refine .inl ⟨rfl, ?_⟩
      rw [hT, hF, List.drop_length]; rfl
    · obtain ⟨pre, g, rfl, hn, hq⟩ := hq
      rcases hq with ⟨rfl, h⟩ | ⟨r, rfl, h⟩
      · refine ⟨0, _, rfl, .inl ⟨rfl, ?_⟩⟩
        show blkK 0 _ .normal _ (some [.sl none (lFld l)] :: some x.c :: some [.int .i64 0] :: some x.c :: none :: g)
        simp only [go_sem, ↓reduceIte, h]
      · refine ⟨-2, _, rfl, .inr (.inl ⟨rfl, ?_⟩)⟩
        show blkK 0 _ .ret _ (some [.sl none (lFld l)] :: some x.c :: some [.int .i64 r] :: some x.c :: none :: g)
        simp only [go_sem, ↓reduceIte, h]

end Go.AI

namespace Go.AI
open Go.Proofs
set_option maxRecDepth 50000

def idxS (s : ByteArray) : Nat → List ByteArray → Int
  | _, [] => -1
  | i, x :: l => if decide (x = s) then (i : Int) else idxS s (i + 1) l
theorem idxS_any (s : ByteArray) : ∀ (l : List ByteArray) (i : Nat), decide (0 ≤ idxS s i l) = l.any (fun z => decide (z = s))
  | [], i => rfl
  | x :: l, i => by
    rw [idxS, List.any_cons]
    cases h : decide (x = s) with
    | true => simp
    | false => simp [idxS_any s l (i + 1)]

theorem p_IdxS (l : List ByteArray) (hl : l.length ≤ 9223372036854775807) (s : ByteArray) : PCall Tryz.prog 198 [.sl none (lStr l), .str s] (.int .i64 (idxS s 0 l)) := by
  refine PCall.of h198 mixed h198_d Tryz.func198 rfl call198 (by simp [Tryz.f198]) (by simp [pureL, AV.pure, go_sem]) rfl ?_
  simp only [Tryz.f198, go_sem, ↓reduceIte]
  refine awp_all l (fun r => idxS s (l.length - r.length) r) (fun k => [(0, .sl none (lStr l)), (1, .str s), (7, .int .i64 l.length), (8, .int .i64 k)]) hl rfl ?_ ?_
  · intro k x xs hd hx hF h0 h1 hw
    have hk2 := drop_len hd
    have e1 : l.length - (xs.length + 1) = k := by omega
    have e2 : l.length - xs.length = k + 1 := by omega
    simp only [List.length_cons, e1, Nat.sub_self] at hF
    simp only [go_sem, ↓reduceIte, h0, h1, lStr_get hx, e1, e2, toList_beq]
    repeat' (first
      | ((first | refine condK_split _ _ _ (fun hc => ?_) (fun hc => ?_) | refine gsel_split _ _ _ _ (fun hc => ?_) (fun hc => ?_)) <;> simp only [go_sem, ↓reduceIte, hc, Bool.not_true, Bool.not_false, h0, h1, hw, lStr_get hx, e1, e2, toList_beq]))
    · rw [hF, idxS, if_pos (by rw [of_decide_eq_true hc]; simp)]
    · rw [idxS, if_neg (by have := of_decide_eq_false hc; simp; exact fun h => this h.symm)]
  · intro hF hlt
    simp only [go_sem, ↓reduceIte, hlt, decide_false]
    rw [Nat.sub_self] at hF
    rw [hF]; rfl

theorem p_ContS (l : List ByteArray) (hl : l.length ≤ 9223372036854775807) (s : ByteArray) : PCall Tryz.prog 134 [.sl none (lStr l), .str s] (.bool (l.any fun z => decide (z = s))) := by
  refine PCall.of h134 mixed h134_d Tryz.func134 rfl call134 (by simp [Tryz.f134]) (by simp [pureL, AV.pure, go_sem]) rfl ?_
  simp only [Tryz.f134, go_sem, ↓reduceIte]
  repeat' (first
    | ((first | refine PCallK.intro (p_IdxS l hl s) ?_); simp only [go_sem, ↓reduceIte])
    | ((first | refine condK_split _ _ _ (fun hc => ?_) (fun hc => ?_) | refine gsel_split _ _ _ _ (fun hc => ?_) (fun hc => ?_)) <;> simp only [go_sem, ↓reduceIte, hc, Bool.not_true, Bool.not_false]))
  rw [idxS_any]

theorem p_known1 {H : Heap} (l : List Fld) (hl : l.length ≤ 9223372036854775807) (o : Nat) (ho : H[o]? = some (some [.sl none (lFld l)])) (s : ByteArray) : SCall Tryz.prog 162 [.str s, .ptr o 0] H (.bool (findF l s).2) := by
  refine ACall.drop rfl ?_
  refine ACall.of h162 rfl mixed h162_d Tryz.func162 rfl call162 (by simp [Tryz.f162]) ?_
  simp only [Tryz.f162, go_sem, ↓reduceIte, ho]
  repeat' (first
    | ((first | refine PCallK.intro (p_Find l hl s) ?_); simp only [go_sem, ↓reduceIte, ho])
    | ((first | refine condK_split _ _ _ (fun hc => ?_) (fun hc => ?_) | refine gsel_split _ _ _ _ (fun hc => ?_) (fun hc => ?_)) <;> simp only [go_sem, ↓reduceIte, hc, Bool.not_true, Bool.not_false, ho]))

theorem p_each {H : Heap} (l : List ByteArray) (hl : l.length ≤ 9223372036854775807) (g : FuncId) (ca : List AV) (p : ByteArray → Bool) (hca : ca.map AV.borrow = ca)
    (h : ∀ x ∈ l, ∀ z, SCall Tryz.prog g (.str x :: ca) (H ++ z) (.bool (p x))) : SCall Tryz.prog 163 [.sl none (lStr l), .fn (.func g) [] ca] H (.bool (l.all p)) := by
  refine ACall.drop rfl ?_
  have h1 : ∀ x ∈ l, SCall Tryz.prog 231 [.str x, .ptr H.length 0] (H ++ [some [.fn (.func g) [] ca]]) (.bool (!p x)) := by
    intro x hx
    refine ACall.drop rfl ?_
    refine ACall.of h231 rfl mixed h231_d Tryz.func231 rfl call231 (by simp [Tryz.f231]) ?_
    have hh := h x hx [some [.fn (.func g) [] ca]]
    simp only [Tryz.f231, go_sem, ↓reduceIte, List.getElem?_concat_length, hca]
    repeat' (first
      | ((first | refine ACallK.ofS (hh) ?_); simp only [go_sem, ↓reduceIte])
      | ((first | refine condK_split _ _ _ (fun hc => ?_) (fun hc => ?_) | refine gsel_split _ _ _ _ (fun hc => ?_) (fun hc => ?_)) <;> simp only [go_sem, ↓reduceIte, hc, Bool.not_true, Bool.not_false]))
    exact ⟨[], by simp⟩
  refine ACall.of h163 rfl mixed h163_d Tryz.func163 rfl call163 (by simp [Tryz.f163]) ?_
  simp only [Tryz.f163, go_sem, ↓reduceIte]
  repeat' (first
    | ((first | refine ACallK.ofS (p_ContainsStr l hl 231 [] [.ptr H.length 0] (fun x => !p x) h1) ?_); simp only [go_sem, ↓reduceIte, any_not])
    | ((first | refine condK_split _ _ _ (fun hc => ?_) (fun hc => ?_) | refine gsel_split _ _ _ _ (fun hc => ?_) (fun hc => ?_)) <;> simp only [go_sem, ↓reduceIte, hc, Bool.not_true, Bool.not_false, any_not]))

theorem names_all (l : List Fld) (s : Stp) : (namesS s).all (fun y => (findF l y).2) = (s.key.all (fun y => (findF l y).2) && (decide (s.field = ⟨#[]⟩) || (findF l s.field).2)) := by
  unfold namesS
  by_cases h : s.field = ⟨#[]⟩
  · rw [if_pos h]; simp [h]
  · rw [if_neg h, List.all_append]; simp [h]

set_option maxHeartbeats 2000000 in
theorem p_tStep (l : List Fld) (hl : l.length ≤ 9223372036854775807) (hok : ∀ f ∈ l, 0 ≤ f.width ∧ f.width ≤ 16) (x : Stp) (hb : bulkL x.c ≤ 1073741824) : PCall Tryz.prog 89 [.sl none (lFld l), .agg x.c] (.int .i64 (ckTS l x)) := by
  have hk : x.key.length ≤ 1073741824 := lStr_bn (Stp.bl_key hb)
  have hw := findF_w16 hok x.field
  have hna := names_all l x
  have hes : ∀ z, SCall Tryz.prog 163 [.sl none (lStr x.key), .fn (.func 162) [] [.ptr 0 0]] ([some [.sl none (lFld l)], some x.c] ++ z) (.bool (x.key.all fun y => (findF l y).2)) := fun z =>
    p_each x.key (by omega) 162 [.ptr 0 0] (fun y => (findF l y).2) rfl fun y _ z2 => p_known1 l hl 0 rfl y
  have hk1 : ∀ z, SCall Tryz.prog 162 [.str x.field, .ptr 0 0] ([some [.sl none (lFld l)], some x.c] ++ z) (.bool (findF l x.field).2) := fun z => p_known1 l hl 0 rfl x.field
  have he0 := hes []
  have hk0 := hk1 []
  refine PCall.of h89 mixed h89_d Tryz.func89 rfl call89 (by simp [Tryz.f89]) (by simp [pureL, AV.pure, go_sem]) rfl ?_
  simp only [Tryz.f89, go_sem, ↓reduceIte, toList_beq]
  repeat' (first
    | ((first | refine PCallK.intro (p_CheckStep x hb) ?_ | refine ACallK.ofS (hk0) ?_ | refine ACallK.ofS (he0) ?_); simp only [go_sem, ↓reduceIte, toList_beq])
    | ((first | refine condK_split _ _ _ (fun hc => ?_) (fun hc => ?_) | refine gsel_split _ _ _ _ (fun hc => ?_) (fun hc => ?_)) <;> simp only [go_sem, ↓reduceIte, hc, Bool.not_true, Bool.not_false, toList_beq]))
  all_goals first
    | (rw [ckTS, if_pos (by first | exact .inr (by simpa using hc) | exact .inl (by simpa using hc))]; done)
    | skip
  all_goals
    have n0 : ¬ (ckS x ≠ 0 ∨ x.kind = 0) := by
      rintro (h | h)
      · simp_all
      · simp_all
  all_goals first
    | (have n1 : (!(namesS x).all (fun y => (findF l y).2)) = true := by rw [hna]; simp_all
       rw [ckTS, if_neg n0, if_pos n1]; done)
    | skip
  all_goals
    have n1 : ¬ (!(namesS x).all (fun y => (findF l y).2)) = true := by rw [hna]; simp_all
    have hT : ckTS l x = if !apartGo x.key 0 x.key then 1 else if x.kind = 4 ∧ maxF (findF l x.field).1 < x.m then 1 else 0 := by rw [ckTS, if_neg n0, if_neg n1]
    clear hes hk1 he0 hk0 hna
    refine awp_all x.key (fun r => apartGo x.key (x.key.length - r.length) r) (fun k => [(2, .ptr 0 0), (3, .ptr 1 0), (40, .sl none (lStr x.key)), (41, .int .i64 x.key.length), (42, .int .i64 k)]) (by omega) rfl ?_ ?_
    · intro k y ys hd hx hF h0 h1 hw2
      have hk2 := drop_len hd
      have e1 : x.key.length - (ys.length + 1) = k := by omega
      have e2 : x.key.length - ys.length = k + 1 := by omega
      have g1 : (k : Int) ≤ (x.key.length : Int) := by omega
      simp only [List.length_cons, e1, Nat.sub_self, apartGo] at hF
      simp only [go_sem, ↓reduceIte, h0, h1, lStr_get hx, e1, e2, g1, Int.toNat_natCast, ite_self]
      have htl : (x.key.take k).length ≤ 9223372036854775807 := by rw [List.length_take]; omega
      repeat' (first
        | ((first | refine PCallK.intro (p_ContS (x.key.take k) htl y) ?_); simp only [go_sem, ↓reduceIte, h0, h1, hw2, lStr_get hx, e1, e2, g1, Int.toNat_natCast, ite_self])
        | ((first | refine condK_split _ _ _ (fun hc => ?_) (fun hc => ?_) | refine gsel_split _ _ _ _ (fun hc => ?_) (fun hc => ?_)) <;> simp only [go_sem, ↓reduceIte, hc, Bool.not_true, Bool.not_false, h0, h1, hw2, lStr_get hx, e1, e2, g1, Int.toNat_natCast, ite_self]))
      · rw [hT, hF, hc]; rfl
      · rw [apartGo, hc]; rfl
    · intro hF hlt
      simp only [go_sem, ↓reduceIte, hlt, decide_false]
      rw [Nat.sub_self] at hF
      have h5 : apartGo x.key 0 x.key = true := by rw [hF]; rfl
      repeat' (first
        | ((first | refine PCallK.intro (p_Find l hl _) ?_ | refine PCallK.intro (p_Max _ hw.1 hw.2) ?_); simp only [go_sem, ↓reduceIte])
        | ((first | refine condK_split _ _ _ (fun hc => ?_) (fun hc => ?_) | refine gsel_split _ _ _ _ (fun hc => ?_) (fun hc => ?_)) <;> simp only [go_sem, ↓reduceIte, hc, Bool.not_true, Bool.not_false]))
      all_goals
        rw [hT, h5]
        clear hF hT h5
        simp_all

end Go.AI

namespace Go.AI
open Go.Proofs
set_option maxRecDepth 50000

theorem p_inner (t : Tenant) (n : Int) : PCall Tryz.prog 128 [.agg t.c, .int .i64 n] (.bool (innerB t n)) := by
  refine PCall.fit call128 fun hf => ?_
  have hl := Tenant.fit_ports (pfit1 hf)
  have hw : IntKind.i64.wrap ((t.ports.length : Int) - 1) = (t.ports.length : Int) - 1 := w64 (by omega) (by omega)
  refine PCall.of h128 mixed h128_d Tryz.func128 rfl call128 (by simp [Tryz.f128]) (by simp [pureL, AV.pure, go_sem]) rfl ?_
  cases hp : isPortB t n with
  | false =>
    have hq : (decide (0 ≤ n) && decide (n ≤ (t.ports.length : Int) - 1)) = false := by unfold isPortB at hp; grind
    simp only [Tryz.f128, go_sem, ↓reduceIte]
    repeat' (first
      | ((first | refine PCallK.intro (c_within _ _ _) ?_); simp only [go_sem, ↓reduceIte, hw, hq])
      | ((first | refine condK_split _ _ _ (fun hc => ?_) (fun hc => ?_) | refine gsel_split _ _ _ _ (fun hc => ?_) (fun hc => ?_)) <;> simp only [go_sem, ↓reduceIte, hc, Bool.not_true, Bool.not_false, hw, hq]))
    rw [innerB, hp, Bool.false_and]
  | true =>
    obtain ⟨h1, h2, p, h3, h4, h5⟩ := port_get hp
    have hq : (decide (0 ≤ n) && decide (n ≤ (t.ports.length : Int) - 1)) = true := by grind
    simp only [Tryz.f128, go_sem, ↓reduceIte]
    repeat' (first
      | ((first | refine PCallK.intro (c_within _ _ _) ?_); simp only [go_sem, ↓reduceIte, hw, hq, h1, h2, h5])
      | ((first | refine condK_split _ _ _ (fun hc => ?_) (fun hc => ?_) | refine gsel_split _ _ _ _ (fun hc => ?_) (fun hc => ?_)) <;> simp only [go_sem, ↓reduceIte, hc, Bool.not_true, Bool.not_false, hw, hq, h1, h2, h5]))
    all_goals first
      | (exfalso; simp at hc; omega)
      | (rw [innerB, hp, Bool.true_and, h4]; done)
      | grind [innerB]

theorem p_outer (t : Tenant) (n : Int) : PCall Tryz.prog 61 [.agg t.c, .int .i64 n] (.bool (decide (0 ≤ edgeOf t n))) := by
  refine PCall.of h61 mixed h61_d Tryz.func61 rfl call61 (by simp [Tryz.f61]) (by simp [pureL, AV.pure, go_sem]) rfl ?_
  simp only [Tryz.f61, go_sem, ↓reduceIte]
  repeat' (first
    | ((first | refine PCallK.intro (c_Edge _ _) ?_); simp only [go_sem, ↓reduceIte])
    | ((first | refine condK_split _ _ _ (fun hc => ?_) (fun hc => ?_) | refine gsel_split _ _ _ _ (fun hc => ?_) (fun hc => ?_)) <;> simp only [go_sem, ↓reduceIte, hc, Bool.not_true, Bool.not_false]))

theorem p_cp1 (x : Port) : PCall Tryz.prog 121 [.agg x.c] (.str x.name) := by
  refine PCall.of h121 mixed h121_d Tryz.func121 rfl call121 (by simp [Tryz.f121]) (by simp [pureL, AV.pure, go_sem]) rfl ?_
  simp only [Tryz.f121, go_sem, ↓reduceIte]

theorem p_cp2 (x : Port) (hb : x.name.size ≤ 1073741824) : PCall Tryz.prog 124 [.agg x.c] (.bool (!nmB x.name)) := by
  refine PCall.of h124 mixed h124_d Tryz.func124 rfl call124 (by simp [Tryz.f124]) (by simp [pureL, AV.pure, go_sem]) rfl ?_
  simp only [Tryz.f124, go_sem, ↓reduceIte]
  repeat' (first
    | ((first | refine PCallK.intro (p_fName _ hb) ?_); simp only [go_sem, ↓reduceIte])
    | ((first | refine condK_split _ _ _ (fun hc => ?_) (fun hc => ?_) | refine gsel_split _ _ _ _ (fun hc => ?_) (fun hc => ?_)) <;> simp only [go_sem, ↓reduceIte, hc, Bool.not_true, Bool.not_false]))

theorem p_cp4 (x : Wire) : PCall Tryz.prog 130 [.agg x.c] (.int .i64 x.src) := by
  refine PCall.of h130 mixed h130_d Tryz.func130 rfl call130 (by simp [Tryz.f130]) (by simp [pureL, AV.pure, go_sem]) rfl ?_
  simp only [Tryz.f130, go_sem, ↓reduceIte]

theorem p_cp3 {H : Heap} (t : Tenant) (x : Wire) (o : Nat) (ho : H[o]? = some (some t.c)) : SCall Tryz.prog 127 [.agg x.c, .ptr o 0] H (.bool (!(pwr t x))) := by
  refine ACall.drop rfl ?_
  refine ACall.of h127 rfl mixed h127_d Tryz.func127 rfl call127 (by simp [Tryz.f127]) ?_
  have ho' : ∀ z, (H ++ z)[o]? = some (some t.c) := fun z => by
    have := (List.getElem?_eq_some_iff.1 ho).1
    rw [List.getElem?_append_left this]; exact ho
  simp only [Tryz.f127, go_sem, ↓reduceIte, ho']
  repeat' (first
    | ((first | refine PCallK.intro (p_inner _ _) ?_); simp only [go_sem, ↓reduceIte, ho'])
    | ((first | refine condK_split _ _ _ (fun hc => ?_) (fun hc => ?_) | refine gsel_split _ _ _ _ (fun hc => ?_) (fun hc => ?_)) <;> simp only [go_sem, ↓reduceIte, hc, Bool.not_true, Bool.not_false, ho']))
  all_goals (unfold pwr; grind)

theorem repGo_okGo {α : Type} (p : α → Bool) (q : α → α → Bool) (f : α → AV) (hq : ∀ x y, keyEq (f y) (f x) = q y x) (l : List α) : ∀ (i : Nat) (r : List α), okGo p q l i r = (r.all p && !(repGo f l i r))
  | _, [] => rfl
  | i, x :: r => by
    rw [okGo, repGo, List.all_cons, repGo_okGo p q f hq l (i + 1) r]
    have : (l.take i).any (fun y => keyEq (f y) (f x)) = (l.take i).any (fun y => q y x) := by congr 1; funext y; exact hq x y
    rw [this]
    cases p x <;> cases (l.take i).any (fun y => q y x) <;> simp

end Go.AI
