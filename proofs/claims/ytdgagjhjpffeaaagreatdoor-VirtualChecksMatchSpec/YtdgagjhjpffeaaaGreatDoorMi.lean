/- Contracts: networks, fields. -/
import Derived.Test.YtdgagjhjpffeaaaGreatDoorMh
import Derived.Test.YtdgagjhjpffeaaaGreatDoorMs
import Derived.Test.YtdgagjhjpffeaaaGreatDoorMe
import Derived.Test.YtdgagjhjpffeaaaGreatDoorMf
set_option linter.unusedSimpArgs false
set_option linter.unusedVariables false
namespace Go.AI
open Go.Proofs
set_option maxRecDepth 50000

theorem c_named (l : List ByteArray) (hn : l.length ≤ 1073741824) (hl : ∀ y ∈ l, y.size ≤ 1073741824) : PCall Tryz.prog 112 [.sl none (lStr l)] (.bool (okAll pna qna l)) := by
  refine PCall.of h112 mixed h112_d Tryz.func112 rfl call112 (by simp [Tryz.f112]) (by simp [pureL, AV.pure, go_sem]) rfl ?_
  simp only [Tryz.f112, go_sem, ↓reduceIte]
  refine awp_all l (fun r => okGo pna qna l (l.length - r.length) r) (fun k => [(0, .sl none (lStr l)), (3, .int .i64 k)]) (by omega) rfl ?_ ?_
  · intro k y ys hd hx hF2 h0 h1 hw
    have hk2 := drop_len hd
    have hmy := List.mem_of_getElem? hx
    have e1 : l.length - (ys.length + 1) = k := by omega
    have e2 : l.length - ys.length = k + 1 := by omega
    have ht : (l.take k).length = k := take_len (by omega)
    simp only [List.length_cons, e1, Nat.sub_self] at hF2
    simp only [go_sem, ↓reduceIte, h0, h1, lStr_get hx, toList_beq]
    repeat' (first
      | ((first | refine PCallK.intro (c_Name8 _ (hl y hmy)) ?_); simp only [go_sem, ↓reduceIte, h0, h1, hw, lStr_get hx, toList_beq])
      | ((first | refine condK_split _ _ _ (fun hc => ?_) (fun hc => ?_) | refine gsel_split _ _ _ _ (fun hc => ?_) (fun hc => ?_)) <;> simp only [go_sem, ↓reduceIte, hc, Bool.not_true, Bool.not_false, h0, h1, hw, lStr_get hx, toList_beq]))
    all_goals first
      | (have hp : pna y = false := by grind [pna, qna]
         have h5 : okGo pna qna l 0 l = false := by rw [hF2, okGo, hp]; rfl
         have h6 : okAll pna qna l = false := h5
         grind [pna, qna])
      | skip
    have hp : pna y = true := by grind [pna, qna]
    refine awp_all (l.take k) (fun r => r.any (fun z => qna z y)) (fun i => [(0, .sl none (lStr l)), (3, .int .i64 k), (5, .int .i64 i)]) (by omega) rfl ?_ ?_
    · intro i z zs hd3 hx3 hF3 h03 h13 hw3
      rw [ht] at h13
      have hx4 := take_get hx3
      have h14 : (i : Int) < (l.length : Int) := by omega
      have hmz := List.mem_of_getElem? hx4
      simp only [go_sem, ↓reduceIte, h03, h13, h14, h0, h1, lStr_get hx4, lStr_get hx, toList_beq]
      repeat' (first
        | ((first | refine condK_split _ _ _ (fun hc => ?_) (fun hc => ?_) | refine gsel_split _ _ _ _ (fun hc => ?_) (fun hc => ?_)) <;> simp only [go_sem, ↓reduceIte, hc, Bool.not_true, Bool.not_false, h03, h13, h14, hw3, h0, h1, lStr_get hx4, lStr_get hx, toList_beq]))
      all_goals first
        | (have hq : qna z y = true := by grind [pna, qna]
           have h5 : okGo pna qna l 0 l = false := by rw [hF2, okGo, hF3, List.any_cons, hq]; simp
           have h6 : okAll pna qna l = false := h5
           grind [pna, qna])
        | (have hq : qna z y = false := by grind [pna, qna]
           first | (rw [List.any_cons, hq]; rfl) | (rw [hq]; rfl))
        | skip
    · intro hF3 hlt3
      rw [ht] at hlt3
      simp only [go_sem, ↓reduceIte, ht, hlt3, decide_false, hw]
      rw [e1, e2, okGo, hF3, hp]; rfl
  · intro hF2c hlt2
    have hokc : okAll pna qna l = true := by simp only [Nat.sub_self] at hF2c; exact hF2c
    simp only [go_sem, ↓reduceIte, hlt2, decide_false]
    all_goals first
      | rfl
      | (simp only [hokc]; rfl)
      | grind []
      | (simp only [hokc]; grind)
      | (simp [hokc, *]; done)
      | (simp_all [hokc]; done)
      | skip

theorem c_isNode (n : Network) (k : Int) : PCall Tryz.prog 113 [.agg n.c, .int .i64 k] (.bool (isNodeB n k)) := by
  refine PCall.of h113 mixed h113_d Tryz.func113 rfl call113 (by simp [Tryz.f113]) (by simp [pureL, AV.pure, go_sem]) rfl ?_
  simp only [Tryz.f113, go_sem, ↓reduceIte]
  repeat' (first
    | ((first | refine condK_split _ _ _ (fun hc => ?_) (fun hc => ?_) | refine gsel_split _ _ _ _ (fun hc => ?_) (fun hc => ?_)) <;> simp only [go_sem, ↓reduceIte, hc, Bool.not_true, Bool.not_false]))
  all_goals first
    | rfl
    | (simp only [isNodeB]; rfl)
    | grind [isNodeB]
    | (simp only [isNodeB]; grind)
    | (simp [isNodeB, *]; done)
    | (simp_all [isNodeB]; done)
    | skip

set_option maxHeartbeats 2000000 in
theorem c_ckNet (n : Network) (hb : bulkL n.c ≤ 1073741824) : PCall Tryz.prog 49 [.agg n.c] (.int .i64 (ckNet n)) := by
  have b1 := Network.bl_nodes hb
  have b2 := Network.bl_edges hb
  have g1 := lNode_bn b1
  have g2 := lEdge_bn b2
  have g3 := lLink_bn (Network.bl_links hb)
  have n1 : (nodeNames n).length ≤ 1073741824 := by simpa [nodeNames] using g1
  have n2 : (edgeNames n).length ≤ 1073741824 := by simpa [edgeNames] using g2
  have n3 : ∀ y ∈ nodeNames n, y.size ≤ 1073741824 := by
    intro y hy
    obtain ⟨x, hx, rfl⟩ := List.mem_map.1 hy
    have := lNode_bk b1 hx
    exact Node.bk_name (by simpa only [AV.bulk] using this)
  have n4 : ∀ y ∈ edgeNames n, y.size ≤ 1073741824 := by
    intro y hy
    obtain ⟨x, hx, rfl⟩ := List.mem_map.1 hy
    have := lEdge_bk b2 hx
    exact Edge.bk_name (by simpa only [AV.bulk] using this)
  refine PCall.of h49 mixed h49_d Tryz.func49 rfl call49 (by simp [Tryz.f49]) (by simp [pureL, AV.pure, go_sem]) rfl ?_
  simp only [Tryz.f49, go_sem, ↓reduceIte]
  repeat' (first
    | ((first | refine PCallK.intro (c_Names n g1 g2) ?_ | refine PCallK.intro (c_named _ n1 n3) ?_ | refine PCallK.intro (c_named _ n2 n4) ?_); simp only [go_sem, ↓reduceIte])
    | ((first | refine condK_split _ _ _ (fun hc => ?_) (fun hc => ?_) | refine gsel_split _ _ _ _ (fun hc => ?_) (fun hc => ?_)) <;> simp only [go_sem, ↓reduceIte, hc, Bool.not_true, Bool.not_false]))
  all_goals first
    | rfl
    | (simp only [ckNet]; rfl)
    | grind [ckNet]
    | (simp only [ckNet]; grind)
    | (simp [ckNet, *]; done)
    | (simp_all [ckNet]; done)
    | skip
  refine awp_all n.nodes (fun r => r.all (nodeB n)) (fun k => [(1, .ptr 0 0), (7, .int .i64 k)]) (by omega) rfl ?_ ?_
  · intro k y ys hd hx hF h0 h1 hw
    simp only [go_sem, ↓reduceIte, h0, h1, lNode_get hx]
    repeat' (first
      | ((first | refine condK_split _ _ _ (fun hc => ?_) (fun hc => ?_) | refine gsel_split _ _ _ _ (fun hc => ?_) (fun hc => ?_)) <;> simp only [go_sem, ↓reduceIte, hc, Bool.not_true, Bool.not_false, h0, h1, hw, lNode_get hx]))
    all_goals first
      | (have hp : nodeB n y = false := by grind [nodeB]
         have h5 : n.nodes.all (nodeB n) = false := by rw [hF, List.all_cons, hp]; rfl
         grind [ckNet])
      | (have hp : nodeB n y = true := by grind [nodeB]
         first | (rw [List.all_cons, hp]; rfl) | (rw [hp]; rfl))
      | skip
  · intro hF hlt
    have k1 : n.nodes.all (nodeB n) = true := by rw [hF]; rfl
    simp only [go_sem, ↓reduceIte, hlt, decide_false]
    refine awp_all n.links (fun r => r.all (linkB n)) (fun k => [(1, .ptr 0 0), (9, .int .i64 k)]) (by omega) rfl ?_ ?_
    · intro k y ys hd hx hF h0 h1 hw
      simp only [go_sem, ↓reduceIte, h0, h1, lLink_get hx]
      repeat' (first
        | ((first | refine PCallK.intro (c_isNode _ _) ?_); simp only [go_sem, ↓reduceIte, h0, h1, hw, lLink_get hx])
        | ((first | refine condK_split _ _ _ (fun hc => ?_) (fun hc => ?_) | refine gsel_split _ _ _ _ (fun hc => ?_) (fun hc => ?_)) <;> simp only [go_sem, ↓reduceIte, hc, Bool.not_true, Bool.not_false, h0, h1, hw, lLink_get hx]))
      all_goals first
        | (have hp : linkB n y = false := by grind [linkB]
           have h5 : n.links.all (linkB n) = false := by rw [hF, List.all_cons, hp]; rfl
           grind [ckNet])
        | (have hp : linkB n y = true := by grind [linkB]
           first | (rw [List.all_cons, hp]; rfl) | (rw [hp]; rfl))
        | skip
    · intro hF2 hlt2
      have k2 : n.links.all (linkB n) = true := by rw [hF2]; rfl
      simp only [go_sem, ↓reduceIte, hlt2, decide_false]
      refine awp_all n.edges (fun r => r.all (fun x => isNodeB n x.node)) (fun k => [(1, .ptr 0 0), (11, .int .i64 k)]) (by omega) rfl ?_ ?_
      · intro k y ys hd hx hF h0 h1 hw
        simp only [go_sem, ↓reduceIte, h0, h1, lEdge_get hx]
        repeat' (first
          | ((first | refine PCallK.intro (c_isNode _ _) ?_); simp only [go_sem, ↓reduceIte, h0, h1, hw, lEdge_get hx])
          | ((first | refine condK_split _ _ _ (fun hc => ?_) (fun hc => ?_) | refine gsel_split _ _ _ _ (fun hc => ?_) (fun hc => ?_)) <;> simp only [go_sem, ↓reduceIte, hc, Bool.not_true, Bool.not_false, h0, h1, hw, lEdge_get hx]))
        all_goals first
          | (have hp : isNodeB n y.node = false := by grind
             have h5 : n.edges.all (fun x => isNodeB n x.node) = false := by rw [hF, List.all_cons, hp]; rfl
             grind [ckNet])
          | (have hp : isNodeB n y.node = true := by grind
             first | (rw [List.all_cons, hp]; rfl) | (rw [hp]; rfl))
          | skip
      · intro hF3 hlt3
        have k3 : n.edges.all (fun x => isNodeB n x.node) = true := by rw [hF3]; rfl
        simp only [go_sem, ↓reduceIte, hlt3, decide_false]
        all_goals first
          | rfl
          | (simp only [ckNet]; rfl)
          | grind [ckNet]
          | (simp only [ckNet]; grind)
          | (simp [ckNet, *]; done)
          | (simp_all [ckNet]; done)
          | skip

theorem c_fewN (n : Network) (a b c : Int) : PCall Tryz.prog 48 [.agg n.c, .int .i64 a, .int .i64 b, .int .i64 c] (.bool (fewN n a b c)) := by
  refine PCall.of h48 mixed h48_d Tryz.func48 rfl call48 (by simp [Tryz.f48]) (by simp [pureL, AV.pure, go_sem]) rfl ?_
  simp only [Tryz.f48, go_sem, ↓reduceIte]
  repeat' (first
    | ((first | refine condK_split _ _ _ (fun hc => ?_) (fun hc => ?_) | refine gsel_split _ _ _ _ (fun hc => ?_) (fun hc => ?_)) <;> simp only [go_sem, ↓reduceIte, hc, Bool.not_true, Bool.not_false]))
  all_goals first
    | rfl
    | (simp only [fewN]; rfl)
    | grind [fewN]
    | (simp only [fewN]; grind)
    | (simp [fewN, *]; done)
    | (simp_all [fewN]; done)
    | skip

theorem c_place (f : Fld) : PCall Tryz.prog 115 [.agg f.c] (.bool (placeB f)) := by
  refine PCall.of h115 mixed h115_d Tryz.func115 rfl call115 (by simp [Tryz.f115]) (by simp [pureL, AV.pure, go_sem]) rfl ?_
  simp only [Tryz.f115, go_sem, ↓reduceIte]
  repeat' (first
    | ((first | refine condK_split _ _ _ (fun hc => ?_) (fun hc => ?_) | refine gsel_split _ _ _ _ (fun hc => ?_) (fun hc => ?_)) <;> simp only [go_sem, ↓reduceIte, hc, Bool.not_true, Bool.not_false]))
  all_goals first
    | grind [placeB]
    | (simp only [decide_eq_true_eq] at *
       refine ⟨by decide, ?_⟩
       rw [Int.tmod_eq_emod_of_nonneg (by omega), w64 (by omega) (by omega)]
       grind [placeB])

theorem c_common (a b : Fld) : PCall Tryz.prog 116 [.agg a.c, .agg b.c] (.bool (commonB a b)) := by
  refine PCall.of h116 mixed h116_d Tryz.func116 rfl call116 (by simp [Tryz.f116]) (by simp [pureL, AV.pure, go_sem]) rfl ?_
  simp only [Tryz.f116, go_sem, ↓reduceIte]
  repeat' (first
    | ((first | refine condK_split _ _ _ (fun hc => ?_) (fun hc => ?_) | refine gsel_split _ _ _ _ (fun hc => ?_) (fun hc => ?_)) <;> simp only [go_sem, ↓reduceIte, hc, Bool.not_true, Bool.not_false]))
  all_goals first
    | rfl
    | (simp only [commonB, i64]; rfl)
    | grind [commonB, i64]
    | (simp only [commonB, i64]; grind)
    | (simp [commonB, i64, *]; done)
    | (simp_all [commonB, i64]; done)
    | skip

end Go.AI

namespace Go.AI
open Go.Proofs
set_option maxRecDepth 50000

set_option maxHeartbeats 2000000 in
theorem c_ckF (l : List Fld) (hb : bulkL (lFld l) ≤ 1073741824) : PCall Tryz.prog 50 [.sl none (lFld l)] (.int .i64 (ckF l)) := by
  have hn := lFld_bn hb
  refine PCall.of h50 mixed h50_d Tryz.func50 rfl call50 (by simp [Tryz.f50]) (by simp [pureL, AV.pure, go_sem]) rfl ?_
  simp only [Tryz.f50, go_sem, ↓reduceIte]
  repeat' (first
    | ((first | refine condK_split _ _ _ (fun hc => ?_) (fun hc => ?_) | refine gsel_split _ _ _ _ (fun hc => ?_) (fun hc => ?_)) <;> simp only [go_sem, ↓reduceIte, hc, Bool.not_true, Bool.not_false]))
  all_goals first
    | rfl
    | (simp only [ckF]; rfl)
    | grind [ckF]
    | (simp only [ckF]; grind)
    | (simp [ckF, *]; done)
    | (simp_all [ckF]; done)
    | skip
  refine awp_all l (fun r => ckFGo l (l.length - r.length) r) (fun k => [(0, .sl none (lFld l)), (3, .int .i64 k)]) (by omega) rfl ?_ ?_
  · intro k y ys hd hx hF2 h0 h1 hw
    have hk2 := drop_len hd
    have e1 : l.length - (ys.length + 1) = k := by omega
    have e2 : l.length - ys.length = k + 1 := by omega
    have ht : (l.take k).length = k := take_len (by omega)
    have hby : bulkL y.c ≤ 1073741824 := by have := lFld_bk hb (List.mem_of_getElem? hx); simpa only [AV.bulk] using this
    simp only [List.length_cons, e1, Nat.sub_self] at hF2
    simp only [go_sem, ↓reduceIte, h0, h1, lFld_get hx, toList_beq]
    repeat' (first
      | ((first | refine PCallK.intro (c_Name8 _ (Fld.bk_name hby)) ?_); simp only [go_sem, ↓reduceIte, h0, h1, hw, lFld_get hx, toList_beq])
      | ((first | refine condK_split _ _ _ (fun hc => ?_) (fun hc => ?_) | refine gsel_split _ _ _ _ (fun hc => ?_) (fun hc => ?_)) <;> simp only [go_sem, ↓reduceIte, hc, Bool.not_true, Bool.not_false, h0, h1, hw, lFld_get hx, toList_beq]))
    all_goals first
      | rfl
      | (simp only [ckF, ckFGo, portS]; rfl)
      | grind [ckF, ckFGo, portS]
      | (simp only [ckF, ckFGo, portS]; grind)
      | (simp [ckF, ckFGo, portS, *]; done)
      | (simp_all [ckF, ckFGo, portS]; done)
      | skip
    refine awp_all (l.take k) (fun r => r.any (fun z => decide (z.name = y.name))) (fun i => [(0, .sl none (lFld l)), (3, .int .i64 k), (5, .int .i64 i)]) (by omega) rfl ?_ ?_
    · intro i z zs hd3 hx3 hF3 h03 h13 hw3
      rw [ht] at h13
      have hx4 := take_get hx3
      have h14 : (i : Int) < (l.length : Int) := by omega
      simp only [go_sem, ↓reduceIte, h03, h13, h14, h0, h1, lFld_get hx4, lFld_get hx, toList_beq]
      repeat' (first
        | ((first | refine condK_split _ _ _ (fun hc => ?_) (fun hc => ?_) | refine gsel_split _ _ _ _ (fun hc => ?_) (fun hc => ?_)) <;> simp only [go_sem, ↓reduceIte, hc, Bool.not_true, Bool.not_false, h03, h13, h14, hw3, h0, h1, lFld_get hx4, lFld_get hx, toList_beq]))
      all_goals first
        | (have h5 : (l.take k).any (fun z => decide (z.name = y.name)) = true := by rw [hF3, List.any_cons, hc]; rfl
           grind [ckF, ckFGo, portS])
        | (first | (rw [List.any_cons, hc]; rfl) | (rw [hc]; rfl))
        | skip
    · intro hF3 hlt3
      rw [ht] at hlt3
      have k1 : (l.take k).any (fun z => decide (z.name = y.name)) = false := by rw [hF3]; rfl
      simp only [go_sem, ↓reduceIte, ht, hlt3, decide_false, h0, h1, lFld_get hx]
      repeat' (first
        | ((first | refine PCallK.intro (c_place _) ?_); simp only [go_sem, ↓reduceIte, h0, h1, hw, lFld_get hx])
        | ((first | refine condK_split _ _ _ (fun hc => ?_) (fun hc => ?_) | refine gsel_split _ _ _ _ (fun hc => ?_) (fun hc => ?_)) <;> simp only [go_sem, ↓reduceIte, hc, Bool.not_true, Bool.not_false, h0, h1, hw, lFld_get hx]))
      all_goals first
        | rfl
        | (simp only [ckF, ckFGo, portS]; rfl)
        | grind [ckF, ckFGo, portS]
        | (simp only [ckF, ckFGo, portS]; grind)
        | (simp [ckF, ckFGo, portS, *]; done)
        | (simp_all [ckF, ckFGo, portS]; done)
        | skip
      refine awp_all (l.take k) (fun r => r.any (fun z => commonB z y)) (fun i => [(0, .sl none (lFld l)), (3, .int .i64 k), (7, .int .i64 i)]) (by omega) rfl ?_ ?_
      · intro i z zs hd4 hx5 hF4 h04 h15 hw4
        rw [ht] at h15
        have hx6 := take_get hx5
        have h14 : (i : Int) < (l.length : Int) := by omega
        simp only [go_sem, ↓reduceIte, h04, h15, h14, h0, h1, lFld_get hx6, lFld_get hx]
        repeat' (first
          | ((first | refine PCallK.intro (c_common _ _) ?_); simp only [go_sem, ↓reduceIte, h04, h15, h14, hw4, h0, h1, lFld_get hx6, lFld_get hx])
          | ((first | refine condK_split _ _ _ (fun hc => ?_) (fun hc => ?_) | refine gsel_split _ _ _ _ (fun hc => ?_) (fun hc => ?_)) <;> simp only [go_sem, ↓reduceIte, hc, Bool.not_true, Bool.not_false, h04, h15, h14, hw4, h0, h1, lFld_get hx6, lFld_get hx]))
        all_goals first
          | (have h5 : (l.take k).any (fun z => commonB z y) = true := by rw [hF4, List.any_cons, hc]; rfl
             grind [ckF, ckFGo, portS])
          | (first | (rw [List.any_cons, hc]; rfl) | (rw [hc]; rfl))
          | skip
      · intro hF4 hlt4
        rw [ht] at hlt4
        have k2 : (l.take k).any (fun z => commonB z y) = false := by rw [hF4]; rfl
        simp only [go_sem, ↓reduceIte, ht, hlt4, decide_false, hw]
        rw [e1, e2]
        grind [ckFGo, portS]
  · intro hF2 hlt2
    simp only [go_sem, ↓reduceIte, hlt2, decide_false]
    all_goals first
      | rfl
      | (simp only [ckF, ckFGo]; rfl)
      | grind [ckF, ckFGo]
      | (simp only [ckF, ckFGo]; grind)
      | (simp [ckF, ckFGo, *]; done)
      | (simp_all [ckF, ckFGo]; done)
      | skip

theorem c_rightT (s : Setup) (t : Tenant) (hs : bulkL s.c ≤ 1073741824) (hb : bulkL t.c ≤ 1073741824) : PCall Tryz.prog 14 [.agg s.c, .agg t.c] (.bool (rightT s t)) := by
  refine PCall.of h14 mixed h14_d Tryz.func14 rfl call14 (by simp [Tryz.f14]) (by simp [pureL, AV.pure, go_sem]) rfl ?_
  by_cases hck : ckF s.fields = 0
  · have hl : okF s.fields := fun f hf => Int.le_trans (ckF_width hck f hf) (by decide)
    simp only [Tryz.f14, go_sem, ↓reduceIte]
    repeat' (first
      | ((first | refine PCallK.intro (c_fewT _) ?_ | refine PCallK.intro (c_fewN _ _ _ _) ?_ | refine PCallK.intro (c_ckNet _ (Setup.bs_network hs)) ?_ | refine PCallK.intro (c_ckF _ (Setup.bl_fields hs)) ?_ | refine PCallK.intro (c_ck18 _ _ hl hs hb) ?_); simp only [go_sem, ↓reduceIte])
      | ((first | refine condK_split _ _ _ (fun hc => ?_) (fun hc => ?_) | refine gsel_split _ _ _ _ (fun hc => ?_) (fun hc => ?_)) <;> simp only [go_sem, ↓reduceIte, hc, Bool.not_true, Bool.not_false]))
    all_goals first
      | rfl
      | (simp only [rightT]; rfl)
      | grind [rightT]
      | (simp only [rightT]; grind)
      | (simp [rightT, *]; done)
      | (simp_all [rightT]; done)
      | skip
  · have hck2 : (ckF s.fields != 0) = true := by simpa using hck
    simp only [Tryz.f14, go_sem, ↓reduceIte]
    repeat' (first
      | ((first | refine PCallK.intro (c_fewT _) ?_ | refine PCallK.intro (c_fewN _ _ _ _) ?_ | refine PCallK.intro (c_ckNet _ (Setup.bs_network hs)) ?_ | refine PCallK.intro (c_ckF _ (Setup.bl_fields hs)) ?_); simp only [go_sem, ↓reduceIte, hck2])
      | ((first | refine condK_split _ _ _ (fun hc => ?_) (fun hc => ?_) | refine gsel_split _ _ _ _ (fun hc => ?_) (fun hc => ?_)) <;> simp only [go_sem, ↓reduceIte, hc, Bool.not_true, Bool.not_false, hck2]))
    all_goals first
      | rfl
      | (simp only [rightT]; rfl)
      | grind [rightT]
      | (simp only [rightT]; grind)
      | (simp [rightT, *]; done)
      | (simp_all [rightT]; done)
      | skip

def Head.l (h : Head) : List Int := [h.h0, h.h1, h.h2, h.h3, h.h4, h.h5, h.h6, h.h7, h.h8, h.h9]
theorem Head.c_l (h : Head) : h.c = h.l.map (.int .i64) := rfl
def rightH (h : Head) : Bool := h.l.all wordB16

theorem c_rightH6 (h : Head) : PCall Tryz.prog 71 [.agg h.c] (.bool (rightH h)) := by
  refine PCall.of h71 mixed h71_d Tryz.func71 rfl call71 (by simp [Tryz.f71]) (by simp [pureL, AV.pure, go_sem]) rfl ?_
  simp only [Tryz.f71, go_sem, ↓reduceIte]
  refine awp_all h.l (fun r => r.all wordB16) (fun k => [(1, .ptr 0 0), (3, .int .i64 k)]) (by simp [Head.l]) rfl ?_ ?_
  · intro k y ys hd hx hF h0 h1 hw
    have h2 : (k : Int) < 10 := h1
    have h3 : (k : Int) < ((10 : Nat) : Int) := h1
    have hg : h.c[k]? = some (.int .i64 y) := by rw [Head.c_l, List.getElem?_map, hx]; rfl
    simp only [go_sem, ↓reduceIte, h0, h2, h3, hg]
    repeat' (first
      | ((first | refine condK_split _ _ _ (fun hc => ?_) (fun hc => ?_) | refine gsel_split _ _ _ _ (fun hc => ?_) (fun hc => ?_)) <;> simp only [go_sem, ↓reduceIte, hc, Bool.not_true, Bool.not_false, h0, h2, h3, hg, hw]))
    all_goals first
      | rfl
      | (simp only [rightH, wordB16]; rfl)
      | grind [rightH, wordB16]
      | (simp only [rightH, wordB16]; grind)
      | (simp [rightH, wordB16, *]; done)
      | (simp_all [rightH, wordB16]; done)
      | skip
  · intro hF hlt
    have h2 : ¬ ((h.l.length : Nat) : Int) < 10 := by simp [Head.l]
    simp only [go_sem, ↓reduceIte, h2, decide_false]
    rw [rightH, hF]; rfl

theorem c_rightH (h : Head) : PCall Tryz.prog 15 [.agg h.c] (.bool (rightH h)) := by
  refine PCall.of h15 mixed h15_d Tryz.func15 rfl call15 (by simp [Tryz.f15]) (by simp [pureL, AV.pure, go_sem]) rfl ?_
  simp only [Tryz.f15, go_sem, ↓reduceIte]
  repeat' (first
    | ((first | refine PCallK.intro (c_rightH6 _) ?_); simp only [go_sem, ↓reduceIte])
    | ((first | refine condK_split _ _ _ (fun hc => ?_) (fun hc => ?_) | refine gsel_split _ _ _ _ (fun hc => ?_) (fun hc => ?_)) <;> simp only [go_sem, ↓reduceIte, hc, Bool.not_true, Bool.not_false]))

end Go.AI

namespace Go.AI
open Go.Proofs
set_option maxRecDepth 50000

@[go_sem] theorem z0_10 : ((0 : Int) < ((10 : Nat) : Int)) = True := by decide
@[go_sem] theorem z9_10 : ((9 : Int) < ((10 : Nat) : Int)) = True := by decide

theorem set_end (H : Heap) (x y : Option (List AV)) : (H ++ [x]).set H.length y = H ++ [y] := by simp
attribute [go_sem] set_end List.getElem?_concat_length

def rfPost (n : Nat) (Q : Exit → Kt) (e : Env) (H2 : Heap) : Prop :=
  ∃ st av, H2[n]? = some (some (loopc st av)) ∧ ((st = 0 ∧ Q .normal e (H2.set n none)) ∨ (st = -2 ∧ Q .ret e (H2.set n none)) ∨ ∃ k : Nat, st = (k : Int) + 1 ∧ Q (.exit k) e (H2.set n none))

theorem rfK_intro {P : Program} {n tag : Nat} {h : Hint} {g : Operand} {rs : Array Tmp} {assign body : Code} {Q : Exit → Kt} {e : Env} {H : Heap} {f : FuncId} {first captured : List AV}
    (hg : evo P none e g = .fn (.func f) first captured)
    (hc : ACall P f (first.map AV.borrow ++ [.yld H.length ⟨tag, rs, assign, body⟩] ++ captured.map AV.borrow) (H ++ [some (loopc 0 (frameVals n e))]) (fun _ H2 => rfPost H.length Q e H2)) : rfK P n h none g rs assign body Q e H :=
  ⟨trivial, tag, f, first, captured, hg, hc⟩

def edgeOf (t : Tenant) (n : Int) : Int := if isPortB t n = true then edgeAt t n else -1
def portIdx (e : Int) : Nat → List Port → Int
  | _, [] => -1
  | i, x :: r => if 0 ≤ e ∧ x.edge = e then (i : Int) else portIdx e (i + 1) r
def portOf (t : Tenant) (e : Int) : Int := portIdx e 0 t.ports
def portIdx2 (e : Int) : Nat → List Port → Int
  | _, [] => -1
  | i, x :: r => if x.edge ≠ -1 ∧ x.edge = e then (i : Int) else portIdx2 e (i + 1) r
def portOf2 (t : Tenant) (e : Int) : Int := portIdx2 e 0 t.ports
def enterH (p : Int) (h : Head) : Head × Bool := if p < 0 then (Head.z, false) else ({ { h with h0 := p } with h9 := 0 }, true)
def exitH (e : Int) (h : Head) : Head × Bool := if e < 0 then (Head.z, false) else ({ h with h0 := i64 (10000 + e) }, true)

theorem c_within (n lo hi : Int) : PCall Tryz.prog 62 [.int .i64 n, .int .i64 lo, .int .i64 hi] (.bool (decide (lo ≤ n) && decide (n ≤ hi))) := by
  refine PCall.of h62 mixed h62_d Tryz.func62 rfl call62 (by simp [Tryz.f62]) (by simp [pureL, AV.pure, go_sem]) rfl ?_
  simp only [Tryz.f62, go_sem, ↓reduceIte]
  repeat' (first
    | ((first | refine condK_split _ _ _ (fun hc => ?_) (fun hc => ?_) | refine gsel_split _ _ _ _ (fun hc => ?_) (fun hc => ?_)) <;> simp only [go_sem, ↓reduceIte, hc, Bool.not_true, Bool.not_false]))
  all_goals grind

theorem c_Edge (t : Tenant) (n : Int) : PCall Tryz.prog 20 [.agg t.c, .int .i64 n] (.int .i64 (edgeOf t n)) := by
  refine PCall.fit call20 fun hf => ?_
  have hl := Tenant.fit_ports (fit1 hf)
  have hw : IntKind.i64.wrap ((t.ports.length : Int) - 1) = (t.ports.length : Int) - 1 := w64 (by omega) (by omega)
  refine PCall.of h20 mixed h20_d Tryz.func20 rfl call20 (by simp [Tryz.f20]) (by simp [pureL, AV.pure, go_sem]) rfl ?_
  cases hp : isPortB t n with
  | false =>
    have hq : (decide (0 ≤ n) && decide (n ≤ (t.ports.length : Int) - 1)) = false := by unfold isPortB at hp; grind
    simp only [Tryz.f20, go_sem, ↓reduceIte]
    repeat' (first
      | ((first | refine PCallK.intro (c_within _ _ _) ?_); simp only [go_sem, ↓reduceIte, hw, hq])
      | ((first | refine condK_split _ _ _ (fun hc => ?_) (fun hc => ?_) | refine gsel_split _ _ _ _ (fun hc => ?_) (fun hc => ?_)) <;> simp only [go_sem, ↓reduceIte, hc, Bool.not_true, Bool.not_false, hw, hq]))
    all_goals first
      | rfl
      | (simp only [edgeOf, hp]; rfl)
      | grind [edgeOf]
      | (simp only [edgeOf, hp]; grind)
      | (simp [edgeOf, hp, *]; done)
      | (simp_all [edgeOf, hp]; done)
      | skip
  | true =>
    obtain ⟨h1, h2, p, h3, h4, h5⟩ := port_get hp
    have hq : (decide (0 ≤ n) && decide (n ≤ (t.ports.length : Int) - 1)) = true := by grind
    simp only [Tryz.f20, go_sem, ↓reduceIte]
    repeat' (first
      | ((first | refine PCallK.intro (c_within _ _ _) ?_); simp only [go_sem, ↓reduceIte, hw, hq, h1, h2, h5])
      | ((first | refine condK_split _ _ _ (fun hc => ?_) (fun hc => ?_) | refine gsel_split _ _ _ _ (fun hc => ?_) (fun hc => ?_)) <;> simp only [go_sem, ↓reduceIte, hc, Bool.not_true, Bool.not_false, hw, hq, h1, h2, h5]))
    all_goals first
      | rfl
      | (simp only [edgeOf, hp]; rfl)
      | grind [edgeOf]
      | (simp only [edgeOf, hp]; grind)
      | (simp [edgeOf, hp, *]; done)
      | (simp_all [edgeOf, hp]; done)
      | skip

theorem c_Edge18 (t : Tenant) (n : Int) : PCall Tryz.prog 21 [.agg t.c, .int .i64 n] (.int .i64 (edgeOf t n)) := by
  refine PCall.of h21 mixed h21_d Tryz.func21 rfl call21 (by simp [Tryz.f21]) (by simp [pureL, AV.pure, go_sem]) rfl ?_
  cases hp : isPortB t n with
  | false =>
    simp only [Tryz.f21, go_sem, ↓reduceIte]
    repeat' (first
      | ((first | refine PCallK.intro (c_isPort _ _) ?_); simp only [go_sem, ↓reduceIte, hp])
      | ((first | refine condK_split _ _ _ (fun hc => ?_) (fun hc => ?_) | refine gsel_split _ _ _ _ (fun hc => ?_) (fun hc => ?_)) <;> simp only [go_sem, ↓reduceIte, hc, Bool.not_true, Bool.not_false, hp]))
    all_goals first
      | rfl
      | (simp only [edgeOf, hp]; rfl)
      | grind [edgeOf]
      | (simp only [edgeOf, hp]; grind)
      | (simp [edgeOf, hp, *]; done)
      | (simp_all [edgeOf, hp]; done)
      | skip
  | true =>
    obtain ⟨h1, h2, p, h3, h4, h5⟩ := port_get hp
    simp only [Tryz.f21, go_sem, ↓reduceIte]
    repeat' (first
      | ((first | refine PCallK.intro (c_isPort _ _) ?_); simp only [go_sem, ↓reduceIte, hp, h1, h2, h5])
      | ((first | refine condK_split _ _ _ (fun hc => ?_) (fun hc => ?_) | refine gsel_split _ _ _ _ (fun hc => ?_) (fun hc => ?_)) <;> simp only [go_sem, ↓reduceIte, hc, Bool.not_true, Bool.not_false, hp, h1, h2, h5]))
    all_goals first
      | rfl
      | (simp only [edgeOf, hp]; rfl)
      | grind [edgeOf]
      | (simp only [edgeOf, hp]; grind)
      | (simp [edgeOf, hp, *]; done)
      | (simp_all [edgeOf, hp]; done)
      | skip

theorem c_Port18 (t : Tenant) (e : Int) : PCall Tryz.prog 23 [.agg t.c, .int .i64 e] (.int .i64 (portOf t e)) := by
  refine PCall.fit call23 fun hf => ?_
  have hl := Tenant.fit_ports (fit1 hf)
  refine PCall.of h23 mixed h23_d Tryz.func23 rfl call23 (by simp [Tryz.f23]) (by simp [pureL, AV.pure, go_sem]) rfl ?_
  simp only [Tryz.f23, go_sem, ↓reduceIte]
  refine awp_all t.ports (fun r => portIdx e (t.ports.length - r.length) r) (fun k => [(1, .int .i64 e), (2, .ptr 0 0), (5, .int .i64 k)]) hl rfl ?_ ?_
  · intro k y ys hd hx hF h0 h1 hw
    have hk2 := drop_len hd
    have e1 : t.ports.length - (ys.length + 1) = k := by omega
    have e2 : t.ports.length - ys.length = k + 1 := by omega
    simp only [List.length_cons, e1, Nat.sub_self] at hF
    simp only [go_sem, ↓reduceIte, h0, h1, lPort_get hx, e1, e2]
    repeat' (first
      | ((first | refine condK_split _ _ _ (fun hc => ?_) (fun hc => ?_) | refine gsel_split _ _ _ _ (fun hc => ?_) (fun hc => ?_)) <;> simp only [go_sem, ↓reduceIte, hc, Bool.not_true, Bool.not_false, h0, h1, hw, lPort_get hx, e1, e2]))
    all_goals first
      | rfl
      | (simp only [portOf, portIdx]; rfl)
      | grind [portOf, portIdx]
      | (simp only [portOf, portIdx]; grind)
      | (simp [portOf, portIdx, *]; done)
      | (simp_all [portOf, portIdx]; done)
      | skip
  · intro hF hlt
    simp only [go_sem, ↓reduceIte, hlt, decide_false]
    all_goals first
      | rfl
      | (simp only [portOf, portIdx]; rfl)
      | grind [portOf, portIdx]
      | (simp only [portOf, portIdx]; grind)
      | (simp [portOf, portIdx, *]; done)
      | (simp_all [portOf, portIdx]; done)
      | skip

theorem c_Exit (t : Tenant) (h : Head) : PCall Tryz.prog 18 [.agg t.c, .agg h.c] (.tup [.agg (exitH (edgeOf t h.h0) h).1.c, .bool (exitH (edgeOf t h.h0) h).2]) := by
  refine PCall.ofB h18 mixed h18_d Tryz.func18 rfl call18 (by simp [Tryz.f18]) (by simp [pureL, AV.pure, go_sem]) (by simp [pureL, AV.pure, go_sem]) ?_
  simp only [Tryz.f18, go_sem, ↓reduceIte]
  repeat' (first
    | ((first | refine PCallK.intro (c_Edge _ _) ?_); simp only [go_sem, ↓reduceIte])
    | ((first | refine condK_split _ _ _ (fun hc => ?_) (fun hc => ?_) | refine gsel_split _ _ _ _ (fun hc => ?_) (fun hc => ?_)) <;> simp only [go_sem, ↓reduceIte, hc, Bool.not_true, Bool.not_false]))
  all_goals first
    | rfl
    | (simp only [exitH, i64]; rfl)
    | grind [exitH, i64]
    | (simp only [exitH, i64]; grind)
    | (simp [exitH, i64, *]; done)
    | (simp_all [exitH, i64]; done)
    | skip

theorem c_Exit18 (t : Tenant) (h : Head) : PCall Tryz.prog 19 [.agg t.c, .agg h.c] (.tup [.agg (exitH (edgeOf t h.h0) h).1.c, .bool (exitH (edgeOf t h.h0) h).2]) := by
  refine PCall.ofB h19 mixed h19_d Tryz.func19 rfl call19 (by simp [Tryz.f19]) (by simp [pureL, AV.pure, go_sem]) (by simp [pureL, AV.pure, go_sem]) ?_
  simp only [Tryz.f19, go_sem, ↓reduceIte]
  repeat' (first
    | ((first | refine PCallK.intro (c_Edge18 _ _) ?_); simp only [go_sem, ↓reduceIte])
    | ((first | refine condK_split _ _ _ (fun hc => ?_) (fun hc => ?_) | refine gsel_split _ _ _ _ (fun hc => ?_) (fun hc => ?_)) <;> simp only [go_sem, ↓reduceIte, hc, Bool.not_true, Bool.not_false]))
  all_goals first
    | rfl
    | (simp only [exitH, i64]; rfl)
    | grind [exitH, i64]
    | (simp only [exitH, i64]; grind)
    | (simp [exitH, i64, *]; done)
    | (simp_all [exitH, i64]; done)
    | skip

theorem c_Enter18 (t : Tenant) (h : Head) : PCall Tryz.prog 17 [.agg t.c, .agg h.c] (.tup [.agg (enterH (portOf t (i64 (h.h0 - 10000))) h).1.c, .bool (enterH (portOf t (i64 (h.h0 - 10000))) h).2]) := by
  refine PCall.ofB h17 mixed h17_d Tryz.func17 rfl call17 (by simp [Tryz.f17]) (by simp [pureL, AV.pure, go_sem]) (by simp [pureL, AV.pure, go_sem]) ?_
  simp only [Tryz.f17, go_sem, ↓reduceIte]
  repeat' (first
    | ((first | refine PCallK.intro (c_Port18 _ _) ?_); simp only [go_sem, ↓reduceIte])
    | ((first | refine condK_split _ _ _ (fun hc => ?_) (fun hc => ?_) | refine gsel_split _ _ _ _ (fun hc => ?_) (fun hc => ?_)) <;> simp only [go_sem, ↓reduceIte, hc, Bool.not_true, Bool.not_false]))
  all_goals first
    | rfl
    | (simp only [enterH, i64]; rfl)
    | grind [enterH, i64]
    | (simp only [enterH, i64]; grind)
    | (simp [enterH, i64, *]; done)
    | (simp_all [enterH, i64]; done)
    | skip

theorem c_outers (t : Tenant) (H : Heap) : ACall Tryz.prog 73 [.agg t.c] H (fun v H' => v = .fn (.func 152) [] [.ptr H.length 0] ∧ H' = H ++ [some t.c]) := by
  refine ACall.of h73 rfl mixed h73_d Tryz.func73 rfl call73 (by simp [Tryz.f73]) ?_
  simp only [Tryz.f73, go_sem, ↓reduceIte]

theorem c_outersIt (t : Tenant) (hl : t.ports.length ≤ 1073741824) (o p : Nat) (L : LoopRec) (H0 : Heap) (Inv : Nat → Heap → Prop) (Q : Heap → Prop)
    (hp : ∀ k H, Inv k H → H[p]? = some (some t.c)) (hg : ∀ k H x, Inv k H → Inv k (H ++ [x]))
    (round : ∀ k x H, t.ports[k]? = some x → x.edge ≠ -1 → Inv k H → YCall Tryz.prog o L [.int .i64 k, .int .i64 x.edge] H (fun v H' => (v = .bool true ∧ Inv (k + 1) H') ∨ (v = .bool false ∧ Q H')))
    (skip : ∀ k x H, t.ports[k]? = some x → x.edge = -1 → Inv k H → Inv (k + 1) H)
    (fin : ∀ H, Inv t.ports.length H → Q H) (h0 : Inv 0 H0) : ACall Tryz.prog 152 [.yld o L, .ptr p 0] H0 (fun _ H' => Q H') := by
  refine ACall.of h152 rfl mixed h152_d Tryz.func152 rfl call152 (by simp [Tryz.f152]) ?_
  have hp0 := hp 0 H0 h0
  simp only [Tryz.f152, go_sem, ↓reduceIte, hp0]
  refine awp_wh (σ := Nat × Heap) (fun s => [(0, .yld o L), (6, .sl none (lPort t.ports)), (7, .int .i64 t.ports.length), (8, .int .i64 s.1)]) (fun s => s.2) (fun s => s.1 ≤ t.ports.length ∧ Inv s.1 s.2) (fun s => t.ports.length - s.1) (0, H0) ⟨Nat.zero_le _, h0⟩ rfl rfl ?_
  rintro ⟨k, H⟩ ⟨hk, hI⟩
  by_cases hlt : k < t.ports.length
  · obtain ⟨x, hx⟩ : ∃ x, t.ports[k]? = some x := ⟨_, List.getElem?_eq_getElem hlt⟩
    have h0 : (0 : Int) ≤ (k : Int) := by omega
    have h1 : (k : Int) < (t.ports.length : Int) := by omega
    have hw := w64s (k := k) (by omega)
    simp only [go_sem, ↓reduceIte, h0, h1, lPort_get hx, decide_true]
    repeat' (first
      | ((first | refine condK_split _ _ _ (fun hc => ?_) (fun hc => ?_) | refine gsel_split _ _ _ _ (fun hc => ?_) (fun hc => ?_)) <;> simp only [go_sem, ↓reduceIte, hc, Bool.not_true, Bool.not_false, h0, h1, hw, lPort_get hx]))
    · refine YCallK.intro (round k x _ hx (by simpa using hc) (hg _ _ _ hI)) fun v H' hr => ?_
      rcases hr with ⟨rfl, hi⟩ | ⟨rfl, hq⟩
      · simp only [go_sem, ↓reduceIte, hw, Bool.not_true]
        exact ⟨(k + 1, H'), ⟨by omega, hi⟩, by omega, rfl, rfl⟩
      · simp only [go_sem, ↓reduceIte, Bool.not_false]
        exact hq
    · exact ⟨(k + 1, H ++ [some x.c]), ⟨by omega, hg _ _ _ (skip k x H hx (by simpa using hc) hI)⟩, by omega, rfl, rfl⟩
  · have h1 : ¬ (k : Int) < (t.ports.length : Int) := by omega
    have hkl : k = t.ports.length := by omega
    simp only [go_sem, ↓reduceIte, h1, decide_false]
    exact fin H (hkl ▸ hI)

theorem c_Port (t : Tenant) (hl : t.ports.length ≤ 1073741824) (e : Int) : PCall Tryz.prog 22 [.agg t.c, .int .i64 e] (.int .i64 (portOf2 t e)) := by
  refine PCall.of h22 mixed h22_d Tryz.func22 rfl call22 (by simp [Tryz.f22]) (by simp [pureL, AV.pure, go_sem]) rfl ?_
  simp only [Tryz.f22, go_sem, ↓reduceIte]
  refine ACallK.intro (c_outers t _) fun v H' hr => ?_
  obtain ⟨rfl, rfl⟩ := hr
  simp only [go_sem, ↓reduceIte]
  have step : ∀ (k : Nat) (x : Port), t.ports[k]? = some x → portIdx2 e k (t.ports.drop k) = if x.edge ≠ -1 ∧ x.edge = e then (k : Int) else portIdx2 e (k + 1) (t.ports.drop (k + 1)) := fun k x hx => by
    obtain ⟨hlt, rfl⟩ := List.getElem?_eq_some_iff.1 hx
    rw [List.drop_eq_getElem_cons hlt, portIdx2]
  refine rfK_intro (tag := 22) rfl (ACall.mono (c_outersIt t hl 4 3 _ _
    (fun k H => ∃ g, H = some t.c :: some [.int .i64 e] :: some [.int .i64 0] :: some t.c :: some (loopc 0 (frameVals 15 [(3, .ptr 1 0), (4, .ptr 2 0), (8, .fn (.func 152) [] [.ptr 3 0])])) :: g ∧ portOf2 t e = portIdx2 e k (t.ports.drop k))
    (fun H => (∃ g, H = some t.c :: some [.int .i64 e] :: some [.int .i64 0] :: some t.c :: some (loopc 0 (frameVals 15 [(3, .ptr 1 0), (4, .ptr 2 0), (8, .fn (.func 152) [] [.ptr 3 0])])) :: g ∧ portOf2 t e = -1)
      ∨ ∃ g r, H = some t.c :: some [.int .i64 e] :: some [.int .i64 r] :: some t.c :: some (loopc (-2) (frameVals 15 [(3, .ptr 1 0), (4, .ptr 2 0), (8, .fn (.func 152) [] [.ptr 3 0])])) :: g ∧ portOf2 t e = r)
    ?_ ?_ ?_ ?_ ?_ ?_) fun v H2 hq => ?_)
  · rintro k H ⟨g, rfl, _⟩; rfl
  · rintro k H x ⟨g, rfl, h⟩; exact ⟨g ++ [x], rfl, h⟩
  · rintro k x H hx hne ⟨g, rfl, h⟩
    refine ycall_of_awp (h := h22) (n := 15) mixed rfl ⟨by kernel_rfl, by kernel_rfl⟩ (by decide) _ _ _ _ rfl rfl rfl ?_
    show awp _ _ _ _ _ _ [(10, .int .i64 x.edge), (9, .int .i64 k), (0, .undef), (1, .undef), (2, .undef), (3, .ptr 1 0), (4, .ptr 2 0), (5, .undef), (6, .undef), (7, .undef), (8, .fn (.func 152) [] [.ptr 3 0]), (9, .undef), (10, .undef), (11, .undef), (12, .undef), (13, .undef), (14, .undef)] _
    simp only [go_sem, ↓reduceIte]
    refine ⟨_, rfl, condK_split _ _ _ (fun hc => ?_) (fun hc => ?_)⟩
    · simp only [go_sem, ↓reduceIte, hc]
      exact ⟨_, rfl, .inr (.inr ⟨g, (k : Int), rfl, by rw [h, step k x hx, if_pos ⟨hne, by simpa using hc⟩]⟩)⟩
    · simp only [go_sem, ↓reduceIte, hc]
      first
        | exact ⟨_, rfl, g, rfl, by rw [h, step k x hx, if_neg (fun c => by rw [c.2] at hc; simp at hc)]⟩
        | exact ⟨_, rfl, .inl ⟨g, rfl, by rw [h, step k x hx, if_neg (fun c => by rw [c.2] at hc; simp at hc)]⟩⟩
  · rintro k x H hx hne ⟨g, rfl, h⟩
    exact ⟨g, rfl, by rw [h, step k x hx, if_neg (fun c => c.1 hne)]⟩
  · rintro H ⟨g, rfl, h⟩
    exact .inl ⟨g, rfl, by rw [h, List.drop_length]; rfl⟩
  · exact ⟨[], rfl, rfl⟩
  · rcases hq with ⟨g, rfl, h⟩ | ⟨g, r, rfl, h⟩
    · refine ⟨0, _, rfl, .inl ⟨rfl, ?_⟩⟩
      show blkK 0 _ .normal _ (some t.c :: some [.int .i64 e] :: some [.int .i64 0] :: some t.c :: none :: g)
      simp only [go_sem, ↓reduceIte, h]
      all_goals skip
    · refine ⟨-2, _, rfl, .inr (.inl ⟨rfl, ?_⟩)⟩
      show blkK 0 _ .ret _ (some t.c :: some [.int .i64 e] :: some [.int .i64 r] :: some t.c :: none :: g)
      simp only [go_sem, ↓reduceIte, h]
      all_goals skip

theorem c_Enter (t : Tenant) (hl : t.ports.length ≤ 1073741824) (h : Head) : PCall Tryz.prog 16 [.agg t.c, .agg h.c] (.tup [.agg (enterH (portOf2 t (i64 (h.h0 - 10000))) h).1.c, .bool (enterH (portOf2 t (i64 (h.h0 - 10000))) h).2]) := by
  refine PCall.ofB h16 mixed h16_d Tryz.func16 rfl call16 (by simp [Tryz.f16]) (by simp [pureL, AV.pure, go_sem]) (by simp [pureL, AV.pure, go_sem]) ?_
  simp only [Tryz.f16, go_sem, ↓reduceIte]
  repeat' (first
    | ((first | refine PCallK.intro (c_Port _ hl _) ?_); simp only [go_sem, ↓reduceIte])
    | ((first | refine condK_split _ _ _ (fun hc => ?_) (fun hc => ?_) | refine gsel_split _ _ _ _ (fun hc => ?_) (fun hc => ?_)) <;> simp only [go_sem, ↓reduceIte, hc, Bool.not_true, Bool.not_false]))
  all_goals first
    | rfl
    | (simp only [enterH, i64]; rfl)
    | grind [enterH, i64]
    | (simp only [enterH, i64]; grind)
    | (simp [enterH, i64, *]; done)
    | (simp_all [enterH, i64]; done)
    | skip

end Go.AI

namespace Go.AI
open Go.Proofs
set_option maxRecDepth 50000

theorem right_edges {s : Setup} {t : Tenant} (h : rightT s t = true) : ∀ x ∈ t.ports, -1 ≤ x.edge := by
  have h1 : ck18 s t = 0 := by unfold rightT at h; simp only [Bool.and_eq_true, beq_iff_eq] at h; exact h.2.2.2.2
  have h2 : ckPo s t = 0 := by
    unfold ck18 at h1
    split at h1
    · cases h1
    · split at h1
      · rename_i hne; exact absurd h1 hne
      · rename_i hne; simpa using hne
  have h3 : okAll (peg s.network.edges.length) qeg t.ports = true := by
    unfold ckPo at h2
    split at h2
    · cases h2
    split at h2
    · cases h2
    split at h2
    · cases h2
    · rename_i hne; simpa using hne
  have h4 : ∀ (r : List Port) (i : Nat), okGo (peg s.network.edges.length) qeg t.ports i r = true → ∀ x ∈ r, -1 ≤ x.edge := by
    intro r
    induction r with
    | nil => intro i _ x hx; cases hx
    | cons y r ih =>
      intro i hi x hx
      simp only [okGo, Bool.and_eq_true] at hi
      rcases List.mem_cons.1 hx with rfl | hx
      · have := hi.1.1; simp only [peg, Bool.and_eq_true, decide_eq_true_eq] at this; exact this.1
      · exact ih _ hi.2 x hx
  exact h4 t.ports 0 h3

theorem portOf_eq {t : Tenant} (h : ∀ x ∈ t.ports, -1 ≤ x.edge) (e : Int) : portOf2 t e = portOf t e := by
  have : ∀ (r : List Port) (i : Nat), (∀ x ∈ r, -1 ≤ x.edge) → portIdx2 e i r = portIdx e i r := by
    intro r
    induction r with
    | nil => intro i _; rfl
    | cons y r ih =>
      intro i hr
      have h1 := hr y (by simp)
      rw [portIdx2, portIdx, ih _ fun x hx => hr x (by simp [hx])]
      by_cases hy : y.edge = e
      · by_cases he : 0 ≤ e
        · rw [if_pos ⟨by omega, hy⟩, if_pos ⟨he, hy⟩]
        · rw [if_neg (by omega), if_neg (by omega)]
      · rw [if_neg (fun c => hy c.2), if_neg (fun c => hy c.2)]
  exact this t.ports 0 h

theorem c_law4 (hsan : PCall Tryz.prog 9 [] (.bool true)) (s : Setup) (t : Tenant) (n : Int) (h : Head) (hs : bulkL s.c ≤ 1073741824) (hb : bulkL t.c ≤ 1073741824) : PCall Tryz.prog 4 [.agg s.c, .agg t.c, .int .i64 n, .agg h.c] (.bool true) := by
  have hl := lPort_bn (Tenant.bl_ports hb)
  refine PCall.of h4 mixed h4_d Tryz.func4 rfl call4 (by simp [Tryz.f4]) (by simp [pureL, AV.pure, go_sem]) rfl ?_
  simp only [Tryz.f4, go_sem, ↓reduceIte]
  cases hr : rightT s t with
  | false =>
    repeat' (first
      | ((first | refine PCallK.intro (hsan) ?_ | refine PCallK.intro (c_rightT _ _ hs hb) ?_ | refine PCallK.intro (c_rightH _) ?_); simp only [go_sem, ↓reduceIte, hr])
      | ((first | refine condK_split _ _ _ (fun hc => ?_) (fun hc => ?_) | refine gsel_split _ _ _ _ (fun hc => ?_) (fun hc => ?_)) <;> simp only [go_sem, ↓reduceIte, hc, Bool.not_true, Bool.not_false, hr]))
    all_goals first | rfl | (simp; done) | (simp at hc; done) | skip
  | true =>
    have hp := portOf_eq (right_edges hr)
    repeat' (first
      | ((first | refine PCallK.intro (hsan) ?_ | refine PCallK.intro (c_rightT _ _ hs hb) ?_ | refine PCallK.intro (c_rightH _) ?_ | refine PCallK.intro (c_Enter _ hl _) ?_ | refine PCallK.intro (c_Enter18 _ _) ?_ | refine PCallK.intro (c_Exit _ _) ?_ | refine PCallK.intro (c_Exit18 _ _) ?_ | refine PCallK.intro (c_Edge _ _) ?_ | refine PCallK.intro (c_Edge18 _ _) ?_ | refine PCallK.intro (c_Port _ hl _) ?_ | refine PCallK.intro (c_Port18 _ _) ?_); simp only [go_sem, ↓reduceIte, hr, hp])
      | ((first | refine condK_split _ _ _ (fun hc => ?_) (fun hc => ?_) | refine gsel_split _ _ _ _ (fun hc => ?_) (fun hc => ?_)) <;> simp only [go_sem, ↓reduceIte, hc, Bool.not_true, Bool.not_false, hr, hp]))
    all_goals first | rfl | (simp; done) | (simp at hc; done) | skip

end Go.AI

namespace Go.AI
open Go.Proofs

def exS : Setup := ⟨⟨[⟨⟨#[97]⟩, false, 100, 100⟩, ⟨⟨#[98]⟩, false, 100, 100⟩, ⟨⟨#[99]⟩, false, 100, 100⟩, ⟨⟨#[100]⟩, false, 100, 100⟩],
    [⟨0, 1, 10⟩, ⟨1, 3, 10⟩, ⟨0, 2, 10⟩, ⟨2, 3, 10⟩, ⟨1, 2, 10⟩, ⟨3, 0, 10⟩], [⟨⟨#[101]⟩, 0⟩, ⟨⟨#[102]⟩, 3⟩]⟩,
  [⟨⟨#[100, 115, 116]⟩, 16, 8⟩, ⟨⟨#[115, 114, 99]⟩, 24, 8⟩, ⟨⟨#[107, 105, 110, 100]⟩, 33, 3⟩], [], []⟩
def pAt (n : Int) : Policy := ⟨1, ⟨3, portS, n, 0, []⟩, ⟨#[]⟩, 0, []⟩
def pPut (n : Int) : Policy := ⟨2, Pred.z, portS, n, []⟩
def pSeq (a b : Policy) : Policy := ⟨4, Pred.z, ⟨#[]⟩, 0, [a, b]⟩
def exP : Policy := ⟨3, Pred.z, ⟨#[]⟩, 0, [pSeq (pAt 0) (pPut 2), pSeq (pAt 3) (pPut 1)]⟩
def exT : Tenant := ⟨⟨#[116]⟩, [⟨⟨#[105, 110]⟩, 0⟩, ⟨⟨#[111, 117, 116]⟩, 1⟩, ⟨⟨#[120]⟩, -1⟩, ⟨⟨#[121]⟩, -1⟩], [⟨2, 3⟩], [⟨exP, Stp.z⟩], [], []⟩
def exC : Policy := pSeq (pSeq exP ⟨5, Pred.z, ⟨#[]⟩, 0, [pSeq (pSeq (pAt 2) (pPut 3)) exP]⟩) ⟨1, ⟨6, ⟨#[]⟩, 0, 0, [⟨3, portS, 2, 0, []⟩]⟩, ⟨#[]⟩, 0, []⟩
def exH : Head := { Head.z with h0 := 1 }

theorem PCall.lendR {P : Program} {f : FuncId} {vs : List AV} {v : AV} (h : PCall P f vs v) : PCall P f vs v.borrow := fun H =>
  ⟨(h H).1, fun F G w us hc => Calls.mono ((h H).2 F G w us hc) fun e w' he => by
    obtain ⟨u, rfl, v', H2, G', ⟨rfl, rfl⟩, hcr, hext⟩ := he
    exact ⟨u, rfl, _, _, G', ⟨rfl, rfl⟩, by simpa using hcr.lend, hext⟩⟩

theorem PCall.runB {P : Program} {T : EvT} (E : EvOk P T) (k : Nat) {f : FuncId} {vs : List AV} {v : AV} (hp : pureL vs = true)
    (h : (match runT P T k (.call f vs []) with | some (.val v2 _) => if v2.pure = true then some v2.borrow else none | _ => none) = some v) : PCall P f vs v := by
  cases hr : runT P T k (.call f vs []) with
  | none => rw [hr] at h; cases h
  | some q =>
    rw [hr] at h
    cases q with
    | st _ _ _ => cases h
    | val v2 H2 =>
      dsimp only at h
      split at h
      · rename_i hv
        cases h
        exact PCall.lendR (PCall.run E k hp hv (by rw [hr]))
      · cases h

theorem evOkS : EvOk Tryz.prog (evTree.evt [] srtOrc) := ETree.ok mixedE (fun _ h => by cases h) srtOrc_ok evTree_all

theorem x_example : PCall Tryz.prog 46 [] (.tup [.agg exS.c, .agg exT.c]) := PCall.runB evOk0 20000 rfl (by kernel_rfl)
theorem x_put : PCall Tryz.prog 47 [.str portS, .int .i64 4] (.agg (pPut 4).c) := PCall.runB evOk0 20000 rfl (by kernel_rfl)
theorem x_whole : PCall Tryz.prog 27 [.agg exT.c] (.tup [.sl none (lStage [⟨exC, Stp.z⟩]), .int .i64 0]) := PCall.runB evOk0 20000 rfl (by kernel_rfl)
theorem x_chk1 : PCall Tryz.prog 12 [.agg exS.c, .agg exT.c] (.int .i64 0) := PCall.runB evOkS 20000 rfl (by kernel_rfl)
theorem x_chk2 : PCall Tryz.prog 12 [.agg exS.c, .agg ({ exT with wires := [⟨1, 3⟩] } : Tenant).c] (.int .i64 1) := PCall.runB evOkS 20000 rfl (by kernel_rfl)
theorem x_chk3 : PCall Tryz.prog 12 [.agg exS.c, .agg ({ exT with program := [⟨pPut 4, Stp.z⟩] } : Tenant).c] (.int .i64 1) := PCall.runB evOkS 20000 rfl (by kernel_rfl)

end Go.AI

namespace Go.AI
open Go.Proofs
set_option maxRecDepth 50000

theorem x_eval : PCall Tryz.prog 42 [.sl none (lFld exS.fields), .agg exC.c, .agg Head.z.c, .int .i64 0] (.tup [.sl none [.agg exH.c], .int .i64 0]) := PCall.runB evOkS 20000 rfl (by kernel_rfl)
theorem x_same : PCall Tryz.prog 45 [.sl none [.agg exH.c], .sl none [.agg exH.c]] (.bool true) := PCall.runB evOkS 20000 rfl (by kernel_rfl)

end Go.AI

namespace Go.AI
open Go.Proofs
set_option maxRecDepth 50000

def exW : Tenant := { exT with wires := [⟨1, 3⟩] }
def exG : Tenant := { exT with program := [⟨pPut 4, Stp.z⟩] }
theorem w1 : [AV.agg (Wire.c ⟨1, 3⟩)] = lWire [⟨1, 3⟩] := rfl
theorem w2 : [AV.agg (Stage.c ⟨pPut 4, Stage.z.step⟩)] = lStage [⟨pPut 4, Stp.z⟩] := rfl
theorem w3 : (lStage [⟨exC, Stp.z⟩])[0]? = some (.agg (Stage.c ⟨exC, Stp.z⟩)) := rfl
theorem q1 : (∀ v : AV, v ∈ lWire [⟨1, 3⟩] → v.isVal = true ∧ v.cells.length = 2) = True := eq_true fun v hv => by
  rcases List.mem_singleton.1 hv with rfl
  exact ⟨rfl, rfl⟩
theorem q2 : (∀ v : AV, v ∈ lStage [⟨pPut 4, Stp.z⟩] → v.isVal = true ∧ v.cells.length = 15) = True := eq_true fun v hv => by
  rcases List.mem_singleton.1 hv with rfl
  exact ⟨rfl, rfl⟩
theorem b1 : (lWire [⟨1, 3⟩]).map AV.borrow = lWire [⟨1, 3⟩] := rfl
theorem b2 : (lStage [⟨pPut 4, Stp.z⟩]).map AV.borrow = lStage [⟨pPut 4, Stp.z⟩] := rfl
theorem z1 : ((0 : Int) == 0) = true := rfl
theorem z2 : ((0 : Int) != 0) = false := rfl
theorem z3 : (((1 : Nat) : Int) != 1) = false := rfl
theorem z4 : ((1 : Int) == 1) = true := rfl
theorem z5 : (edgeOf exT 1 == 1) = true := by decide
theorem z6 : (edgeOf exT 2 == -1) = true := by decide
theorem z7 : (portOf2 exT 0 == 0) = true := by decide
theorem z8 : (portOf2 exT 2 == -1) = true := by decide

set_option maxHeartbeats 4000000 in
theorem c_sanity : PCall Tryz.prog 9 [] (.bool true) := by
  refine PCall.of h9 mixed h9_d Tryz.func9 rfl call9 (by simp [Tryz.f9]) (by simp [pureL, AV.pure, go_sem]) rfl ?_
  simp only [Tryz.f9, go_sem, ↓reduceIte]
  repeat' (first
    | ((first | refine PCallK.intro (x_example) ?_ | refine PCallK.intro (x_put) ?_ | refine PCallK.intro (x_chk1) ?_ | refine PCallK.intro (PCall.lend x_chk2) ?_ | refine PCallK.intro (PCall.lend x_chk3) ?_ | refine PCallK.intro (x_whole) ?_ | refine PCallK.intro (x_eval) ?_ | refine PCallK.intro (PCall.lend x_same) ?_ | refine PCallK.intro (c_Edge exT _) ?_ | refine PCallK.intro (c_Port exT (by decide) _) ?_ | refine PCallK.intro (c_Enter exT (by decide) _) ?_ | refine PCallK.intro (c_Exit exT _) ?_); simp only [go_sem, ↓reduceIte, q1, q2, b1, b2, w1, w2, w3, z1, z2, z3, z4, z5, z6, z7, z8])
    | ((first | refine condK_split _ _ _ (fun hc => ?_) (fun hc => ?_) | refine gsel_split _ _ _ _ (fun hc => ?_) (fun hc => ?_)) <;> simp only [go_sem, ↓reduceIte, hc, Bool.not_true, Bool.not_false, q1, q2, b1, b2, w1, w2, w3, z1, z2, z3, z4, z5, z6, z7, z8]))
  all_goals first
    | rfl
    | exact absurd hc (by decide)
    | skip

end Go.AI

namespace Go.AI

theorem okAll_spec {α : Type} {p : α → Bool} {q : α → α → Bool} {l : List α} (h : okAll p q l = true) : ∀ (k : Nat) (x : α), l[k]? = some x → p x = true ∧ ∀ (j : Nat) (y : α), j < k → l[j]? = some y → q y x = false := by
  have key : ∀ (n i : Nat), l.length - i = n → okGo p q l i (l.drop i) = true → ∀ (k : Nat) (x : α), i ≤ k → l[k]? = some x → p x = true ∧ ∀ (j : Nat) (y : α), j < k → l[j]? = some y → q y x = false := by
    intro n
    induction n with
    | zero =>
      intro i hi _ k x hk hx
      have := (List.getElem?_eq_some_iff.1 hx).1
      omega
    | succ n ih =>
      intro i hi ho k x hk hx
      have hlt : i < l.length := by omega
      rw [List.drop_eq_getElem_cons hlt, okGo] at ho
      simp only [Bool.and_eq_true, Bool.not_eq_true'] at ho
      obtain ⟨⟨h1, h2⟩, h3⟩ := ho
      rcases Nat.eq_or_lt_of_le hk with rfl | hk
      · rw [List.getElem?_eq_getElem hlt] at hx
        cases hx
        refine ⟨h1, fun j y hj hy => ?_⟩
        rw [List.any_eq_false] at h2
        have hm : y ∈ l.take i := List.mem_of_getElem? (i := j) (by rw [List.getElem?_take, if_pos hj]; exact hy)
        simpa using h2 y hm
      · exact ih (i + 1) (by omega) h3 k x hk hx
  intro k x hx
  exact key l.length 0 (by omega) (by rw [List.drop_zero]; exact h) k x (Nat.zero_le _) hx

theorem portIdx_spec {e : Int} : ∀ (r : List Port) (i : Nat), portIdx e i r = -1 ∨ ∃ k x, r[k]? = some x ∧ portIdx e i r = ((i + k : Nat) : Int) ∧ x.edge = e ∧ 0 ≤ e
  | [], i => .inl rfl
  | x :: r, i => by
    rw [portIdx]
    split
    · rename_i h; exact .inr ⟨0, x, rfl, rfl, h.2, h.1⟩
    · rcases portIdx_spec r (i + 1) with h | ⟨k, y, h1, h2, h3, h4⟩
      · exact .inl h
      · exact .inr ⟨k + 1, y, h1, by rw [h2]; congr 1; omega, h3, h4⟩

theorem portIdx_first {e : Int} (he : 0 ≤ e) : ∀ (r : List Port) (i k : Nat) (x : Port), r[k]? = some x → x.edge = e → (∀ (j : Nat) (y : Port), j < k → r[j]? = some y → y.edge ≠ e) → portIdx e i r = ((i + k : Nat) : Int)
  | [], i, k, x, h, _, _ => by simp at h
  | y :: r, i, 0, x, h, hx, _ => by
    simp at h; subst h
    rw [portIdx, if_pos ⟨he, hx⟩]; rfl
  | y :: r, i, k + 1, x, h, hx, hn => by
    rw [portIdx, if_neg (fun c => hn 0 y (by omega) rfl c.2), portIdx_first he r (i + 1) k x (by simpa using h) hx fun j z hj hz => hn (j + 1) z (by omega) (by simpa using hz)]
    congr 1; omega

theorem port_edge {t : Tenant} {e : Int} (h : 0 ≤ portOf t e) : edgeOf t (portOf t e) = e ∧ 0 ≤ e := by
  rcases portIdx_spec (e := e) t.ports 0 with h1 | ⟨k, x, h1, h2, h3, h4⟩
  · unfold portOf at h; omega
  · have h5 : portOf t e = (k : Int) := by unfold portOf; rw [h2]; simp
    have hlt := (List.getElem?_eq_some_iff.1 h1).1
    rw [h5]
    have hp : isPortB t (k : Int) = true := by unfold isPortB; simp; omega
    refine ⟨?_, h4⟩
    unfold edgeOf
    rw [if_pos hp]
    unfold edgeAt
    simp [h1, h3]

theorem edge_port {t : Tenant} {m : Int} (hd : okAll (peg m) qeg t.ports = true) {n : Int} (h : 0 ≤ edgeOf t n) : portOf t (edgeOf t n) = n ∧ edgeOf t n < m := by
  unfold edgeOf at h ⊢
  split at h
  · rename_i hp
    rw [if_pos hp]
    simp only [isPortB, Bool.and_eq_true, decide_eq_true_eq] at hp
    obtain ⟨x, hx⟩ : ∃ x, t.ports[n.toNat]? = some x := ⟨_, List.getElem?_eq_getElem (by omega)⟩
    have he : edgeAt t n = x.edge := by simp [edgeAt, hx]
    rw [he] at h ⊢
    obtain ⟨h1, h2⟩ := okAll_spec hd n.toNat x hx
    simp only [peg, Bool.and_eq_true, decide_eq_true_eq] at h1
    refine ⟨?_, h1.2⟩
    unfold portOf
    rw [portIdx_first h t.ports 0 n.toNat x hx rfl fun j y hj hy => ?_]
    · simp; omega
    · have := h2 j y hj hy
      simp only [qeg] at this
      intro c
      simp [c] at this
      omega
  · omega

theorem right_peg {s : Setup} {t : Tenant} (h : rightT s t = true) : okAll (peg s.network.edges.length) qeg t.ports = true ∧ s.network.edges.length ≤ 20 := by
  unfold rightT at h
  simp only [Bool.and_eq_true, beq_iff_eq] at h
  obtain ⟨_, h0, _, _, h1⟩ := h
  have h2 : ckPo s t = 0 := by
    unfold ck18 at h1
    split at h1
    · cases h1
    · split at h1
      · rename_i hne; exact absurd h1 hne
      · rename_i hne; simpa using hne
  refine ⟨?_, ?_⟩
  · unfold ckPo at h2
    split at h2
    · cases h2
    split at h2
    · cases h2
    split at h2
    · cases h2
    · rename_i hne; simpa using hne
  · unfold fewN at h0
    simp only [Bool.and_eq_true, decide_eq_true_eq] at h0
    omega

theorem word_h0 {h : Head} (hr : rightH h = true) : 0 ≤ h.h0 ∧ h.h0 ≤ 65535 := by
  unfold rightH Head.l wordB16 at hr
  simp only [List.all_cons, Bool.and_eq_true, decide_eq_true_eq] at hr
  exact hr.1

section
variable {s : Setup} {t : Tenant} {h : Head}

theorem inv1 (hr : rightT s t = true) (hh : rightH h = true) (h9 : h.h9 = 0) (ho : (enterH (portOf t (i64 (h.h0 - 10000))) h).2 = true) :
    exitH (edgeOf t (enterH (portOf t (i64 (h.h0 - 10000))) h).1.h0) (enterH (portOf t (i64 (h.h0 - 10000))) h).1 = (h, true) := by
  have hw := word_h0 hh
  have e1 : i64 (h.h0 - 10000) = h.h0 - 10000 := w64 (by omega) (by omega)
  rw [e1] at ho ⊢
  unfold enterH at ho ⊢
  by_cases hp : portOf t (h.h0 - 10000) < 0
  · rw [if_pos hp] at ho; cases ho
  · rw [if_neg hp]
    obtain ⟨h1, h2⟩ := port_edge (t := t) (e := h.h0 - 10000) (by omega)
    show exitH (edgeOf t (portOf t (h.h0 - 10000))) _ = _
    rw [h1]
    unfold exitH
    rw [if_neg (by omega)]
    have e2 : i64 (10000 + (h.h0 - 10000)) = h.h0 := by unfold i64; rw [w64 (by omega) (by omega)]; omega
    rw [e2]
    cases h
    simp only at h9
    subst h9
    rfl

theorem inv2 (hr : rightT s t = true) (h9 : h.h9 = 0) (ho : (exitH (edgeOf t h.h0) h).2 = true) :
    enterH (portOf t (i64 ((exitH (edgeOf t h.h0) h).1.h0 - 10000))) (exitH (edgeOf t h.h0) h).1 = (h, true) := by
  obtain ⟨hd, hm⟩ := right_peg hr
  unfold exitH at ho ⊢
  by_cases hp : edgeOf t h.h0 < 0
  · rw [if_pos hp] at ho; cases ho
  · rw [if_neg hp]
    obtain ⟨h1, h2⟩ := edge_port hd (n := h.h0) (by omega)
    have e1 : i64 (10000 + edgeOf t h.h0) = 10000 + edgeOf t h.h0 := w64 (by omega) (by omega)
    have e2 : i64 (10000 + edgeOf t h.h0 - 10000) = edgeOf t h.h0 := by unfold i64; rw [w64 (by omega) (by omega)]; omega
    show enterH (portOf t (i64 (i64 (10000 + edgeOf t h.h0) - 10000))) _ = _
    rw [e1, e2, h1]
    have hn : ¬ h.h0 < 0 := by
      intro c
      have : edgeOf t h.h0 = -1 := by unfold edgeOf isPortB; simp; omega
      omega
    unfold enterH
    rw [if_neg hn]
    cases h
    simp only at h9
    subst h9
    rfl

theorem inv3 {p : Int} (ho : (enterH p h).2 = false) : (enterH p h).1 = Head.z := by
  unfold enterH at ho ⊢
  split
  · rfl
  · rename_i hc; rw [if_neg hc] at ho; cases ho

theorem inv4 {e : Int} (ho : (exitH e h).2 = false) : (exitH e h).1 = Head.z := by
  unfold exitH at ho ⊢
  split
  · rfl
  · rename_i hc; rw [if_neg hc] at ho; cases ho
end

end Go.AI
