/- Contract: checkPorts of the program. -/
import Derived.Test.YtdgagjhjpffeaaaGreatDoorMq
set_option linter.unusedSimpArgs false
set_option linter.unusedVariables false
namespace Go.AI
open Go.Proofs
set_option maxRecDepth 50000

@[go_sem] theorem zmapIB : zeroAV Tryz.prog 186 = some .nilm := by kernel_rfl
@[go_sem] theorem und_mapIB : Tryz.prog.underlying 186 = some (.map 3 4) := by kernel_rfl

abbrev eKey (x : Port) : AV := .int .i64 x.edge
def outF (t : Tenant) (k : Nat) : List Port := (t.ports.take k).filter fun x => x.edge != -1
def cpB (s : Setup) (t : Tenant) (r st : Int) (ms : List AV) (g : Heap) : Heap := some s.c :: some t.c :: some [.int .i64 r] :: some ms :: some [.mapr 3] :: some t.c :: some (loopc st (frameVals 53 [(2, .ptr 0 0), (3, .ptr 1 0), (4, .ptr 2 0), (6, .ptr 4 0), (26, .fn (.func 152) [] [.ptr 5 0])])) :: g

theorem outF_snoc {t : Tenant} {k : Nat} {x : Port} (hx : t.ports[k]? = some x) : outF t (k + 1) = if x.edge != -1 then outF t k ++ [x] else outF t k := by
  unfold outF
  rw [take_snoc hx, List.filter_append]
  by_cases h : (x.edge != -1) = true
  · rw [if_pos h]; simp [List.filter, h]
  · rw [if_neg h]; simp [List.filter, h]

theorem outF_any {t : Tenant} {k : Nat} {x : Port} (hx : x.edge ≠ -1) : ((outF t k).any fun y => keyEq (eKey y) (eKey x)) = (t.ports.take k).any (fun y => qeg y x) := by
  unfold outF
  rw [Bool.eq_iff_iff, List.any_eq_true, List.any_eq_true]
  constructor
  · rintro ⟨y, hy, he⟩
    refine ⟨y, (List.mem_filter.1 hy).1, ?_⟩
    simp only [keyEq, keyEq1, decide_true, Bool.true_and, decide_eq_true_eq] at he
    simp [qeg, hx, he]
  · rintro ⟨y, hy, he⟩
    simp only [qeg, Bool.and_eq_true, beq_iff_eq] at he
    refine ⟨y, List.mem_filter.2 ⟨hy, by simp [he.2, hx]⟩, ?_⟩
    simp [keyEq, keyEq1, he.2]

set_option maxHeartbeats 2000000 in
theorem p_checkPorts (s : Setup) (t : Tenant) (hb : bulkL t.c ≤ 1073741824) (hm : s.network.edges.length ≤ 1073741824) : PCall Tryz.prog 56 [.agg s.c, .agg t.c] (.int .i64 (ckPo s t)) := by
  have hbp := Tenant.bl_ports hb
  have hn := lPort_bn hbp
  have hn2 := lWire_bn (Tenant.bl_wires hb)
  have hcp : ∀ x ∈ t.ports, ∀ H, SCall Tryz.prog 124 [.agg (Port.c x)] H (.bool (!nmB x.name)) := fun x hx H => (p_cp2 x (Port.bk_name (by have := lPort_bk hbp hx; simpa only [AV.bulk] using this))).toS
  have hcon : ∀ H, SCall Tryz.prog 123 [.sl none (lPort t.ports), .fn (.func 124) [] []] H (.bool (t.ports.any fun x => !nmB x.name)) := fun H =>
    p_ContainsPort t.ports (by omega) 124 [] [] (fun x => !nmB x.name) (fun x hx => hcp x hx H)
  have hconP : PCall Tryz.prog 123 [.sl none (lPort t.ports), .fn (.func 124) [] []] (.bool (t.ports.any fun x => !nmB x.name)) := fun H => hcon H
  have hrep := p_repPort t.ports (by omega) 121 (fun x => p_cp1 x)
  refine PCall.of h56 mixed h56_d Tryz.func56 rfl call56 (by simp [Tryz.f56]) (by simp [pureL, AV.pure, go_sem]) rfl ?_
  simp only [Tryz.f56, go_sem, ↓reduceIte]
  repeat' (first
    | ((first | refine PCallK.intro (p_fName _ (Tenant.bk_name hb)) ?_ | refine PCallK.intro (hconP) ?_ | refine PCallK.intro (hrep) ?_); simp only [go_sem, ↓reduceIte])
    | ((first | refine condK_split _ _ _ (fun hc => ?_) (fun hc => ?_) | refine gsel_split _ _ _ _ (fun hc => ?_) (fun hc => ?_)) <;> simp only [go_sem, ↓reduceIte, hc, Bool.not_true, Bool.not_false]))
  · have h4 : ckPo s t = 4 := by
      have : okAll pnm qnm t.ports = false := by
        unfold okAll
        rw [repGo_okGo pnm qnm (fun x : Port => AV.str x.name) (fun x y => rfl)]
        have hc' : repGo (fun x : Port => AV.str x.name) t.ports 0 t.ports = true := hc
        rw [hc']; simp
      unfold ckPo
      simp [this]
    rw [h4]
  · have hok : okAll pnm qnm t.ports = true := by
      unfold okAll
      rw [repGo_okGo pnm qnm (fun x : Port => AV.str x.name) (fun x y => rfl)]
      have hc' : repGo (fun x : Port => AV.str x.name) t.ports 0 t.ports = false := hc
      rw [hc']
      have h5 : t.ports.all pnm = true := by
        have h6 : (t.ports.any fun x => !nmB x.name) = false := by assumption
        rw [← any_not pnm t.ports]
        have : (t.ports.any fun x => !pnm x) = false := h6
        rw [this]; rfl
      rw [h5]; rfl
    have hN : nmB t.name = true := by
      have : (!nmB t.name) = false := by assumption
      simpa using this
    have hT : ckPo s t = if okAll (peg s.network.edges.length) qeg t.ports = false then 1 else if okAll (pwr t) qwr t.wires = false then 1 else 0 := by
      unfold ckPo
      rw [if_neg (by rw [hN]; decide), if_neg (by rw [hok]; decide)]
    refine ACallK.intro (c_outers t _) fun v H' hr => ?_
    obtain ⟨rfl, rfl⟩ := hr
    simp only [go_sem, ↓reduceIte]
    refine rfK_intro (tag := 56) rfl (ACall.mono (c_outersIt t hn 6 5 _ _
      (fun k H => ∃ g, H = cpB s t 0 0 (mapc (setE eKey (outF t k))) g ∧ distL eKey (outF t k) ∧ okAll (peg s.network.edges.length) qeg t.ports = okGo (peg s.network.edges.length) qeg t.ports k (t.ports.drop k))
      (fun H => ∃ g ms, (H = cpB s t 0 0 ms g ∧ okAll (peg s.network.edges.length) qeg t.ports = true) ∨ (H = cpB s t 1 (-2) ms g ∧ okAll (peg s.network.edges.length) qeg t.ports = false))
      ?_ ?_ ?_ ?_ ?_ ?_) fun v H2 hq => ?_)
    · rintro k H ⟨g, rfl, _⟩; rfl
    · rintro k H x ⟨g, rfl, h⟩; exact ⟨g ++ [x], rfl, h⟩
    · rintro k x H hx hne ⟨g, rfl, hd, hok2⟩
      have hdr : t.ports.drop k = x :: t.ports.drop (k + 1) := by
        obtain ⟨hlt, rfl⟩ := List.getElem?_eq_some_iff.1 hx
        exact List.drop_eq_getElem_cons hlt
      rw [hdr, okGo, ← outF_any hne] at hok2
      have hwm : IntKind.i64.wrap ((s.network.edges.length : Int) - 1) = (s.network.edges.length : Int) - 1 := w64 (by omega) (by omega)
      refine ycall_of_awp (h := h56) (n := 53) mixed rfl ⟨by kernel_rfl, by kernel_rfl⟩ (by decide) _ _ _ _ rfl rfl rfl ?_
      show awp _ _ _ _ _ _ [(28, .int .i64 x.edge), (27, .int .i64 k), (0, .undef), (1, .undef), (2, .ptr 0 0), (3, .ptr 1 0), (4, .ptr 2 0), (5, .undef), (6, .ptr 4 0), (7, .undef), (8, .undef), (9, .undef), (10, .undef), (11, .undef), (12, .undef), (13, .undef), (14, .undef), (15, .undef), (16, .undef), (17, .undef), (18, .undef), (19, .undef), (20, .undef), (21, .undef), (22, .undef), (23, .undef), (24, .undef), (25, .undef), (26, .fn (.func 152) [] [.ptr 5 0]), (27, .undef), (28, .undef), (29, .undef), (30, .undef), (31, .undef), (32, .undef), (33, .undef), (34, .undef), (35, .undef), (36, .undef), (37, .undef), (38, .undef), (39, .undef), (40, .undef), (41, .undef), (42, .undef), (43, .undef), (44, .undef), (45, .undef), (46, .undef), (47, .undef), (48, .undef), (49, .undef), (50, .undef), (51, .undef), (52, .undef)] _
      simp only [go_sem, ↓reduceIte, cpB]
      refine ⟨_, rfl, ?_⟩
      have hkeys : keysIn Tryz.prog 3 (eKey x :: (outF t k).map eKey) := keysIn_int (k := .i64) (by simp only [go_sem]) fun a ha => by
        rcases List.mem_cons.1 ha with rfl | ha
        · exact ⟨_, rfl⟩
        · obtain ⟨y, _, rfl⟩ := List.mem_map.1 ha; exact ⟨_, rfl⟩
      repeat' (first
        | ((first | refine PCallK.intro (c_within _ _ _) ?_); simp only [go_sem, ↓reduceIte, hwm])
        | ((first | refine condK_split _ _ _ (fun hc => ?_) (fun hc => ?_) | refine gsel_split _ _ _ _ (fun hc => ?_) (fun hc => ?_)) <;> simp only [go_sem, ↓reduceIte, hc, Bool.not_true, Bool.not_false, hwm]))
      · have hpe : peg s.network.edges.length x = true := by simp at hc; simp [peg]; omega
        refine lkpK_set (kt := 3) (et := 4) eKey (outF t k) (eKey x) ?_ ?_ rfl hkeys hd ?_
        · simp only [go_sem]
        · simp only [go_sem]
        simp only [go_sem, ↓reduceIte]
        repeat' (first
          | ((first | refine condK_split _ _ _ (fun hc => ?_) (fun hc => ?_) | refine gsel_split _ _ _ _ (fun hc => ?_) (fun hc => ?_)) <;> simp only [go_sem, ↓reduceIte, hc, Bool.not_true, Bool.not_false]))
        · rw [hpe, hc] at hok2
          exact ⟨_, rfl, .inr ⟨g, mapc (setE eKey (outF t k)), .inr ⟨rfl, by rw [hok2]; first | rfl | simp⟩⟩⟩
        · refine updK_set (kt := 3) (et := 4) eKey (outF t k) x ?_ rfl hkeys hd hc ?_
          · simp only [go_sem]
          simp only [go_sem, ↓reduceIte]
          have hs1 : outF t (k + 1) = outF t k ++ [x] := by rw [outF_snoc hx, if_pos (by simp [hne])]
          rw [hpe, hc] at hok2
          exact ⟨_, rfl, .inl ⟨g, by rw [hs1], by rw [hs1]; exact distL_snoc _ _ hd hc, by rw [hok2]; simp⟩⟩
      · have hpe : peg s.network.edges.length x = false := by simp at hc; simp [peg]; omega
        rw [hpe] at hok2
        exact ⟨_, rfl, .inr ⟨g, mapc (setE eKey (outF t k)), .inr ⟨rfl, by rw [hok2]; first | rfl | simp⟩⟩⟩
    · rintro k x H hx hne ⟨g, rfl, hd, hok2⟩
      have hdr : t.ports.drop k = x :: t.ports.drop (k + 1) := by
        obtain ⟨hlt, rfl⟩ := List.getElem?_eq_some_iff.1 hx
        exact List.drop_eq_getElem_cons hlt
      have hs1 : outF t (k + 1) = outF t k := by rw [outF_snoc hx, if_neg (by simp [hne])]
      refine ⟨g, by rw [hs1], by rw [hs1]; exact hd, ?_⟩
      rw [hok2, hdr, okGo]
      have h1 : peg s.network.edges.length x = true := by simp [peg, hne]; omega
      have h2 : (t.ports.take k).any (fun y => qeg y x) = false := by simp [qeg, hne]
      rw [h1, h2]; simp
    · rintro H ⟨g, rfl, hd, hok2⟩
      exact ⟨g, _, .inl ⟨rfl, by rw [hok2, List.drop_length]; rfl⟩⟩
    · exact ⟨[], rfl, trivial, rfl⟩
    · obtain ⟨g, ms, ⟨rfl, hq⟩ | ⟨rfl, hq⟩⟩ := hq
      · refine ⟨0, _, rfl, .inl ⟨rfl, ?_⟩⟩
        show blkK 0 _ .normal _ (some s.c :: some t.c :: some [.int .i64 0] :: some ms :: some [.mapr 3] :: some t.c :: none :: g)
        have hcw : ∀ H, H[1]? = some (some t.c) → SCall Tryz.prog 126 [.sl none (lWire t.wires), .fn (.func 127) [] [.ptr 1 0]] H (.bool (t.wires.any fun x => !pwr t x)) := fun H hH =>
          p_ContainsWire t.wires (by omega) 127 [] [.ptr 1 0] (fun x => !pwr t x) (fun x hx => p_cp3 t x 1 hH)
        have hcw1 := hcw (some s.c :: some t.c :: some [.int .i64 0] :: some ms :: some [.mapr 3] :: some t.c :: none :: g) rfl
        have hrw := p_repWire t.wires (by omega) 130 (fun x => p_cp4 x)
        simp only [go_sem, ↓reduceIte]
        have hwq : okAll (pwr t) qwr t.wires = ((t.wires.all (pwr t)) && !(repB (fun x : Wire => AV.int .i64 x.src) t.wires)) := repGo_okGo (pwr t) qwr (fun x : Wire => AV.int .i64 x.src) (fun x y => by rw [Bool.eq_iff_iff]; simp [keyEq, keyEq1, qwr]) t.wires 0 t.wires
        have hT2 : ckPo s t = if okAll (pwr t) qwr t.wires = false then 1 else 0 := by rw [hT, if_neg (by rw [hq]; decide)]
        rw [← any_not (pwr t) t.wires] at hwq
        repeat' (first
          | ((first | refine ACallK.ofS (hcw1) ?_ | refine PCallK.intro (hrw) ?_); simp only [go_sem, ↓reduceIte])
          | ((first | refine condK_split _ _ _ (fun hc => ?_) (fun hc => ?_) | refine gsel_split _ _ _ _ (fun hc => ?_) (fun hc => ?_)) <;> simp only [go_sem, ↓reduceIte, hc, Bool.not_true, Bool.not_false]))
        · rw [hT2, hwq, hc]; simp
        · have h8 : (t.wires.any fun x => !pwr t x) = false := by assumption
          rw [hT2, hwq, hc, h8]; rfl
        · have h8 : (t.wires.any fun x => !pwr t x) = true := by simpa using hc
          rw [hT2, hwq, h8]; rfl
      · refine ⟨-2, _, rfl, .inr (.inl ⟨rfl, ?_⟩)⟩
        show blkK 0 _ .ret _ (some s.c :: some t.c :: some [.int .i64 1] :: some ms :: some [.mapr 3] :: some t.c :: none :: g)
        simp only [go_sem, ↓reduceIte]
        rw [hT, if_pos hq]
  · have h6 : (t.ports.any fun x => !nmB x.name) = true := by simpa using hc
    have h5 : t.ports.all pnm = false := by
      rw [← any_not pnm t.ports]
      have : (t.ports.any fun x => !pnm x) = true := h6
      rw [this]; rfl
    have : okAll pnm qnm t.ports = false := by
      unfold okAll
      rw [repGo_okGo pnm qnm (fun x : Port => AV.str x.name) (fun x y => rfl), h5]; rfl
    have h4 : ckPo s t = 4 := by unfold ckPo; simp [this]
    rw [h4]
  · have hN : nmB t.name = false := by simpa using hc
    rw [ckPo, if_pos hN]

end Go.AI
