/- Contract: checkPorts of the program. -/
import Derived.Test.YtdgagjhjpffeaaaGreatDoorMp
import Derived.Test.YtdgagjhjpffeaaaGreatDoorMe
import Derived.Test.YtdgagjhjpffeaaaGreatDoorMg
import Derived.DeepKeys5
import Derived.Test.YtdgagjhjpffeaaaGreatDoorMf
set_option linter.unusedSimpArgs false
set_option linter.unusedVariables false
namespace Go.AI
open Go.Proofs
set_option maxRecDepth 50000
@[go_sem] theorem zmapIB : zeroAV Tryz.prog 186 = some .nilm := by kernel_rfl
@[go_sem] theorem und_mapIB : Tryz.prog.underlying 186 = some (.map 3 4) := by kernel_rfl
abbrev eKey (x : Port) : AV := .int .i64 x.edge
def outF (t : Tenant) (k : Nat) : List Port := (t.ports.take k).filter fun x => x.edge != -1
def cpB (s : Setup) (t : Tenant) (r st : Int) (ms : List AV) (g : Heap) : Heap := some s.c :: some t.c :: some [.int .i64 r] :: some ms :: some [.mapr 3] :: some t.c :: some (loopc st (frameVals 53 [(2, .ptr 0 0), (3, .ptr 1 0), (4, .ptr 2 0), (6, .ptr 4 0), (26, .fn (.func 152) [] [.ptr 5 0])])) :: g
theorem outF_snoc {t : Tenant} {k : Nat} {x : Port} (hx : t.ports[k]? = some x) : outF t (k + 1) = if x.edge != -1 then outF t k ++ [x] else outF t k := by
 unfold outF
 rw [take_snoc hx, List.filter_append]
 by_cases h : (x.edge != -1) = true
 ·rw [if_pos h]; simp [List.filter, h]
 ·rw [if_neg h]; simp [List.filter, h]
theorem outF_any {t : Tenant} {k : Nat} {x : Port} (hx : x.edge ≠ -1) : ((outF t k).any fun y => keyEq (eKey y) (eKey x)) = (t.ports.take k).any (fun y => qeg y x) := by
 unfold outF
 rw [Bool.eq_iff_iff, List.any_eq_true, List.any_eq_true]
 constructor
 ·rintro ⟨y, hy, he⟩
  refine ⟨y, (List.mem_filter.1 hy).1, ?_⟩
  simp only [keyEq, keyEq1, decide_true, Bool.true_and, decide_eq_true_eq] at he
  simp [qeg, hx, he]
 ·rintro ⟨y, hy, he⟩
  simp only [qeg, Bool.and_eq_true, beq_iff_eq] at he
  refine ⟨y, List.mem_filter.2 ⟨hy, by simp [he.2, hx]⟩, ?_⟩
  simp [keyEq, keyEq1, he.2]
set_option maxHeartbeats 2000000 in
theorem p_checkPorts (s : Setup) (t : Tenant) (hb : bulkL t.c <= 1073741824) (hm : s.network.edges.length <= 1073741824) : PCall Tryz.prog 56 [.agg s.c, .agg t.c] (.int .i64 (ckPo s t)) := by
 have hbp := Tenant.bl_ports hb
 have hn := lPort_bn hbp
 have hn2 := lWire_bn (Tenant.bl_wires hb)
 have hcp : ∀ x ∈ t.ports, ∀ H, SCall Tryz.prog 124 [.agg (Port.c x)] H (.bool (!nmB x.name)) := fun x hx H => (p_cp2 x (Port.bk_name (by have := lPort_bk hbp hx; simpa only [AV.bulk] using this))).toS
 have hcon : ∀ H, SCall Tryz.prog 123 [.sl none (lPort t.ports), .fn (.func 124) [] []] H (.bool (t.ports.any fun x => !nmB x.name)) := fun H =>
  p_ContainsPort t.ports (by omega) 124 [] [] (fun x => !nmB x.name) (fun x hx => hcp x hx H)
 have hconP : PCall Tryz.prog 123 [.sl none (lPort t.ports), .fn (.func 124) [] []] (.bool (t.ports.any fun x => !nmB x.name)) := fun H => hcon H
 have hrep := p_repPort t.ports (by omega) 121 (fun x => p_cp1 x)
 refine pC h56_k rfl ?_
 simp only [Tryz.f56, go_sem]
 repeat' (first
  | ((first | refine pK (p_fName _ (Tenant.bk_name hb)) ?_ | refine pK (hconP) ?_ | refine pK (hrep) ?_); simp only [go_sem])
  | ((first | refine cS ?_ ?_ | refine gS ?_ ?_) <;> (intro hc; simp only [go_sem, hc])))
 ·have h4 : ckPo s t = 4 := by
   have : okAll pnm qnm t.ports = false := by
    unfold okAll
    rw [repGo_okGo pnm qnm (fun x : Port => AV.str x.name) (fun x y => rfl)]
    have hc' : repGo (fun x : Port => AV.str x.name) t.ports 0 t.ports = true := hc
    rw [hc']; simp
   unfold ckPo
   simp [this]
  rw [h4]
 ·have hok : okAll pnm qnm t.ports = true := by
   unfold okAll
   rw [repGo_okGo pnm qnm (fun x : Port => AV.str x.name) (fun x y => rfl)]
   have hc' : repGo (fun x : Port => AV.str x.name) t.ports 0 t.ports = false := hc
   rw [hc']
   have h5 : t.ports.all pnm = true := by
    have h6 : (t.ports.any fun x => !nmB x.name) = false := by assumption
    rw [<- any_not pnm t.ports]
    have : (t.ports.any fun x => !pnm x) = false := h6
    rw [this]; rfl
   rw [h5]; rfl
  have hN : nmB t.name = true := by
   have : (!nmB t.name) = false := by assumption
   simpa using this
  have hT : ckPo s t = if okAll (peg s.network.edges.length) qeg t.ports = false then 1 else if okAll (pwr t) qwr t.wires = false then 1 else 0 := by
   unfold ckPo
   rw [if_neg (by rw [hN]; decide), if_neg (by rw [hok]; decide)]
  refine ACallK.intro (c_outers t _) fun v H' hr => ?_
  obtain ⟨rfl, rfl⟩ := hr
  simp only [go_sem]
  refine rfK_intro (tag := 56) rfl (ACall.mono (c_outersIt t hn 6 5 _ _
   (fun k H => ∃ g, H = cpB s t 0 0 (mapc (setE eKey (outF t k))) g /\ distL eKey (outF t k) /\ okAll (peg s.network.edges.length) qeg t.ports = okGo (peg s.network.edges.length) qeg t.ports k (t.ports.drop k))
   (fun H => ∃ g ms, (H = cpB s t 0 0 ms g /\ okAll (peg s.network.edges.length) qeg t.ports = true) \/ (H = cpB s t 1 (-2) ms g /\ okAll (peg s.network.edges.length) qeg t.ports = false))
   ?_ ?_ ?_ ?_ ?_ ?_) fun v H2 hq => ?_)
  ·rintro k H ⟨g, rfl, _⟩; rfl
  ·rintro k H x ⟨g, rfl, h⟩; exact ⟨g ++ [x], rfl, h⟩
  ·rintro k x H hx hne ⟨g, rfl, hd, hok2⟩
   have hdr : t.ports.drop k = x :: t.ports.drop (k + 1) := by
    obtain ⟨hlt, rfl⟩ := List.getElem?_eq_some_iff.1 hx
    exact List.drop_eq_getElem_cons hlt
   rw [hdr, okGo, <- outF_any hne] at hok2
   have hwm : IntKind.i64.wrap ((s.network.edges.length : Int) - 1) = (s.network.edges.length : Int) - 1 := w64 (by omega) (by omega)
   refine ycall_of_awp (h := h56) (n := 53) mixed rfl ⟨by kernel_rfl, by kernel_rfl⟩ (by decide) _ _ _ _ rfl rfl rfl ?_
   show awp _ _ _ _ _ _ [(28, .int .i64 x.edge), (27, .int .i64 k), (0, .undef), (1, .undef), (2, .ptr 0 0), (3, .ptr 1 0), (4, .ptr 2 0), (5, .undef), (6, .ptr 4 0), (7, .undef), (8, .undef), (9, .undef), (10, .undef), (11, .undef), (12, .undef), (13, .undef), (14, .undef), (15, .undef), (16, .undef), (17, .undef), (18, .undef), (19, .undef), (20, .undef), (21, .undef), (22, .undef), (23, .undef), (24, .undef), (25, .undef), (26, .fn (.func 152) [] [.ptr 5 0]), (27, .undef), (28, .undef), (29, .undef), (30, .undef), (31, .undef), (32, .undef), (33, .undef), (34, .undef), (35, .undef), (36, .undef), (37, .undef), (38, .undef), (39, .undef), (40, .undef), (41, .undef), (42, .undef), (43, .undef), (44, .undef), (45, .undef), (46, .undef), (47, .undef), (48, .undef), (49, .undef), (50, .undef), (51, .undef), (52, .undef)] _
   simp only [go_sem, cpB]
   refine ⟨_, rfl, ?_⟩
   have hkeys : keysIn Tryz.prog 3 (eKey x :: (outF t k).map eKey) := keysIn_int (k := .i64) (by simp only [go_sem]) fun a ha => by
    rcases List.mem_cons.1 ha with rfl | ha
    ·exact ⟨_, rfl⟩
    ·obtain ⟨y, _, rfl⟩ := List.mem_map.1 ha; exact ⟨_, rfl⟩
   repeat' (first
    | (refine pK (c_within _ _ _) ?_; simp only [go_sem, hwm])
    | ((first | refine cS ?_ ?_ | refine gS ?_ ?_) <;> (intro hc; simp only [go_sem, hc, hwm])))
   ·have hpe : peg s.network.edges.length x = true := by simp at hc; simp [peg]; omega
    refine lkpK_set (kt := 3) (et := 4) eKey (outF t k) (eKey x) ?_ ?_ rfl hkeys hd ?_
    ·simp only [go_sem]
    ·simp only [go_sem]
    simp only [go_sem]
    repeat' (first
     | ((first | refine cS ?_ ?_ | refine gS ?_ ?_) <;> (intro hc; simp only [go_sem, hc])))
    ·rw [hpe, hc] at hok2
     exact ⟨_, rfl, .inr ⟨g, mapc (setE eKey (outF t k)), .inr ⟨rfl, by rw [hok2]; first | rfl | simp⟩⟩⟩
    ·refine updK_set (kt := 3) (et := 4) eKey (outF t k) x ?_ rfl hkeys hd hc ?_
     ·simp only [go_sem]
     simp only [go_sem]
     have hs1 : outF t (k + 1) = outF t k ++ [x] := by rw [outF_snoc hx, if_pos (by simp [hne])]
     rw [hpe, hc] at hok2
     exact ⟨_, rfl, .inl ⟨g, by rw [hs1], by rw [hs1]; exact distL_snoc _ _ hd hc, by rw [hok2]; simp⟩⟩
   ·have hpe : peg s.network.edges.length x = false := by simp at hc; simp [peg]; omega
    rw [hpe] at hok2
    exact ⟨_, rfl, .inr ⟨g, mapc (setE eKey (outF t k)), .inr ⟨rfl, by rw [hok2]; first | rfl | simp⟩⟩⟩
  ·rintro k x H hx hne ⟨g, rfl, hd, hok2⟩
   have hdr : t.ports.drop k = x :: t.ports.drop (k + 1) := by
    obtain ⟨hlt, rfl⟩ := List.getElem?_eq_some_iff.1 hx
    exact List.drop_eq_getElem_cons hlt
   have hs1 : outF t (k + 1) = outF t k := by rw [outF_snoc hx, if_neg (by simp [hne])]
   refine ⟨g, by rw [hs1], by rw [hs1]; exact hd, ?_⟩
   rw [hok2, hdr, okGo]
   have h1 : peg s.network.edges.length x = true := by simp [peg, hne]; omega
   have h2 : (t.ports.take k).any (fun y => qeg y x) = false := by simp [qeg, hne]
   rw [h1, h2]; simp
  ·rintro H ⟨g, rfl, hd, hok2⟩
   exact ⟨g, _, .inl ⟨rfl, by rw [hok2, List.drop_length]; rfl⟩⟩
  ·exact ⟨[], rfl, trivial, rfl⟩
  ·obtain ⟨g, ms, ⟨rfl, hq⟩ | ⟨rfl, hq⟩⟩ := hq
   ·refine ⟨0, _, rfl, .inl ⟨rfl, ?_⟩⟩
    show blkK 0 _ .normal _ (some s.c :: some t.c :: some [.int .i64 0] :: some ms :: some [.mapr 3] :: some t.c :: none :: g)
    have hcw : ∀ H, H[1]? = some (some t.c) -> SCall Tryz.prog 126 [.sl none (lWire t.wires), .fn (.func 127) [] [.ptr 1 0]] H (.bool (t.wires.any fun x => !pwr t x)) := fun H hH =>
     p_ContainsWire t.wires (by omega) 127 [] [.ptr 1 0] (fun x => !pwr t x) (fun x hx => p_cp3 t x 1 hH)
    have hcw1 := hcw (some s.c :: some t.c :: some [.int .i64 0] :: some ms :: some [.mapr 3] :: some t.c :: none :: g) rfl
    have hrw := p_repWire t.wires (by omega) 130 (fun x => p_cp4 x)
    simp only [go_sem]
    have hwq : okAll (pwr t) qwr t.wires = ((t.wires.all (pwr t)) && !(repB (fun x : Wire => AV.int .i64 x.src) t.wires)) := repGo_okGo (pwr t) qwr (fun x : Wire => AV.int .i64 x.src) (fun x y => by rw [Bool.eq_iff_iff]; simp [keyEq, keyEq1, qwr]) t.wires 0 t.wires
    have hT2 : ckPo s t = if okAll (pwr t) qwr t.wires = false then 1 else 0 := by rw [hT, if_neg (by rw [hq]; decide)]
    rw [<- any_not (pwr t) t.wires] at hwq
    repeat' (first
     | ((first | refine aS (hcw1) ?_ | refine pK (hrw) ?_); simp only [go_sem])
     | ((first | refine cS ?_ ?_ | refine gS ?_ ?_) <;> (intro hc; simp only [go_sem, hc])))
    ·rw [hT2, hwq, hc]; simp
    ·have h8 : (t.wires.any fun x => !pwr t x) = false := by assumption
     rw [hT2, hwq, hc, h8]; rfl
    ·have h8 : (t.wires.any fun x => !pwr t x) = true := by simpa using hc
     rw [hT2, hwq, h8]; rfl
   ·refine ⟨-2, _, rfl, .inr (.inl ⟨rfl, ?_⟩)⟩
    show blkK 0 _ .ret _ (some s.c :: some t.c :: some [.int .i64 1] :: some ms :: some [.mapr 3] :: some t.c :: none :: g)
    simp only [go_sem]
    rw [hT, if_pos hq]
 ·have h6 : (t.ports.any fun x => !nmB x.name) = true := by simpa using hc
  have h5 : t.ports.all pnm = false := by
   rw [<- any_not pnm t.ports]
   have : (t.ports.any fun x => !pnm x) = true := h6
   rw [this]; rfl
  have : okAll pnm qnm t.ports = false := by
   unfold okAll
   rw [repGo_okGo pnm qnm (fun x : Port => AV.str x.name) (fun x y => rfl), h5]; rfl
  have h4 : ckPo s t = 4 := by unfold ckPo; simp [this]
  rw [h4]
 ·have hN : nmB t.name = false := by simpa using hc
  rw [ckPo, if_pos hN]
end Go.AI
namespace Go.AI
open Go.Proofs
set_option maxRecDepth 50000
theorem p_known_1 {H : Heap} (x : Regex) (y : Node) (o : Nat) (ho : H[o]? = some (some x.c)) : SCall Tryz.prog 142 [.agg y.c, .ptr o 0] H (.bool (decide (y.name = x.node))) := by
 refine ACall.drop rfl ?_
 refine aC h142_k rfl ?_
 have ho' : ∀ z, (H ++ z)[o]? = some (some x.c) := fun z => by
  have := (List.getElem?_eq_some_iff.1 ho).1
  rw [List.getElem?_append_left this]; exact ho
 simp only [Tryz.f142, go_sem, ho', toList_beq]
theorem p_known_2 {H : Heap} (n : Network) (y : Regex) (b : Bool) (o : Nat) (ho : H[o]? = some (some n.c)) (hk : PCall Tryz.prog 60 [.agg n.c, .agg y.c] (.bool b)) : SCall Tryz.prog 144 [.agg y.c, .ptr o 0] H (.bool (!b)) := by
 refine ACall.drop rfl ?_
 refine aC h144_k rfl ?_
 have ho' : ∀ z, (H ++ z)[o]? = some (some n.c) := fun z => by
  have := (List.getElem?_eq_some_iff.1 ho).1
  rw [List.getElem?_append_left this]; exact ho
 simp only [Tryz.f144, go_sem, ho']
 repeat' (first
  | (refine pK (hk) ?_; simp only [go_sem, ho'])
  | ((first | refine cS ?_ ?_ | refine gS ?_ ?_) <;> (intro hc; simp only [go_sem, hc, ho'])))
theorem knBs_all (l : List ByteArray) : ∀ r : List Regex, knBs l r = r.all (knB l)
 | [] => by rw [knBs_nil]; rfl
 | x :: r => by rw [knBs_cons, List.all_cons, knBs_all l r]
theorem p_known (n : Network) (hn : n.nodes.length <= 9223372036854775807) : ∀ x : Regex, x.args.length <= 9223372036854775807 /\ bulkL x.c <= 1073741824 -> PCall Tryz.prog 60 [.agg n.c, .agg x.c] (.bool (knB (nodeNames n) x)) := by
 refine Regex.ind _ fun x ih => fun ⟨hl, hb⟩ => ?_
 have hih : ∀ y ∈ x.args, PCall Tryz.prog 60 [.agg n.c, .agg y.c] (.bool (knB (nodeNames n) y)) := fun y hy => by
  have hby : bulkL y.c <= 1073741824 := by have := lRegex_bk (Regex.bl_args hb) hy; simpa only [AV.bulk] using this
  exact ih y hy ⟨Nat.le_trans (lRegex_bn (Regex.bl_args hby)) (by decide), hby⟩
 have h1 : SCall Tryz.prog 141 [.sl none (lNode n.nodes), .fn (.func 142) [] [.ptr 1 0]] [some n.c, some x.c] (.bool (n.nodes.any fun y => decide (y.name = x.node))) :=
  p_ContainsNode n.nodes hn 142 [] [.ptr 1 0] (fun y => decide (y.name = x.node)) (fun y _ => p_known_1 x y 1 rfl)
 have h2 : SCall Tryz.prog 143 [.sl none (lRegex x.args), .fn (.func 144) [] [.ptr 0 0]] [some n.c, some x.c] (.bool (x.args.any fun y => !knB (nodeNames n) y)) :=
  p_ContainsRegex x.args hl 144 [] [.ptr 0 0] (fun y => !knB (nodeNames n) y) (fun y hy => p_known_2 n y _ 0 rfl (hih y hy))
 have hs : hasS (nodeNames n) x.node = n.nodes.any fun y => decide (y.name = x.node) := by
  unfold hasS nodeNames
  rw [List.any_map]; rfl
 refine pC h60_k rfl ?_
 simp only [Tryz.f60, go_sem]
 repeat' (first
  | ((first | refine aS (h1) ?_ | refine aS (h2) ?_); simp only [go_sem])
  | ((first | refine cS ?_ ?_ | refine gS ?_ ?_) <;> (intro hc; simp only [go_sem, hc])))
 all_goals (rw [knB_eq, knBs_all, <- any_not, hs]; simp_all)
end Go.AI
namespace Go.AI
open Go.Proofs
set_option maxRecDepth 50000
def isPt (y : Policy) : Bool := y.kind == 2 && decide (y.field = portS)
def ksGo : List Int -> List Policy -> List Int
 | o, [] => o
 | o, y :: r => ksGo (if isPt y then (if o.any (fun z => z == y.n) then o else o ++ [y.n]) else o) r
abbrev iKey (n : Int) : AV := .int .i64 n
theorem afind_get {k : AV} : ∀ {es : List (AV × AV)} {i j : Nat} {v : AV}, afind k es i = some (j, v) -> i <= j /\ ∃ p, es[j - i]? = some p /\ keyEq p.1 k = true /\ p.2 = v
 | [], _, _, _, h => by cases h
 | p :: es, i, j, v, h => by
  rw [afind] at h
  by_cases hk : keyEq p.1 k = true
  ·rw [if_pos hk] at h
   cases h
   exact ⟨Nat.le_refl _, p, by simp, hk, rfl⟩
  ·rw [if_neg hk] at h
   obtain ⟨h1, q, h2, h3, h4⟩ := afind_get h
   refine ⟨by omega, q, ?_, h3, h4⟩
   have : j - i = (j - (i + 1)) + 1 := by omega
   rw [this]; simpa using h2
theorem keyEq_i (z n : Int) : keyEq (iKey z) (iKey n) = (z == n) := by
 rw [Bool.eq_iff_iff]; simp [keyEq, keyEq1]
theorem any_i (l : List Int) (n : Int) : (l.any fun y => keyEq (iKey y) (iKey n)) = l.any fun z => z == n := by
 simp only [keyEq_i]
theorem upd_setI (l : List Int) (n : Int) : mapUpd (setE iKey l) (iKey n) (.bool true) = setE iKey (if l.any (fun z => z == n) then l else l ++ [n]) := by
 by_cases h : (l.any fun z => z == n) = true
 ·rw [if_pos h]
  have h2 := afind_set iKey (iKey n) l 0
  rw [any_i, if_pos h] at h2
  unfold mapUpd
  cases ha : afind (iKey n) (setE iKey l) 0 with
  | none => rw [ha] at h2; cases h2
  | some q =>
   obtain ⟨j, v⟩ := q
   obtain ⟨_, p, hp, hk, hv⟩ := afind_get ha
   dsimp only
   rw [Nat.sub_zero] at hp
   have hp2 := hp
   rw [setE, List.getElem?_map] at hp2
   cases hl : l[j]? with
   | none => rw [hl] at hp2; cases hp2
   | some z =>
    rw [hl] at hp2
    cases hp2
    rw [keyEq_i] at hk
    have hz : z = n := by simpa using hk
    subst hz
    apply List.ext_getElem?
    intro m
    rw [List.getElem?_set]
    split
    ·rename_i hjm
     subst hjm
     rw [hp]
     have := (List.getElem?_eq_some_iff.1 hp).1
     rw [if_pos this]
    ·rfl
 ·rw [if_neg h]
  exact upd_set iKey n l (by rw [any_i]; exact (Bool.not_eq_true _).mp h)
theorem ksGo_mem : ∀ (r : List Policy) (o : List Int) (m : Int), m ∈ ksGo o r ↔ m ∈ o \/ ∃ y ∈ r, isPt y = true /\ y.n = m
 | [], o, m => by simp [ksGo]
 | y :: r, o, m => by
  rw [ksGo, ksGo_mem r]
  by_cases h : isPt y = true
  ·rw [if_pos h]
   by_cases ha : (o.any fun z => z == y.n) = true
   ·rw [if_pos ha]
    rw [List.any_eq_true] at ha
    obtain ⟨z, hz, he⟩ := ha
    have he : z = y.n := by simpa using he
    subst he
    constructor
    ·rintro (h1 | ⟨w, hw, h2, h3⟩)
     ·exact .inl h1
     ·exact .inr ⟨w, by simp [hw], h2, h3⟩
    ·rintro (h1 | ⟨w, hw, h2, h3⟩)
     ·exact .inl h1
     ·rcases List.mem_cons.1 hw with rfl | hw
      ·exact .inl (h3 ▸ hz)
      ·exact .inr ⟨w, hw, h2, h3⟩
   ·rw [if_neg ha]
    constructor
    ·rintro (h1 | ⟨w, hw, h2, h3⟩)
     ·rcases List.mem_append.1 h1 with h1 | h1
      ·exact .inl h1
      ·exact .inr ⟨y, by simp, h, (List.mem_singleton.1 h1).symm⟩
     ·exact .inr ⟨w, by simp [hw], h2, h3⟩
    ·rintro (h1 | ⟨w, hw, h2, h3⟩)
     ·exact .inl (List.mem_append_left _ h1)
     ·rcases List.mem_cons.1 hw with rfl | hw
      ·exact .inl (List.mem_append_right _ (by simp [h3]))
      ·exact .inr ⟨w, hw, h2, h3⟩
  ·rw [if_neg h]
   constructor
   ·rintro (h1 | ⟨w, hw, h2, h3⟩)
    ·exact .inl h1
    ·exact .inr ⟨w, by simp [hw], h2, h3⟩
   ·rintro (h1 | ⟨w, hw, h2, h3⟩)
    ·exact .inl h1
    ·rcases List.mem_cons.1 hw with rfl | hw
     ·exact absurd h2 h
     ·exact .inr ⟨w, hw, h2, h3⟩
end Go.AI
namespace Go.AI
open Go.Proofs
set_option maxRecDepth 50000
theorem p_Keys (o : Nat) (H : Heap) : ACall Tryz.prog 197 [.mapr o] H (fun v H' => v = .fn (.func 246) [] [.ptr H.length 0] /\ H' = H ++ [some [.mapr o]]) := by
 refine aC h197_k rfl ?_
 simp only [Tryz.f197, go_sem]
theorem ksGo_len : ∀ (r : List Policy) (o : List Int), (ksGo o r).length <= o.length + r.length
 | [], o => by simp [ksGo]
 | y :: r, o => by
  rw [ksGo]
  have := ksGo_len r (if isPt y then (if o.any (fun z => z == y.n) then o else o ++ [y.n]) else o)
  refine Nat.le_trans this ?_
  simp only [List.length_cons]
  split
  ·split
   ·omega
   ·rw [List.length_append, List.length_singleton]; omega
  ·omega
theorem fm_n {y : Policy} (h : fmO y = true) (h2 : y.kind = 2) : 0 <= y.n /\ y.n <= 65535 := by
 rw [fmO_eq, Bool.and_eq_true, Bool.and_eq_true] at h
 have ho := h.1.1
 unfold okO at ho
 rw [if_neg (by omega), if_pos h2] at ho
 simp only [Bool.and_eq_true, w16, decide_eq_true_eq] at ho
 exact ho.2.2
def ptB (x : Policy) (o : List Int) (st : Int) : Heap := [some x.c, some (mapc (setE iKey o)), some [.mapr 1], some x.c, some (loopc st (frameVals 23 [(3, .ptr 2 0), (7, .fn (.func 225) [] [.ptr 3 0])]))]
theorem updK_setI {P : Program} {K : Kt} {e : Env} {H : Heap} {t kt et : TypeId} {o : Nat} (l : List Int) (n : Int) (hu : P.underlying t = some (.map kt et)) (hm : H[o]? = some (some (mapc (setE iKey l)))) (hk : keysIn P kt (iKey n :: l.map iKey)) (hd : distL iKey l)
  (h : K e (H.set o (some (mapc (setE iKey (if l.any (fun z => z == n) then l else l ++ [n])))))) : updK P t (.mapr o) (iKey n) (.bool true) K e H := by
 unfold updK
 dsimp only
 rw [hu]
 dsimp only
 rw [mapOf_at hm]
 dsimp only
 refine ⟨by rw [set_keys]; exact hk, dist_set iKey hd, rfl, ?_⟩
 rw [upd_setI]; exact h
theorem distF_set : ∀ {l : List Int}, distL iKey l -> distF (setE iKey l) = true
 | [], _ => rfl
 | x :: l, h => by
  unfold setE
  rw [List.map_cons, distF, Bool.and_eq_true]
  refine ⟨List.all_eq_true.2 fun q hq => ?_, distF_set h.2⟩
  obtain ⟨y, hy, rfl⟩ := List.mem_map.1 hq
  have := h.1 y hy
  dsimp only
  rw [this]; rfl
theorem okKeys_set {l : List Int} (h : distL iKey l) (hb : ∀ z ∈ l, 0 <= z /\ z <= 65535) : okKeys (setE iKey l) = true := by
 unfold okKeys
 rw [Bool.and_eq_true]
 refine ⟨List.all_eq_true.2 fun q hq => ?_, distF_set h⟩
 obtain ⟨z, hz, rfl⟩ := List.mem_map.1 hq
 have := hb z hz
 show (Lit.int .i64 z).wf = true
 have h1 : IntKind.i64.min = -9223372036854775808 := by decide
 have h2 : IntKind.i64.max = 9223372036854775807 := by decide
 simp only [Lit.wf, h1, h2, Bool.and_eq_true, decide_eq_true_eq]
 omega
theorem dist_add {l : List Int} (n : Int) (hd : distL iKey l) : distL iKey (if l.any (fun z => z == n) then l else l ++ [n]) := by
 split
 ·exact hd
 ·rename_i h
  exact distL_snoc iKey n hd (by rw [any_i]; exact (Bool.not_eq_true _).mp h)
set_option maxHeartbeats 2000000 in
theorem p_Ports (x : Policy) (hb : bulkL x.c <= 1073741824) (hfm : fmO x = true) : PCall Tryz.prog 132 [.agg x.c] (.sl none (lI64 (isortI (ksGo [] (ptsO x))))) := by
 have hargs : ∀ y ∈ ptsO x, y.args.length <= 9223372036854775807 := fun y hy => Nat.le_trans (lPolicy_bn (Policy.bl_args (Nat.le_trans (ptsO_bulk x y hy) hb))) (by decide)
 refine pB h132_k rfl ?_
 simp only [Tryz.f132, go_sem]
 refine ACallK.intro (p_parts x _) fun v H' hr => ?_
 obtain ⟨rfl, rfl⟩ := hr
 simp only [go_sem]
 refine rfK_intro (tag := 132) rfl (ACall.mono (p_partsIt x 4 3 5 _ (fun k pre => ∃ o, pre = ptB x o 0 /\ ksGo [] (ptsO x) = ksGo o ((ptsO x).drop k) /\ distL iKey o) (fun pre => pre = ptB x (ksGo [] (ptsO x)) 0 /\ distL iKey (ksGo [] (ptsO x))) (ptB x [] 0) rfl ⟨[], rfl, rfl, trivial⟩ ?_ hargs ?_ ?_) fun v H2 hq => ?_)
 ·rintro pre ⟨o, rfl, _⟩; rfl
 ·rintro g k y H hy ⟨pre, g', rfl, hn, o, rfl, hF, hdo⟩
  have hd : (ptsO x).drop k = y :: (ptsO x).drop (k + 1) := by
   obtain ⟨hlt, rfl⟩ := List.getElem?_eq_some_iff.1 hy
   exact List.drop_eq_getElem_cons hlt
  rw [hd, ksGo] at hF
  have hkeys : keysIn Tryz.prog 3 (iKey y.n :: o.map iKey) := keysIn_int (k := .i64) (by simp only [go_sem]) fun a ha => by
   rcases List.mem_cons.1 ha with rfl | ha
   ·exact ⟨_, rfl⟩
   ·obtain ⟨z, _, rfl⟩ := List.mem_map.1 ha; exact ⟨_, rfl⟩
  refine ycall_of_awp (h := h132) (n := 23) mixed rfl ⟨by kernel_rfl, by kernel_rfl⟩ (by decide) _ _ _ _ rfl rfl rfl ?_
  show awp _ _ _ _ _ _ [(8, .agg y.c), (0, .undef), (1, .undef), (2, .undef), (3, .ptr 2 0), (4, .undef), (5, .undef), (6, .undef), (7, .fn (.func 225) [] [.ptr 3 0]), (8, .undef), (9, .undef), (10, .undef), (11, .undef), (12, .undef), (13, .undef), (14, .undef), (15, .undef), (16, .undef), (17, .undef), (18, .undef), (19, .undef), (20, .undef), (21, .undef), (22, .undef)] _
  generalize hG : g ++ g' = G
  simp only [go_sem, ptB, toList_beq]
  refine ⟨_, rfl, ?_⟩
  repeat' (first
   | ((first | refine cS ?_ ?_ | refine gS ?_ ?_) <;> (intro hc; simp only [go_sem, hc, toList_beq])))
  ·have hpt : isPt y = true := by
    have h5 : (y.kind == 2) = true := by assumption
    have h6 : decide (y.field = portS) = true := hc
    rw [isPt, h5, h6]; rfl
   rw [hpt, if_pos rfl] at hF
   refine updK_setI (kt := 3) (et := 4) o y.n ?_ rfl hkeys hdo ?_
   ·simp only [go_sem]
   simp only [go_sem]
   exact ⟨_, rfl, .inl ⟨ptB x (if o.any (fun z => z == y.n) then o else o ++ [y.n]) 0, g' ++ [some y.c], by rw [<- hG]; simp [ptB], rfl, _, rfl, hF, dist_add y.n hdo⟩⟩
  ·have hpt : isPt y = false := by
    have h6 : decide (y.field = portS) = false := hc
    rw [isPt, h6, Bool.and_false]
   rw [hpt, if_neg (by decide)] at hF
   exact ⟨_, rfl, .inl ⟨ptB x o 0, g' ++ [some y.c], by rw [<- hG]; simp [ptB], rfl, _, rfl, hF, hdo⟩⟩
  ·have hpt : isPt y = false := by
    have h5 : (y.kind == 2) = false := by simpa using hc
    rw [isPt, h5, Bool.false_and]
   rw [hpt, if_neg (by decide)] at hF
   exact ⟨_, rfl, .inl ⟨ptB x o 0, g' ++ [some y.c], by rw [<- hG]; simp [ptB], rfl, _, rfl, hF, hdo⟩⟩
 ·rintro pre ⟨o, rfl, hF, hdo⟩
  rw [List.drop_length] at hF
  have hF : ksGo [] (ptsO x) = o := hF
  exact ⟨by rw [hF], by rw [hF]; exact hdo⟩
 ·obtain ⟨pre, g, rfl, hn, rfl, hdo⟩ := hq
  refine ⟨0, _, rfl, .inl ⟨rfl, ?_⟩⟩
  show blkK 0 _ .normal _ (some x.c :: some (mapc (setE iKey (ksGo [] (ptsO x)))) :: some [.mapr 1] :: some x.c :: none :: g)
  simp only [go_sem]
  refine ACallK.intro (p_Keys 1 _) fun v H' hr => ?_
  obtain ⟨rfl, rfl⟩ := hr
  simp only [go_sem]
  have hlen : (ksGo [] (ptsO x)).length <= 1073741824 := Nat.le_trans (ksGo_len (ptsO x) []) (by have := ptsO_len x; simp; omega)
  have hbnd : ∀ z ∈ ksGo [] (ptsO x), 0 <= z /\ z <= 65535 := fun z hz => by
   rcases (ksGo_mem (ptsO x) [] z).1 hz with hz | ⟨y, hy, hp, rfl⟩
   ·cases hz
   ·simp only [isPt, Bool.and_eq_true, beq_iff_eq] at hp
    exact fm_n (fmO_pts x hfm y hy) hp.1
  have hes : intsOf (setE iKey (ksGo [] (ptsO x))) = ksGo [] (ptsO x) := by
   unfold intsOf setE
   rw [List.map_map]
   exact List.map_id'' (fun _ => rfl) _
  refine ACallK.intro (sorted_call (o := 1) (es := setE iKey (ksGo [] (ptsO x))) (H := some x.c :: some (mapc (setE iKey (ksGo [] (ptsO x)))) :: some [.mapr 1] :: some x.c :: none :: (g ++ [some [.mapr 1]])) ?_ (mapOf_at rfl) ?_ ?_) fun v H' hr => ?_
  ·simp
  ·exact okKeys_set hdo fun z hz => hbnd z hz
  ·simp [setE]; omega
  ·obtain ⟨rfl, rfl⟩ := hr
   simp only [go_sem, hes]
   rfl
end Go.AI
namespace Go.AI
open Go.Proofs
set_option maxRecDepth 50000
theorem p_EqualI (a b : List Int) (ha : a.length <= 9223372036854775807) : PCall Tryz.prog 165 [.sl none (lI64 a), .sl none (lI64 b)] (.bool (eqI a b)) := by
 refine pC h165_k rfl ?_
 simp only [Tryz.f165, go_sem]
 repeat' (first
  | ((first | refine cS ?_ ?_ | refine gS ?_ ?_) <;> (intro hc; simp only [go_sem, hc])))
 ·have hne : a ≠ b := by rintro rfl; simp at hc
  simp [eqI, hne]
 ·have hlen : a.length = b.length := by simp at hc; omega
  refine awp_lst a (fun (_ : Unit) r => decide (r = b.drop (a.length - r.length))) (fun k _ => a.take k = b.take k) (fun k _ => [(0, .sl none (lI64 a)), (1, .sl none (lI64 b)), (12, .int .i64 a.length), (13, .int .i64 k)]) (fun k _ => []) () ha rfl rfl rfl ?_ ?_
  ·intro k _ x xs hd hx hI hF h0 h1 hw
   have hk2 := drop_len hd
   obtain ⟨y, hy⟩ : ∃ y, b[k]? = some y := ⟨_, List.getElem?_eq_getElem (by omega)⟩
   have e1 : a.length - (xs.length + 1) = k := by omega
   have e2 : a.length - xs.length = k + 1 := by omega
   have hbd : b.drop k = y :: b.drop (k + 1) := by
    obtain ⟨hlt, rfl⟩ := List.getElem?_eq_some_iff.1 hy
    exact List.drop_eq_getElem_cons hlt
   simp only [List.length_cons, e1, Nat.sub_self, List.drop_zero, hbd] at hF
   simp only [go_sem, h0, h1, lI64_get hx, lI64_get hy]
   repeat' (first
    | ((first | refine cS ?_ ?_ | refine gS ?_ ?_) <;> (intro hc; simp only [go_sem, hc, h0, h1, hw, lI64_get hx, lI64_get hy])))
   ·have hne : x ≠ y := by simpa using hc
    have : decide (a = b) = false := by rw [hF]; simp [hne]
    rw [eqI, this]
   ·have he : x = y := by simpa using hc
    subst he
    exact ⟨(), by rw [Bool.eq_iff_iff, decide_eq_true_eq, decide_eq_true_eq, e1, e2, hbd]; simp, by rw [take_snoc hx, take_snoc hy, hI]⟩
  ·intro _ hI hF
   simp only [go_sem, Int.lt_irrefl, decide_false]
   have : a = b := by rw [List.take_length] at hI; rw [hI, hlen, List.take_length]
   simp [eqI, this]
theorem p_family (k : Int) (h1 : 1 <= k) (h2 : k <= 6) : PCall Tryz.prog 164 [.int .i64 k] (.int .i64 (famS k)) := by
 have h : k = 1 \/ k = 2 \/ k = 3 \/ k = 4 \/ k = 5 \/ k = 6 := by omega
 refine pC h164_k rfl ?_
 rcases h with rfl | rfl | rfl | rfl | rfl | rfl
 all_goals
  simp only [Tryz.f164, go_sem]
  rfl
end Go.AI
namespace Go.AI
structure VE where
 v : Variable
 b : Bool
def vNew (l : List Fld) (s : Stp) : Variable := ⟨s.var, famS s.kind, widS l s.key, if numS s then s.n else 0, if numS s then s.m else 0⟩
def vFind (E : List VE) (nm : ByteArray) : Option VE := E.find? fun e => decide (e.v.name = nm)
def vUpd : List VE -> VE -> List VE
 | [], x => [x]
 | e :: E, x => if e.v.name = x.v.name then x :: E else e :: vUpd E x
def vBad (l : List Fld) (e : VE) (s : Stp) : Bool := e.v.family != famS s.kind || (!eqI e.v.widths (widS l s.key) || (numS s && (e.b && (e.v.n != s.n || e.v.m != s.m))))
def vStep (l : List Fld) (E : List VE) (s : Stp) : Option (List VE) :=
 if s.kind = 0 then some E else match vFind E s.var with
  | none => some (vUpd E ⟨vNew l s, numS s⟩)
  | some e => if vBad l e s then none else if numS s then some (vUpd E ⟨vNew l s, true⟩) else some E
def vGo (l : List Fld) : List VE -> List Stage -> Option (List VE)
 | E, [] => some E
 | E, x :: r => match vStep l E x.step with
  | none => none
  | some E' => vGo l E' r
theorem vFind_upd (x : VE) (nm : ByteArray) : ∀ E : List VE, vFind (vUpd E x) nm = if x.v.name = nm then some x else vFind E nm
 | [] => by
  unfold vUpd vFind
  by_cases h : x.v.name = nm <;> simp [h]
 | e :: E => by
  have ih := vFind_upd x nm E
  unfold vUpd
  by_cases h : e.v.name = x.v.name
  ·rw [if_pos h]
   unfold vFind
   by_cases h2 : x.v.name = nm
   ·simp [h2]
   ·simp [h2, h]
  ·rw [if_neg h]
   unfold vFind at ih ⊢
   rw [List.find?_cons, List.find?_cons]
   by_cases h2 : e.v.name = nm
   ·have : ¬ x.v.name = nm := fun h3 => h (h2.trans h3.symm)
    simp [h2, this]
   ·simp only [h2, decide_false]
    exact ih
theorem vFind_name {E : List VE} {nm : ByteArray} {e : VE} (h : vFind E nm = some e) : e.v.name = nm := by
 have := List.find?_some h
 simpa using this
structure VInv (l : List Fld) (E : List VE) (p : List Stage) : Prop where
 src : ∀ nm e, vFind E nm = some e -> ∃ x ∈ p, x.step.kind ≠ 0 /\ x.step.var = nm
 fits : ∀ x ∈ p, x.step.kind ≠ 0 -> ∃ e, vFind E x.step.var = some e /\ e.v.family = famS x.step.kind /\ e.v.widths = widS l x.step.key /\ (numS x.step = true -> e.b = true /\ e.v.n = x.step.n /\ e.v.m = x.step.m)
 num : ∀ nm e, vFind E nm = some e -> e.b = true -> ∃ x ∈ p, x.step.kind ≠ 0 /\ x.step.var = nm /\ numS x.step = true
theorem VInv.nil (l : List Fld) : VInv l [] [] := ⟨fun _ _ h => (by cases h), fun _ h => (by cases h), fun _ _ h => (by cases h)⟩
theorem vBad_any {l : List Fld} {E : List VE} {p : List Stage} (h : VInv l E p) {s : Stp} (hk : s.kind ≠ 0) :
  p.any (fun y => clash l y.step s) = match vFind E s.var with | none => false | some e => vBad l e s := by
 cases hf : vFind E s.var with
 | none =>
  dsimp only
  rw [List.any_eq_false]
  intro y hy hc
  unfold clash at hc
  simp only [Bool.and_eq_true, bne_iff_ne, ne_eq, decide_eq_true_eq] at hc
  obtain ⟨e, he, _⟩ := h.fits y hy hc.1.1
  rw [hc.2.1, hf] at he
  cases he
 | some e =>
  dsimp only
  rw [Bool.eq_iff_iff, List.any_eq_true]
  constructor
  ·rintro ⟨y, hy, hc⟩
   unfold clash agrS at hc
   simp only [Bool.and_eq_true, bne_iff_ne, ne_eq, decide_eq_true_eq] at hc
   obtain ⟨⟨k1, k2⟩, hv, ha⟩ := hc
   obtain ⟨e', he, h1, h2, h3⟩ := h.fits y hy k1
   rw [hv, hf] at he
   cases he
   have ha' : (numS y.step = true /\ numS s = true /\ (y.step.n ≠ s.n \/ y.step.m ≠ s.m)) \/ eqI (widS l y.step.key) (widS l s.key) = false \/ famS y.step.kind ≠ famS s.kind := by
    generalize eqI (widS l y.step.key) (widS l s.key) = B at ha ⊢
    generalize famS y.step.kind = f1 at ha ⊢
    generalize famS s.kind = f2 at ha ⊢
    generalize numS y.step = c1 at ha ⊢
    generalize numS s = c2 at ha ⊢
    cases B <;> cases c1 <;> cases c2 <;> simp at ha ⊢
    all_goals first | exact ha | (rcases ha with ha | ha <;> grind) | grind
   unfold vBad
   rw [h1, h2]
   rcases ha' with ⟨a1, a2, a3⟩ | a | a
   ·obtain ⟨g1, g2, g3⟩ := h3 a1
    rw [g1, g2, g3, a2]
    rcases a3 with a3 | a3 <;> simp [a3]
   ·simp [a]
   ·simp [a]
  ·intro hb
   unfold vBad at hb
   by_cases hn : numS s = true /\ e.b = true /\ (e.v.n != s.n || e.v.m != s.m) = true
   ·obtain ⟨n1, n2, n3⟩ := hn
    obtain ⟨y, hy, k1, k2, k3⟩ := h.num _ e hf n2
    obtain ⟨e', he, h1, h2, h3⟩ := h.fits y hy k1
    rw [k2, hf] at he
    cases he
    obtain ⟨g1, g2, g3⟩ := h3 k3
    refine ⟨y, hy, ?_⟩
    unfold clash agrS
    rw [n1, k3, <- g2, <- g3, n3]
    simp [k1, hk, k2]
   ·obtain ⟨y, hy, k1, k2⟩ := h.src _ e hf
    obtain ⟨e', he, h1, h2, h3⟩ := h.fits y hy k1
    rw [k2, hf] at he
    cases he
    refine ⟨y, hy, ?_⟩
    unfold clash agrS
    rw [<- h1, <- h2]
    have hb2 : (e.v.family != famS s.kind || !eqI e.v.widths (widS l s.key)) = true := by
     rw [Bool.or_eq_true] at hb ⊢
     rcases hb with hb | hb
     ·exact .inl hb
     ·rw [Bool.or_eq_true] at hb
      rcases hb with hb | hb
      ·exact .inr hb
      ·exfalso
       apply hn
       simp only [Bool.and_eq_true] at hb
       exact ⟨hb.1, hb.2.1, hb.2.2⟩
    have hb3 : (eqI e.v.widths (widS l s.key) && e.v.family == famS s.kind) = false := by
     generalize eqI e.v.widths (widS l s.key) = B at hb2 ⊢
     cases B
     ·rfl
     ·simp only [Bool.not_true, Bool.or_false] at hb2
      simpa using hb2
    rw [hb3]
    simp [k1, hk, k2]
theorem VInv.step {l : List Fld} {E : List VE} {p : List Stage} (h : VInv l E p) {x : Stage} {E' : List VE} (hs : vStep l E x.step = some E') : VInv l E' (p ++ [x]) := by
 unfold vStep at hs
 split at hs
 ·rename_i hk
  cases hs
  exact ⟨fun nm e he => by obtain ⟨y, hy, h1⟩ := h.src nm e he; exact ⟨y, by simp [hy], h1⟩,
   fun y hy hk2 => by
    rcases List.mem_append.1 hy with hy | hy
    ·exact h.fits y hy hk2
    ·rw [List.mem_singleton.1 hy] at hk2; exact absurd hk hk2,
   fun nm e he hb => by obtain ⟨y, hy, h1⟩ := h.num nm e he hb; exact ⟨y, by simp [hy], h1⟩⟩
 ·rename_i hk
  split at hs
  ·rename_i hf
   cases hs
   refine ⟨fun nm e he => ?_, fun y hy hk2 => ?_, fun nm e he hb => ?_⟩
   ·rw [vFind_upd] at he
    split at he
    ·rename_i hn
     exact ⟨x, by simp, hk, hn⟩
    ·obtain ⟨y, hy, h1⟩ := h.src nm e he; exact ⟨y, by simp [hy], h1⟩
   ·rw [vFind_upd]
    rcases List.mem_append.1 hy with hy | hy
    ·obtain ⟨e, he, h1⟩ := h.fits y hy hk2
     have hne : ¬ (vNew l x.step).name = y.step.var := fun hn => by
      have hn : x.step.var = y.step.var := hn
      rw [<- hn, hf] at he; cases he
     exact ⟨e, by rw [if_neg hne]; exact he, h1⟩
    ·rcases List.mem_singleton.1 hy with rfl
     refine ⟨_, if_pos rfl, rfl, rfl, fun hn => ⟨hn, ?_, ?_⟩⟩
     ·simp [vNew, hn]
     ·simp [vNew, hn]
   ·rw [vFind_upd] at he
    split at he
    ·rename_i hn
     cases he
     exact ⟨x, by simp, hk, hn, hb⟩
    ·obtain ⟨y, hy, h1⟩ := h.num nm e he hb; exact ⟨y, by simp [hy], h1⟩
  ·rename_i e0 hf
   split at hs
   ·cases hs
   ·rename_i hb0
    have hb0 : vBad l e0 x.step = false := by simpa using hb0
    unfold vBad at hb0
    rw [Bool.or_eq_false_iff, Bool.or_eq_false_iff] at hb0
    obtain ⟨b1, b2, b3⟩ := hb0
    have b1 : e0.v.family = famS x.step.kind := by simpa using b1
    have b2 : e0.v.widths = widS l x.step.key := by simpa [eqI] using b2
    split at hs
    ·rename_i hnum
     cases hs
     refine ⟨fun nm e he => ?_, fun y hy hk2 => ?_, fun nm e he hb => ?_⟩
     ·rw [vFind_upd] at he
      split at he
      ·rename_i hn
       exact ⟨x, by simp, hk, hn⟩
      ·obtain ⟨y, hy, h1⟩ := h.src nm e he; exact ⟨y, by simp [hy], h1⟩
     ·rw [vFind_upd]
      rcases List.mem_append.1 hy with hy | hy
      ·obtain ⟨e, he, h1, h2, h3⟩ := h.fits y hy hk2
       by_cases hn : (vNew l x.step).name = y.step.var
       ·have hn2 : x.step.var = y.step.var := hn
        rw [<- hn2, hf] at he
        cases he
        refine ⟨_, if_pos hn, ?_, ?_, fun hny => ?_⟩
        ·show famS x.step.kind = _
         rw [<- b1, h1]
        ·show widS l x.step.key = _
         rw [<- b2, h2]
        ·obtain ⟨g1, g2, g3⟩ := h3 hny
         rw [hnum, g1, g2, g3] at b3
         simp only [Bool.true_and, Bool.or_eq_false_iff, bne_eq_false_iff_eq] at b3
         refine ⟨rfl, ?_, ?_⟩
         ·simp [vNew, hnum, b3.1]
         ·simp [vNew, hnum, b3.2]
       ·exact ⟨e, by rw [if_neg hn]; exact he, h1, h2, h3⟩
      ·rcases List.mem_singleton.1 hy with rfl
       refine ⟨_, if_pos rfl, rfl, rfl, fun hn => ⟨rfl, ?_, ?_⟩⟩
       ·simp [vNew, hn]
       ·simp [vNew, hn]
     ·rw [vFind_upd] at he
      split at he
      ·rename_i hn
       exact ⟨x, by simp, hk, hn, hnum⟩
      ·obtain ⟨y, hy, h1⟩ := h.num nm e he hb; exact ⟨y, by simp [hy], h1⟩
    ·rename_i hnum
     cases hs
     refine ⟨fun nm e he => ?_, fun y hy hk2 => ?_, fun nm e he hb => ?_⟩
     ·obtain ⟨y, hy, h1⟩ := h.src nm e he; exact ⟨y, by simp [hy], h1⟩
     ·rcases List.mem_append.1 hy with hy | hy
      ·exact h.fits y hy hk2
      ·rcases List.mem_singleton.1 hy with rfl
       exact ⟨e0, hf, b1, b2, fun hn => absurd hn hnum⟩
     ·obtain ⟨y, hy, h1⟩ := h.num nm e he hb; exact ⟨y, by simp [hy], h1⟩
theorem vStep_none {l : List Fld} {E : List VE} {p : List Stage} (h : VInv l E p) (s : Stp) : (vStep l E s).isSome = !p.any (fun y => clash l y.step s) := by
 by_cases hk : s.kind = 0
 ·unfold vStep
  rw [if_pos hk]
  have : p.any (fun y => clash l y.step s) = false := by
   rw [List.any_eq_false]; intro y _; simp [clash, hk]
  rw [this]; rfl
 ·rw [vBad_any h hk]
  unfold vStep
  rw [if_neg hk]
  cases vFind E s.var with
  | none => rfl
  | some e =>
   dsimp only
   cases vBad l e s
   ·cases numS s <;> rfl
   ·rfl
theorem vGo_typGo (l : List Fld) (p : List Stage) : ∀ (n i : Nat) (E : List VE), p.length - i = n -> VInv l E (p.take i) -> (vGo l E (p.drop i)).isSome = typGo l p i (p.drop i)
 | 0, i, E, hn, _ => by
  rw [List.drop_eq_nil_of_le (by omega)]; rfl
 | n + 1, i, E, hn, h => by
  have hlt : i < p.length := by omega
  rw [List.drop_eq_getElem_cons hlt, vGo, typGo]
  have h1 := vStep_none h p[i].step
  cases hs : vStep l E p[i].step with
  | none =>
   rw [hs] at h1
   rw [<- h1]; rfl
  | some E' =>
   rw [hs] at h1
   rw [<- h1]
   have ht : p.take (i + 1) = p.take i ++ [p[i]] := by rw [List.take_add_one, List.getElem?_eq_getElem hlt]; rfl
   have := vGo_typGo l p n (i + 1) E' (by omega) (by rw [ht]; exact h.step hs)
   simpa using this
theorem vGo_typ (l : List Fld) (p : List Stage) : (vGo l [] p).isSome = typGo l p 0 p := by
 have := vGo_typGo l p p.length 0 [] (by omega) (by simpa using VInv.nil l)
 simpa using this
end Go.AI
namespace Go.AI
open Go.Proofs
set_option maxRecDepth 50000
@[go_sem] theorem evo_nilmap {P : Program} {e : Env} (o : Option TypeId) : evo P o e (.const (.map none)) = .nilm := rfl
@[go_sem] theorem borrow0_nilm : borrow0 .nilm = .nilm := rfl
@[go_sem] theorem borrow0_mapr (o : Nat) : borrow0 (.mapr o) = .mapr o := rfl
def entE (F : VE -> AV) (E : List VE) : List (AV × AV) := E.map fun e => (.str e.v.name, F e)
abbrev entA : List VE -> List (AV × AV) := entE fun e => .agg e.v.c
abbrev entN : List VE -> List (AV × AV) := entE fun e => .bool e.b
theorem keyEq_s (a b : ByteArray) : keyEq (.str a) (.str b) = decide (a = b) := by
 rw [Bool.eq_iff_iff]; simp [keyEq, keyEq1]
theorem afind_ent (F : VE -> AV) (nm : ByteArray) : ∀ (E : List VE) (i : Nat), (afind (.str nm) (entE F E) i).map (·.2) = (vFind E nm).map F
 | [], _ => rfl
 | e :: E, i => by
  unfold entE vFind
  rw [List.map_cons, afind, List.find?_cons, keyEq_s]
  by_cases h : e.v.name = nm
  ·rw [if_pos (by simp [h])]; simp [h]
  ·rw [if_neg (by simp [h])]
   simp only [h, decide_false]
   exact afind_ent F nm E (i + 1)
theorem mapUpd_ent (F : VE -> AV) (x : VE) : ∀ E : List VE, mapUpd (entE F E) (.str x.v.name) (F x) = entE F (vUpd E x) := by
 have key : ∀ (E : List VE) (i : Nat), (match afind (.str x.v.name) (entE F E) i with | some (j, _) => (entE F E).set (j - i) (.str x.v.name, F x) | none => entE F E ++ [(.str x.v.name, F x)]) = entE F (vUpd E x) := by
  intro E
  induction E with
  | nil => intro i; rfl
  | cons e E ih =>
   intro i
   unfold entE vUpd
   rw [List.map_cons, afind, keyEq_s]
   by_cases h : e.v.name = x.v.name
   ·rw [if_pos (by simp [h]), if_pos h]
    simp
   ·rw [if_neg (by simp [h]), if_neg h]
    have ih := ih (i + 1)
    unfold entE at ih
    rw [List.map_cons, <- ih]
    cases ha : afind (.str x.v.name) (E.map fun e => (AV.str e.v.name, F e)) (i + 1) with
    | none => rfl
    | some q =>
     obtain ⟨j, v⟩ := q
     have hj := (afind_get ha).1
     dsimp only
     have : j - i = (j - (i + 1)) + 1 := by omega
     rw [this, List.set_cons_succ]
 intro E
 have h := key E 0
 unfold mapUpd
 cases ha : afind (.str x.v.name) (entE F E) 0 with
 | none => rw [ha] at h; exact h
 | some q => obtain ⟨j, v⟩ := q; rw [ha] at h; exact h
theorem keys_ent {P : Program} {kt : TypeId} (hu : P.underlying kt = some .string) (F : VE -> AV) (E : List VE) (s : ByteArray) : keysIn P kt (.str s :: (entE F E).map (·.1)) :=
 keysIn_str hu fun a ha => by
  rcases List.mem_cons.1 ha with rfl | ha
  ·exact ⟨_, rfl⟩
  ·unfold entE at ha
   rw [List.map_map] at ha
   obtain ⟨e, _, rfl⟩ := List.mem_map.1 ha; exact ⟨_, rfl⟩
def distV : List VE -> Prop
 | [] => True
 | e :: E => (∀ x ∈ E, e.v.name ≠ x.v.name) /\ distV E
theorem distV_ent (F : VE -> AV) : ∀ {E : List VE}, distV E -> distK (entE F E)
 | [], _ => List.Pairwise.nil
 | e :: E, h => List.Pairwise.cons (fun q hq => by obtain ⟨y, hy, rfl⟩ := List.mem_map.1 hq; dsimp only; rw [keyEq_s]; simp [h.1 y hy]) (distV_ent F h.2)
theorem vUpd_mem {x y : VE} : ∀ {E : List VE}, y ∈ vUpd E x -> y = x \/ y ∈ E
 | [], h => by unfold vUpd at h; exact .inl (List.mem_singleton.1 h)
 | e :: E, h => by
  unfold vUpd at h
  split at h
  ·rcases List.mem_cons.1 h with h | h
   ·exact .inl h
   ·exact .inr (List.mem_cons_of_mem _ h)
  ·rcases List.mem_cons.1 h with h | h
   ·exact .inr (h ▸ List.mem_cons_self)
   ·rcases vUpd_mem h with h | h
    ·exact .inl h
    ·exact .inr (List.mem_cons_of_mem _ h)
theorem distV_upd (x : VE) : ∀ {E : List VE}, distV E -> distV (vUpd E x)
 | [], _ => ⟨fun _ h => (by cases h), trivial⟩
 | e :: E, h => by
  unfold vUpd
  split
  ·rename_i he
   exact ⟨fun y hy => he ▸ h.1 y hy, h.2⟩
  ·rename_i he
   refine ⟨fun y hy => ?_, distV_upd x h.2⟩
   rcases vUpd_mem hy with rfl | hy
   ·exact he
   ·exact h.1 y hy
theorem vUpd_self : ∀ {E : List VE} {nm : ByteArray} {e : VE}, vFind E nm = some e -> vUpd E e = E
 | [], _, _, h => by cases h
 | x :: E, nm, e, h => by
  have hn := vFind_name h
  unfold vFind at h
  rw [List.find?_cons] at h
  unfold vUpd
  by_cases hx : x.v.name = nm
  ·simp only [hx, decide_true] at h
   cases h
   rw [if_pos rfl]
  ·simp only [hx, decide_false] at h
   rw [if_neg (by rw [hn]; exact hx), vUpd_self h]
theorem bnd_ent {F : VE -> AV} {n : Nat} {E : List VE} (hF : ∀ e, (F e).bnd n = true) : bndL n (mapc (entE F E)) = true := by
 simp only [mapc, bndL, AV.bnd, Bool.and_true]
 refine bndL_iff.2 fun c hc => ?_
 obtain ⟨p, hp, hc⟩ := List.mem_flatMap.1 hc
 obtain ⟨x, _, rfl⟩ := List.mem_map.1 hp
 rcases List.mem_cons.1 hc with rfl | hc
 ·rfl
 ·rcases List.mem_singleton.1 hc with rfl
  exact hF x
section
variable {P : Program} {K : Kt} {e : Env} {H : Heap} {d : Tmp} {t kt et : TypeId} {o : Nat}
theorem lkpK_ent (F : VE -> AV) (E : List VE) (nm : ByteArray) (ok : Bool) {z : AV} (hu : P.underlying t = some (.map kt et)) (hk : P.underlying kt = some .string) (hz : zeroAV P et = some z) (hm : H[o]? = some (some (mapc (entE F E)))) (hd : distV E)
  (h : K ((d, lkres ok z ((vFind E nm).map fun e => (0, F e))) :: e) H) : lkpK P t ok (.mapr o) (.str nm) d K e H := by
 unfold lkpK
 rw [hu]
 dsimp only
 rw [mapOf_at hm]
 dsimp only
 refine ⟨keys_ent hk F E nm, distV_ent F hd, _, hz, ?_⟩
 have ha := afind_ent F nm E 0
 have : lkres ok z (afind (.str nm) (entE F E) 0) = lkres ok z ((vFind E nm).map fun e => (0, F e)) := by
  cases h1 : afind (.str nm) (entE F E) 0 with
  | none =>
   rw [h1] at ha
   cases h2 : vFind E nm with
   | none => rfl
   | some _ => rw [h2] at ha; cases ha
  | some q =>
   obtain ⟨j, v⟩ := q
   rw [h1] at ha
   cases h2 : vFind E nm with
   | none => rw [h2] at ha; cases ha
   | some x =>
    rw [h2] at ha
    cases ha
    rfl
 rw [this]; exact h
theorem updK_ent (F : VE -> AV) (E : List VE) (x : VE) {nm : ByteArray} {v : AV} (hn : nm = x.v.name) (hF : v = F x) (hu : P.underlying t = some (.map kt et)) (hk : P.underlying kt = some .string) (hm : H[o]? = some (some (mapc (entE F E)))) (hd : distV E) (hv : (F x).isVal = true)
  (h : K e (H.set o (some (mapc (entE F (vUpd E x)))))) : updK P t (.mapr o) (.str nm) v K e H := by
 subst hn; subst hF
 unfold updK
 dsimp only
 rw [hu]
 dsimp only
 rw [mapOf_at hm]
 dsimp only
 refine ⟨keys_ent hk F E _, distV_ent F hd, hv, ?_⟩
 rw [mapUpd_ent]; exact h
end
theorem p_EqualI' (a b : List Int) : PCall Tryz.prog 165 [.sl none (lI64 a), .sl none (lI64 b)] (.bool (eqI a b)) := by
 refine PCall.fit h165_k.c fun hf => ?_
 have := pfits hf
 rw [lI64_len] at this
 exact p_EqualI a b this
set_option maxHeartbeats 4000000 in
theorem p_variables (l : List Fld) (hl : l.length <= 9223372036854775807) (p : List Stage) (hp : p.length <= 9223372036854775807) (hk : ∀ x ∈ p, x.step.kind ≠ 0 -> (1 <= x.step.kind /\ x.step.kind <= 6) /\ x.step.key.length <= 1073741824) :
  ACall Tryz.prog 90 [.sl none (lFld l), .sl none (lStage p)] [] (fun v H' => (vGo l [] p = none /\ v = .tup [.nilm, .bool false]) \/ ∃ E g, vGo l [] p = some E /\ distV E /\ v = .tup [.mapr 0, .bool true] /\ H' = some (mapc (entA E)) :: some (mapc (entN E)) :: g) := by
 refine aN h90_k rfl ?_
 simp only [Tryz.f90, go_sem]
 refine awp_lst p (fun E r => vGo l E r) (fun k E => distV E) (fun k E => [(0, .sl none (lFld l)), (6, .mapr 0), (7, .mapr 1), (21, .sl none (lStage p)), (22, .int .i64 p.length), (23, .int .i64 k)]) (fun k E => [some (mapc (entA E)), some (mapc (entN E))]) [] hp trivial rfl rfl ?_ ?_
 ·intro k E x xs hd hx hI hF h0 h1 hw
  have hxm := List.mem_of_getElem? hx
  have hbA : ∀ E, bndL 2 (mapc (entA E)) = true := fun E => bnd_ent fun e => Variable.c_bnd 2 e.v
  have hbN : ∀ E, bndL 2 (mapc (entN E)) = true := fun E => bnd_ent fun e => rfl
  by_cases k0 : x.step.kind = 0
  ·have c0 : (x.step.kind == 0) = true := by simp [k0]
   simp only [go_sem, h0, h1, hw, lStage_get hx, c0, hbA, hbN]
   exact ⟨E, by rw [vGo, vStep, if_pos k0], hI, rfl, rfl⟩
  ·have c0 : (x.step.kind == 0) = false := by simp [k0]
   obtain ⟨⟨k1, k6⟩, kl⟩ := hk x hxm k0
   simp only [go_sem, h0, h1, hw, lStage_get hx, c0]
   repeat' (first
    | (refine pK (p_family _ k1 k6) ?_; simp only [go_sem])
    | ((first | refine cS ?_ ?_ | refine gS ?_ ?_) <;> (intro hc; simp only [go_sem, hc])))
   refine awp_lst x.step.key (fun ws r => ws ++ widS l r) (fun k ws => ws.length = k)
    (fun j ws => [(0, .sl none (lFld l)), (6, .mapr 0), (7, .mapr 1), (10, .ptr 3 0), (11, .ptr 4 0), (21, .sl none (lStage p)), (22, .int .i64 p.length), (23, .int .i64 k), (39, .sl none (lStr x.step.key)), (40, .int .i64 x.step.key.length), (41, .int .i64 j)])
    (fun j ws => [some (mapc (entA E)), some (mapc (entN E)), some x.c, some x.step.c, some (({ name := x.step.var, family := famS x.step.kind, widths := ws, n := 0, m := 0 } : Variable).cf (some 1))]) [] (by omega) rfl rfl rfl ?_ ?_
   ·intro j ws y ys hd2 hy hJ hG g0 g1 gw
    have hjl := drop_len hd2
    have hbA5 : bndL 5 (mapc (entA E)) = true := bnd_ent fun e => Variable.c_bnd 5 e.v
    have hbN5 : bndL 5 (mapc (entN E)) = true := bnd_ent fun e => rfl
    simp only [go_sem, g0, g1, gw, lStr_get hy]
    repeat' (first
     | (refine pK (p_Find l hl y) ?_; simp only [go_sem, g0, g1, gw, lStr_get hy, hbA5, hbN5])
     | ((first | refine cS ?_ ?_ | refine gS ?_ ?_) <;> (intro hc; simp only [go_sem, hc, g0, g1, gw, lStr_get hy, hbA5, hbN5])))
    exact ⟨by omega, by omega, ws ++ [(findF l y).1.width], by simp [widS], by simp [hJ], rfl, rfl⟩
   ·intro ws hJ hG
    have hG : widS l x.step.key = ws := by simpa [widS] using hG
    simp only [go_sem, Int.lt_irrefl, decide_false]
    have hno : vFind E x.step.var = none -> vGo l [] p = vGo l (vUpd E ⟨vNew l x.step, numS x.step⟩) xs := fun hf => by
     rw [hF, vGo, vStep, if_neg k0, hf]
    have hye : ∀ e, vFind E x.step.var = some e -> vGo l [] p = if vBad l e x.step = true then none else vGo l (if numS x.step = true then vUpd E ⟨vNew l x.step, true⟩ else E) xs := fun e hf => by
     rw [hF, vGo, vStep, if_neg k0, hf]
     dsimp only
     by_cases hb : vBad l e x.step = true
     ·rw [if_pos hb, if_pos hb]
     ·rw [if_neg hb, if_neg hb]
      by_cases hn : numS x.step = true
      ·rw [if_pos hn, if_pos hn]
      ·rw [if_neg hn, if_neg hn]
    have hkn : ((x.step.kind == 4) = true /\ numS x.step = true) \/ ((x.step.kind == 4) = false /\ (x.step.kind == 6) = true /\ numS x.step = true) \/ ((x.step.kind == 4) = false /\ (x.step.kind == 6) = false /\ numS x.step = false) := by
     unfold numS
     cases (x.step.kind == 4) <;> cases (x.step.kind == 6) <;> simp
    rcases hkn with ⟨c4, hn⟩ | ⟨c4, c6, hn⟩ | ⟨c4, c6, hn⟩
    ·simp only [c4, go_sem]
     refine lkpK_ent (kt := 9) (et := 134) (z := .agg (Variable.z.cf (some 1))) (fun e => .agg e.v.c) E x.step.var true ?_ ?_ ?_ rfl hI ?_
     ·first | simp only [go_sem] | kernel_rfl
     ·first | simp only [go_sem] | kernel_rfl
     ·first | simp only [go_sem] | kernel_rfl
     cases hf : vFind E x.step.var with
     | none =>
      simp only [Option.map_none, Option.map_some, lkres, go_sem, c4]
      rw [awp_regionD _ _ _ (by simp only [go_sem])]
      simp only [go_sem]
      refine ⟨dynB_ok (by first | rfl | kernel_rfl), ?_⟩
      simp only [go_sem]
      refine updK_ent (kt := 9) (et := 134) (fun e => .agg e.v.c) E ⟨vNew l x.step, numS x.step⟩ rfl ?_ ?_ ?_ rfl hI rfl ?_
      ·simp [vNew, hn, hG]; try rfl
      ·first | simp only [go_sem] | kernel_rfl
      ·first | simp only [go_sem] | kernel_rfl
      simp only [go_sem]
      refine lkpK_ent (kt := 9) (et := 4) (z := .bool false) (fun e => .bool e.b) E x.step.var false ?_ ?_ ?_ rfl hI ?_
      ·first | simp only [go_sem] | kernel_rfl
      ·first | simp only [go_sem] | kernel_rfl
      ·first | simp only [go_sem] | kernel_rfl
      simp only [hf, Option.map_none, lkres, go_sem, c4]
      refine updK_ent (kt := 9) (et := 4) (fun e => .bool e.b) E ⟨vNew l x.step, numS x.step⟩ rfl ?_ ?_ ?_ rfl hI rfl ?_
      ·simp [hn]
      ·first | simp only [go_sem] | kernel_rfl
      ·first | simp only [go_sem] | kernel_rfl
      simp only [go_sem, hw, hbA, hbN]
      exact ⟨_, by rw [<- hF, hno hf], distV_upd _ hI, rfl, rfl⟩
     | some e =>
      simp only [Option.map_none, Option.map_some, lkres, go_sem, c4]
      rw [awp_regionD _ _ _ (by simp only [go_sem])]
      simp only [go_sem]
      refine ⟨dynB_ok (by first | rfl | kernel_rfl), ?_⟩
      simp only [go_sem]
      repeat' (first
       | (refine pK (p_EqualI' _ _) ?_; simp only [go_sem])
       | ((first | refine cS ?_ ?_ | refine gS ?_ ?_) <;> (intro hc; simp only [go_sem, hc])))
      all_goals first
       | exact .inl (by rw [hye e hf, if_pos (by unfold vBad; rw [hn, hG]; simp_all)])
       | skip
      all_goals
       refine lkpK_ent (kt := 9) (et := 4) (z := .bool false) (fun e => .bool e.b) E x.step.var false ?_ ?_ ?_ rfl hI ?_
       ·first | simp only [go_sem] | kernel_rfl
       ·first | simp only [go_sem] | kernel_rfl
       ·first | simp only [go_sem] | kernel_rfl
       simp only [hf, Option.map_some, lkres, go_sem, c4]
      repeat' (first
       | ((first | refine cS ?_ ?_ | refine gS ?_ ?_) <;> (intro hc; simp only [go_sem, hc])))
      all_goals first
       | exact .inl (by rw [hye e hf, if_pos (by unfold vBad; rw [hn, hG]; simp_all)])
       | skip
      all_goals
       refine updK_ent (kt := 9) (et := 134) (fun e => .agg e.v.c) E ⟨vNew l x.step, true⟩ rfl ?_ ?_ ?_ rfl hI rfl ?_
       ·simp [vNew, hn, hG]; try rfl
       ·first | simp only [go_sem] | kernel_rfl
       ·first | simp only [go_sem] | kernel_rfl
       simp only [go_sem]
       refine lkpK_ent (kt := 9) (et := 4) (z := .bool false) (fun e => .bool e.b) E x.step.var false ?_ ?_ ?_ rfl hI ?_
       ·first | simp only [go_sem] | kernel_rfl
       ·first | simp only [go_sem] | kernel_rfl
       ·first | simp only [go_sem] | kernel_rfl
       simp only [hf, Option.map_some, lkres, go_sem]
       refine gsel_any (fun hb => ?_) (fun hb => ?_)
       all_goals
        simp only [go_sem]
        refine updK_ent (kt := 9) (et := 4) (fun e => .bool e.b) E ⟨vNew l x.step, true⟩ rfl (by rw [hb]; rfl) ?_ ?_ rfl hI rfl ?_
        ·first | simp only [go_sem] | kernel_rfl
        ·first | simp only [go_sem] | kernel_rfl
        simp only [go_sem, hw, hbA, hbN]
        exact ⟨_, by rw [<- hF, hye e hf, if_neg (by unfold vBad; rw [hn, hG]; simp_all), if_pos hn], distV_upd _ hI, rfl, rfl⟩
    ·simp only [c4, c6, go_sem]
     refine lkpK_ent (kt := 9) (et := 134) (z := .agg (Variable.z.cf (some 1))) (fun e => .agg e.v.c) E x.step.var true ?_ ?_ ?_ rfl hI ?_
     ·first | simp only [go_sem] | kernel_rfl
     ·first | simp only [go_sem] | kernel_rfl
     ·first | simp only [go_sem] | kernel_rfl
     cases hf : vFind E x.step.var with
     | none =>
      simp only [Option.map_none, Option.map_some, lkres, go_sem, c4, c6]
      rw [awp_regionD _ _ _ (by simp only [go_sem])]
      simp only [go_sem]
      refine ⟨dynB_ok (by first | rfl | kernel_rfl), ?_⟩
      simp only [go_sem]
      refine updK_ent (kt := 9) (et := 134) (fun e => .agg e.v.c) E ⟨vNew l x.step, numS x.step⟩ rfl ?_ ?_ ?_ rfl hI rfl ?_
      ·simp [vNew, hn, hG]; try rfl
      ·first | simp only [go_sem] | kernel_rfl
      ·first | simp only [go_sem] | kernel_rfl
      simp only [go_sem]
      refine lkpK_ent (kt := 9) (et := 4) (z := .bool false) (fun e => .bool e.b) E x.step.var false ?_ ?_ ?_ rfl hI ?_
      ·first | simp only [go_sem] | kernel_rfl
      ·first | simp only [go_sem] | kernel_rfl
      ·first | simp only [go_sem] | kernel_rfl
      simp only [hf, Option.map_none, lkres, go_sem, c4, c6]
      refine updK_ent (kt := 9) (et := 4) (fun e => .bool e.b) E ⟨vNew l x.step, numS x.step⟩ rfl ?_ ?_ ?_ rfl hI rfl ?_
      ·simp [hn]
      ·first | simp only [go_sem] | kernel_rfl
      ·first | simp only [go_sem] | kernel_rfl
      simp only [go_sem, hw, hbA, hbN]
      exact ⟨_, by rw [<- hF, hno hf], distV_upd _ hI, rfl, rfl⟩
     | some e =>
      simp only [Option.map_none, Option.map_some, lkres, go_sem, c4, c6]
      rw [awp_regionD _ _ _ (by simp only [go_sem])]
      simp only [go_sem]
      refine ⟨dynB_ok (by first | rfl | kernel_rfl), ?_⟩
      simp only [go_sem]
      repeat' (first
       | (refine pK (p_EqualI' _ _) ?_; simp only [go_sem])
       | ((first | refine cS ?_ ?_ | refine gS ?_ ?_) <;> (intro hc; simp only [go_sem, hc])))
      all_goals first
       | exact .inl (by rw [hye e hf, if_pos (by unfold vBad; rw [hn, hG]; simp_all)])
       | skip
      all_goals
       refine lkpK_ent (kt := 9) (et := 4) (z := .bool false) (fun e => .bool e.b) E x.step.var false ?_ ?_ ?_ rfl hI ?_
       ·first | simp only [go_sem] | kernel_rfl
       ·first | simp only [go_sem] | kernel_rfl
       ·first | simp only [go_sem] | kernel_rfl
       simp only [hf, Option.map_some, lkres, go_sem, c4, c6]
      repeat' (first
       | ((first | refine cS ?_ ?_ | refine gS ?_ ?_) <;> (intro hc; simp only [go_sem, hc])))
      all_goals first
       | exact .inl (by rw [hye e hf, if_pos (by unfold vBad; rw [hn, hG]; simp_all)])
       | skip
      all_goals
       refine updK_ent (kt := 9) (et := 134) (fun e => .agg e.v.c) E ⟨vNew l x.step, true⟩ rfl ?_ ?_ ?_ rfl hI rfl ?_
       ·simp [vNew, hn, hG]; try rfl
       ·first | simp only [go_sem] | kernel_rfl
       ·first | simp only [go_sem] | kernel_rfl
       simp only [go_sem]
       refine lkpK_ent (kt := 9) (et := 4) (z := .bool false) (fun e => .bool e.b) E x.step.var false ?_ ?_ ?_ rfl hI ?_
       ·first | simp only [go_sem] | kernel_rfl
       ·first | simp only [go_sem] | kernel_rfl
       ·first | simp only [go_sem] | kernel_rfl
       simp only [hf, Option.map_some, lkres, go_sem]
       refine gsel_any (fun hb => ?_) (fun hb => ?_)
       all_goals
        simp only [go_sem]
        refine updK_ent (kt := 9) (et := 4) (fun e => .bool e.b) E ⟨vNew l x.step, true⟩ rfl (by rw [hb]; rfl) ?_ ?_ rfl hI rfl ?_
        ·first | simp only [go_sem] | kernel_rfl
        ·first | simp only [go_sem] | kernel_rfl
        simp only [go_sem, hw, hbA, hbN]
        exact ⟨_, by rw [<- hF, hye e hf, if_neg (by unfold vBad; rw [hn, hG]; simp_all), if_pos hn], distV_upd _ hI, rfl, rfl⟩
    ·simp only [c4, c6, go_sem]
     refine lkpK_ent (kt := 9) (et := 134) (z := .agg (Variable.z.cf (some 1))) (fun e => .agg e.v.c) E x.step.var true ?_ ?_ ?_ rfl hI ?_
     ·first | simp only [go_sem] | kernel_rfl
     ·first | simp only [go_sem] | kernel_rfl
     ·first | simp only [go_sem] | kernel_rfl
     cases hf : vFind E x.step.var with
     | none =>
      simp only [Option.map_none, Option.map_some, lkres, go_sem, c4, c6]
      refine updK_ent (kt := 9) (et := 134) (fun e => .agg e.v.c) E ⟨vNew l x.step, numS x.step⟩ rfl ?_ ?_ ?_ rfl hI rfl ?_
      ·simp [vNew, hn, hG]; try rfl
      ·first | simp only [go_sem] | kernel_rfl
      ·first | simp only [go_sem] | kernel_rfl
      simp only [go_sem]
      refine lkpK_ent (kt := 9) (et := 4) (z := .bool false) (fun e => .bool e.b) E x.step.var false ?_ ?_ ?_ rfl hI ?_
      ·first | simp only [go_sem] | kernel_rfl
      ·first | simp only [go_sem] | kernel_rfl
      ·first | simp only [go_sem] | kernel_rfl
      simp only [hf, Option.map_none, lkres, go_sem, c4, c6]
      refine updK_ent (kt := 9) (et := 4) (fun e => .bool e.b) E ⟨vNew l x.step, numS x.step⟩ rfl ?_ ?_ ?_ rfl hI rfl ?_
      ·simp [hn]
      ·first | simp only [go_sem] | kernel_rfl
      ·first | simp only [go_sem] | kernel_rfl
      simp only [go_sem, hw, hbA, hbN]
      exact ⟨_, by rw [<- hF, hno hf], distV_upd _ hI, rfl, rfl⟩
     | some e =>
      simp only [Option.map_none, Option.map_some, lkres, go_sem, c4, c6]
      repeat' (first
       | (refine pK (p_EqualI' _ _) ?_; simp only [go_sem])
       | ((first | refine cS ?_ ?_ | refine gS ?_ ?_) <;> (intro hc; simp only [go_sem, hc])))
      all_goals first
       | exact .inl (by rw [hye e hf, if_pos (by unfold vBad; rw [hn, hG]; simp_all)])
       | skip
      refine lkpK_ent (kt := 9) (et := 4) (z := .bool false) (fun e => .bool e.b) E x.step.var false ?_ ?_ ?_ rfl hI ?_
      ·first | simp only [go_sem] | kernel_rfl
      ·first | simp only [go_sem] | kernel_rfl
      ·first | simp only [go_sem] | kernel_rfl
      simp only [hf, Option.map_some, lkres, go_sem]
      refine gsel_any (fun hb => ?_) (fun hb => ?_)
      all_goals
       simp only [go_sem]
       refine updK_ent (kt := 9) (et := 4) (fun e => .bool e.b) E e (vFind_name hf).symm (by rw [hb]; rfl) ?_ ?_ rfl hI rfl ?_
       ·first | simp only [go_sem] | kernel_rfl
       ·first | simp only [go_sem] | kernel_rfl
       rw [vUpd_self hf]
       simp only [go_sem, hw, hbA, hbN]
       exact ⟨_, by rw [<- hF, hye e hf, if_neg (by unfold vBad; rw [hn, hG]; simp_all), if_neg (by simp [hn])], hI, rfl, rfl⟩
 ·intro E hI hF
  have hF : vGo l [] p = some E := hF
  simp only [go_sem, Int.lt_irrefl, decide_false]
  exact .inr ⟨E, [], hF, hI, rfl⟩
end Go.AI
namespace Go.AI
theorem polGo_all (l : List Fld) : ∀ r : List Policy, polGo l r = 0 ↔ ∀ x ∈ r, polE l x = 0
 | [] => by simp [polGo]
 | x :: r => by
  rw [polGo]
  by_cases h : polE l x = 0
  ·rw [if_pos h, polGo_all l r]; simp [h]
  ·rw [if_neg h]; simp [h]
def goodO (l : List Fld) (x : Policy) : Prop := fmO x = true /\ ∀ y ∈ ptsO x, polE l y = 0
theorem ckTO_good {l : List Fld} {x : Policy} (h : ckTO l x = 0) : ckO x = 0 /\ goodO l x := by
 unfold ckTO at h
 split at h
 ·rename_i h0
  refine ⟨h0, ?_, (polGo_all l _).1 h⟩
  unfold ckO fmE at h0
  split at h0
  ·split at h0
   ·assumption
   ·cases h0
  ·rename_i hl; exact absurd h0 hl
 ·rename_i hn; exact absurd h hn
theorem stGo_all (l : List Fld) : ∀ r : List Stage, stGo l r = 0 ↔ ∀ x ∈ r, ckTO l x.policy = 0 /\ ckTS l x.step = 0
 | [] => by simp [stGo]
 | x :: r => by
  rw [stGo]
  by_cases h : ckTO l x.policy = 0
  ·rw [if_pos h]
   by_cases h2 : ckTS l x.step = 0
   ·rw [if_pos h2, stGo_all l r]; simp [h, h2]
   ·rw [if_neg h2]; simp [h2]
  ·rw [if_neg h]; simp [h]
theorem ckGo_all : ∀ r : List Stage, ckGo r = 0 ↔ ∀ x ∈ r, ckO x.policy = 0 /\ ckS x.step = 0
 | [] => by simp [ckGo]
 | x :: r => by
  rw [ckGo]
  by_cases h : ckO x.policy = 0
  ·rw [if_pos h]
   by_cases h2 : ckS x.step = 0
   ·rw [if_pos h2, ckGo_all r]; simp [h, h2]
   ·rw [if_neg h2]; simp [h2]
  ·rw [if_neg h]; simp [h]
theorem ckT_0 {l : List Fld} {p : List Stage} (h : ckT l p = 0) : p.length <= 8 /\ (∀ x ∈ p, ckO x.policy = 0 /\ ckS x.step = 0) /\ (∀ x ∈ p, ckTO l x.policy = 0 /\ ckTS l x.step = 0) /\ (vGo l [] p).isSome = true := by
 unfold ckT at h
 split at h
 ·rename_i hn; exact absurd h hn
 ·rename_i h1
  split at h
  ·rename_i hn; exact absurd h hn
  ·rename_i h2
   split at h
   ·rename_i h3
    have h1 : ckG p = 0 := by simpa using h1
    have h2 : stGo l p = 0 := by simpa using h2
    unfold ckG at h1
    split at h1
    ·cases h1
    ·rename_i hl
     exact ⟨by omega, (ckGo_all p).1 h1, (stGo_all l p).1 h2, by rw [vGo_typ]; exact h3⟩
   ·cases h
end Go.AI
namespace Go.AI
open Go.Proofs
set_option maxRecDepth 50000
theorem putGo_mem (n m : Int) : ∀ (l : List Int) (d : Bool), m ∈ putGo n d l ↔ (if d then m ≠ n /\ m ∈ l else m = n \/ m ∈ l)
 | [], d => by cases d <;> simp [putGo]
 | x :: r, d => by
  rw [putGo, List.mem_append, List.mem_append, putGo_mem n m r]
  cases d with
  | true =>
   simp only [Bool.true_or, if_true, List.mem_cons]
   by_cases hx : x = n
   ·subst hx; simp
    try exact fun h h2 => absurd h2 h
   ·simp [hx]
    constructor
    ·rintro (rfl | h)
     ·exact ⟨hx, .inl rfl⟩
     ·exact ⟨h.1, .inr h.2⟩
    ·rintro ⟨h1, rfl | h2⟩
     ·exact .inl rfl
     ·exact .inr ⟨h1, h2⟩
  | false =>
   simp only [Bool.false_or, Bool.false_eq_true, if_false, and_true, List.mem_cons]
   by_cases hn : n <= x
   ·simp only [hn, if_true, decide_true, List.mem_singleton]
    by_cases hx : x = n
    ·subst hx
     simp only [ne_eq, not_true_eq_false, if_false, List.not_mem_nil, false_or]
     constructor
     ·rintro (h | ⟨_, h⟩)
      ·exact .inl h
      ·exact .inr (.inr h)
     ·rintro (h | h | h)
      ·exact .inl h
      ·exact .inl h
      ·by_cases hm : m = x
       ·exact .inl hm
       ·exact .inr ⟨hm, h⟩
    ·simp only [ne_eq, hx, not_false_eq_true, if_true, List.mem_singleton]
     constructor
     ·rintro (h | h | ⟨_, h⟩)
      ·exact .inl h
      ·exact .inr (.inl h)
      ·exact .inr (.inr h)
     ·rintro (h | h | h)
      ·exact .inl h
      ·exact .inr (.inl h)
      ·by_cases hm : m = n
       ·exact .inl hm
       ·exact .inr (.inr ⟨hm, h⟩)
   ·have hx : x ≠ n := fun h => hn (by omega)
    simp only [hn, if_false, decide_false, List.not_mem_nil, false_or, ne_eq, hx, not_false_eq_true, if_true, List.mem_singleton, Bool.false_eq_true]
    constructor
    ·rintro (h | h | h)
     ·exact .inr (.inl h)
     ·exact .inl h
     ·exact .inr (.inr h)
    ·rintro (h | h | h)
     ·exact .inr (.inl h)
     ·exact .inl h
     ·exact .inr (.inr h)
theorem putI_mem (l : List Int) (n m : Int) : m ∈ putI l n ↔ m = n \/ m ∈ l := by
 have := putGo_mem n m l false
 simpa [putI] using this
theorem portGo_mem : ∀ (r : List Policy) (o : List Int) (m : Int), m ∈ portGo o r ↔ m ∈ o \/ ∃ y ∈ r, isPt y = true /\ y.n = m
 | [], o, m => by simp [portGo]
 | y :: r, o, m => by
  rw [portGo, portGo_mem r]
  by_cases h : y.kind = 2 /\ y.field = portS
  ·rw [if_pos h, putI_mem]
   have hp : isPt y = true := by simp [isPt, h.1, h.2]
   constructor
   ·rintro ((rfl | h1) | ⟨w, hw, h2⟩)
    ·exact .inr ⟨y, by simp, hp, rfl⟩
    ·exact .inl h1
    ·exact .inr ⟨w, by simp [hw], h2⟩
   ·rintro (h1 | ⟨w, hw, h2, h3⟩)
    ·exact .inl (.inr h1)
    ·rcases List.mem_cons.1 hw with rfl | hw
     ·exact .inl (.inl h3.symm)
     ·exact .inr ⟨w, hw, h2, h3⟩
  ·rw [if_neg h]
   have hp : ¬ isPt y = true := by
    intro hp
    simp only [isPt, Bool.and_eq_true, beq_iff_eq, decide_eq_true_eq] at hp
    exact h hp
   constructor
   ·rintro (h1 | ⟨w, hw, h2⟩)
    ·exact .inl h1
    ·exact .inr ⟨w, by simp [hw], h2⟩
   ·rintro (h1 | ⟨w, hw, h2, h3⟩)
    ·exact .inl h1
    ·rcases List.mem_cons.1 hw with rfl | hw
     ·exact absurd h2 hp
     ·exact .inr ⟨w, hw, h2, h3⟩
theorem ports_ok {x : Policy} (t : Tenant) (hfm : fmO x = true) : (isortI (ksGo [] (ptsO x))).any (fun n => decide ((t.ports.length : Int) <= n)) = !(portsO x).all (isPortB t) := by
 have hm : ∀ m, m ∈ isortI (ksGo [] (ptsO x)) ↔ m ∈ portsO x := fun m => by
  rw [(isortI_perm _).mem_iff, ksGo_mem]
  unfold portsO
  rw [portGo_mem]
 have hz : ∀ m ∈ portsO x, 0 <= m := fun m hmem => by
  unfold portsO at hmem
  rw [portGo_mem] at hmem
  rcases hmem with h | ⟨y, hy, hp, rfl⟩
  ·cases h
  ·simp only [isPt, Bool.and_eq_true, beq_iff_eq] at hp
   exact (fm_n (fmO_pts x hfm y hy) hp.1).1
 rw [Bool.eq_iff_iff, List.any_eq_true]
 rw [Bool.not_eq_true', List.all_eq_false]
 constructor
 ·rintro ⟨m, h1, h2⟩
  have h1 := (hm m).1 h1
  refine ⟨m, h1, ?_⟩
  have := hz m h1
  simp only [decide_eq_true_eq] at h2
  unfold isPortB
  simp
  omega
 ·rintro ⟨m, h1, h2⟩
  refine ⟨m, (hm m).2 h1, ?_⟩
  have := hz m h1
  unfold isPortB at h2
  simp at h2
  simp
  exact h2 this
theorem ckS_kind {s : Stp} (h : ckS s = 0) (hk : s.kind ≠ 0) : (1 <= s.kind /\ s.kind <= 6) /\ s.key.length <= 4 := by
 have hf : fmS s = true := by
  unfold ckS at h
  split at h
  ·assumption
  ·cases h
 unfold fmS at hf
 split at hf
 ·rename_i he
  unfold eqS at he
  simp only [Bool.and_eq_true, beq_iff_eq] at he
  exact absurd he.1.1 hk
 ·split at hf
  ·cases hf
  ·rename_i hn
   have hlen : s.key.length <= 4 := by omega
   refine ⟨?_, hlen⟩
   by_cases h1 : s.kind = 1
   ·omega
   by_cases h2 : s.kind = 2
   ·omega
   by_cases h3 : s.kind = 3
   ·omega
   by_cases h4 : s.kind = 4
   ·omega
   by_cases h5 : s.kind = 5
   ·omega
   by_cases h6 : s.kind = 6
   ·omega
   rw [if_neg h1, if_neg h2, if_neg h3, if_neg h4, if_neg h5, if_neg h6] at hf
   cases hf
theorem ckG_0 {p : List Stage} (h : ckG p = 0) : p.length <= 8 /\ ∀ x ∈ p, ckO x.policy = 0 /\ ckS x.step = 0 := by
 unfold ckG at h
 split at h
 ·cases h
 ·exact ⟨by omega, (ckGo_all p).1 h⟩
theorem p_tProgram (l : List Fld) (hl : l.length <= 9223372036854775807) (hok : ∀ f ∈ l, 0 <= f.width /\ f.width <= 16) (p : List Stage) (hb : bulkL (lStage p) <= 1073741824) :
  PCall Tryz.prog 37 [.sl none (lFld l), .sl none (lStage p)] (.int .i64 (ckT l p)) := by
 have hpl : p.length <= 1073741824 := lStage_bn hb
 have hbx : ∀ x ∈ p, bulkL x.c <= 1073741824 := fun x hx => by have := lStage_bk hb hx; simpa only [AV.bulk] using this
 refine pC h37_k rfl ?_
 simp only [Tryz.f37, go_sem]
 repeat' (first
  | (refine pK (p_CheckProgram p hb) ?_; simp only [go_sem])
  | ((first | refine cS ?_ ?_ | refine gS ?_ ?_) <;> (intro hc; simp only [go_sem, hc])))
 ·rw [ckT, if_pos (by simpa using hc)]
 ·have g0 : ckG p = 0 := by simpa using hc
  have hT : ckT l p = if stGo l p ≠ 0 then stGo l p else if typGo l p 0 p then 0 else 11 := by rw [ckT, if_neg (by simp [g0])]
  refine awp_lst p (fun (_ : Unit) r => stGo l r) (fun k _ => True) (fun k _ => [(0, .sl none (lFld l)), (1, .sl none (lStage p)), (17, .sl none (lStage p)), (18, .int .i64 p.length), (19, .int .i64 k)]) (fun k _ => []) () (by omega) trivial rfl rfl ?_ ?_
  ·intro k _ x xs hd hx hI hF h0 h1 hw
   have hxm := List.mem_of_getElem? hx
   have hbp := Stage.bs_policy (hbx x hxm)
   have hbs := Stage.bs_step (hbx x hxm)
   simp only [go_sem, h0, h1, hw, lStage_get hx]
   repeat' (first
    | ((first | refine pK (p_tPolicy l hl hok x.policy hbp) ?_ | refine pK (p_tStep l hl hok x.step hbs) ?_); simp only [go_sem, h0, h1, hw, lStage_get hx])
    | ((first | refine cS ?_ ?_ | refine gS ?_ ?_) <;> (intro hc; simp only [go_sem, hc, h0, h1, hw, lStage_get hx])))
   ·have n : ckTO l x.policy ≠ 0 := by simpa using hc
    rw [hT, hF, stGo, if_neg n, if_pos n]
   ·have n1 : ckTO l x.policy = 0 := by
     have h9 : (ckTO l x.policy != 0) = false := by assumption
     simpa using h9
    have n : ckTS l x.step ≠ 0 := by simpa using hc
    rw [hT, hF, stGo, if_pos n1, if_neg n, if_pos n]
   ·have n1 : ckTO l x.policy = 0 := by
     have h9 : (ckTO l x.policy != 0) = false := by assumption
     simpa using h9
    have n : ckTS l x.step = 0 := by simpa using hc
    exact ⟨(), by rw [stGo, if_pos n1, if_pos n]⟩
  ·intro _ _ hF
   have hF0 : stGo l p = 0 := hF
   simp only [go_sem, Int.lt_irrefl, decide_false]
   refine ACallK.intro (p_variables l hl p (by omega) fun x hx hk => ?_) fun v H' hr => ?_
   ·have := ckS_kind ((ckG_0 g0).2 x hx).2 hk
    exact ⟨this.1, by omega⟩
   rcases hr with ⟨hn, rfl⟩ | ⟨E, g, hE, _, rfl, rfl⟩
   ·have ht : typGo l p 0 p = false := by rw [<- vGo_typ, hn]; rfl
    simp only [go_sem]
    rw [hT, hF0, ht]; rfl
   ·have ht : typGo l p 0 p = true := by rw [<- vGo_typ, hE]; rfl
    simp only [go_sem]
    rw [hT, hF0, ht]; rfl
theorem p_kp1 {H : Heap} (t : Tenant) (n : Int) (o : Nat) (ho : H[o]? = some (some t.c)) : SCall Tryz.prog 133 [.int .i64 n, .ptr o 0] H (.bool (decide ((t.ports.length : Int) <= n))) := by
 refine ACall.drop rfl ?_
 refine aC h133_k rfl ?_
 have ho' : ∀ z, (H ++ z)[o]? = some (some t.c) := fun z => by
  have := (List.getElem?_eq_some_iff.1 ho).1
  rw [List.getElem?_append_left this]; exact ho
 simp only [Tryz.f133, go_sem, ho, ho']
theorem p_checkProgram (s : Setup) (t : Tenant) (hl : s.fields.length <= 9223372036854775807) (hok : ∀ f ∈ s.fields, 0 <= f.width /\ f.width <= 16) (hb : bulkL t.c <= 1073741824) :
  PCall Tryz.prog 57 [.agg s.c, .agg t.c] (.int .i64 (ckPr s t)) := by
 have hbp := Tenant.bl_program hb
 have hpl : t.program.length <= 1073741824 := lStage_bn hbp
 have hbx : ∀ x ∈ t.program, bulkL x.c <= 1073741824 := fun x hx => by have := lStage_bk hbp hx; simpa only [AV.bulk] using this
 refine pC h57_k rfl ?_
 simp only [Tryz.f57, go_sem, toList_beq]
 repeat' (first
  | (refine pK (p_tProgram s.fields hl hok t.program hbp) ?_; simp only [go_sem])
  | ((first | refine cS ?_ ?_ | refine gS ?_ ?_) <;> (intro hc; simp only [go_sem, hc])))
 ·rw [ckPr, if_pos (by simpa using hc)]
 ·have h0 : ckT s.fields t.program = 0 := by simpa using hc
  have hT : ckPr s t = ckPrGo t t.program := by rw [ckPr, if_neg (by simp [h0])]
  refine awp_lst t.program (fun (_ : Unit) r => ckPrGo t r) (fun k _ => True) (fun k _ => [(3, .ptr 1 0), (17, .sl none (lStage t.program)), (18, .int .i64 t.program.length), (19, .int .i64 k)]) (fun k _ => [some s.c, some t.c]) () (by omega) trivial rfl rfl ?_ ?_
  ·intro k _ x xs hd hx hI hF h0 h1 hw
   have hxm := List.mem_of_getElem? hx
   have hbo := Stage.bs_policy (hbx x hxm)
   have hbs := Stage.bs_step (hbx x hxm)
   have hkl := lStr_bn (Stp.bl_key hbs)
   have hfm : fmO x.policy = true := (ckTO_good ((ckT_0 (by assumption)).2.2.1 x hxm).1).2.1
   have hlen : (isortI (ksGo [] (ptsO x.policy))).length <= 9223372036854775807 := by
    rw [(isortI_perm _).length_eq]
    have := ksGo_len (ptsO x.policy) []
    have := ptsO_len x.policy
    simp at *; omega
   have hcw := p_ContainsI64 (H := [some s.c, some t.c, some x.c]) (isortI (ksGo [] (ptsO x.policy))) hlen 133 [] [.ptr 1 0] (fun n => decide ((t.ports.length : Int) <= n)) (fun n _ => p_kp1 t n 1 rfl)
   rw [ports_ok t hfm] at hcw
   simp only [go_sem, h0, h1, hw, lStage_get hx]
   repeat' (first
    | ((first | refine pK (p_Ports x.policy hbo hfm) ?_ | refine aS (hcw) ?_ | refine pK (p_ContS x.step.key (by omega) portS) ?_); simp only [go_sem, h0, h1, hw, lStage_get hx, toList_beq])
    | ((first | refine cS ?_ ?_ | refine gS ?_ ?_) <;> (intro hc; simp only [go_sem, hc, h0, h1, hw, lStage_get hx, toList_beq])))
   all_goals first
    | (rw [hT, hF, ckPrGo, if_pos (by simpa using hc)]; done)
    | skip
   all_goals have n1 : ¬ (portsO x.policy).all (isPortB t) = false := by simp_all
   all_goals first
    | (rw [hT, hF, ckPrGo, if_neg n1, if_pos (by unfold hasS; simp_all [portS])]; done)
    | exact ⟨(), by rw [ckPrGo, if_neg n1, if_neg (by unfold hasS; simp_all [portS])]⟩
    | skip
  ·intro _ _ hF
   simp only [go_sem, Int.lt_irrefl, decide_false]
   have hF : ckPrGo t t.program = 0 := hF
   rw [hT, hF]
end Go.AI
namespace Go.AI
open Go.Proofs
set_option maxRecDepth 50000
abbrev dKey (x : Demand) : AV := .agg [.int .i64 x.src, .int .i64 x.dst]
theorem p_cd1 (x : Demand) : PCall Tryz.prog 64 [.agg x.c] (dKey x) := by
 refine pB h64_k rfl ?_
 simp only [Tryz.f64, go_sem]
theorem wf_small {n : Int} (h0 : 0 <= n) (h1 : n <= 1073741824) : (Lit.int .i64 n).wf = true := by
 have h2 : IntKind.i64.min = -9223372036854775808 := by decide
 have h3 : IntKind.i64.max = 9223372036854775807 := by decide
 simp only [Lit.wf, h2, h3, Bool.and_eq_true, decide_eq_true_eq]
 omega
theorem laid_here : laidOutB Tryz.prog = true := by kernel_rfl
theorem key_two {P : Program} {kt it : TypeId} (hu : P.underlying kt = some (.array 2 it)) (hi : P.underlying it = some (.int .i64)) (hc : P.cellsOf kt = 2) (hci : P.cellsOf it = 1) (hk : P.keyType kt = true) (hs : 0 < P.types.size) {a b : Int} (ha : (Lit.int .i64 a).wf = true) (hb : (Lit.int .i64 b).wf = true) :
  ∃ l, keyOf P kt (.agg #[.int .i64 a, .int .i64 b]) = some l := by
 obtain ⟨m, hm⟩ : ∃ m, P.types.size = m + 1 := ⟨P.types.size - 1, by omega⟩
 have h1 : ∀ n : Int, (Lit.int .i64 n).wf = true -> ∀ d, P.keyLits (d + 1) it [.int .i64 n] = some [.int .i64 n] := fun n hn d => by
  unfold Program.keyLits
  rw [hi]
  simp [hn]
 have h2 : P.keyLits (P.types.size + 1) kt [.int .i64 a, .int .i64 b] = some [.int .i64 a, .int .i64 b] := by
  rw [hm]
  unfold Program.keyLits
  rw [hu]
  simp only [hc, hci, List.length_cons, List.length_nil]
  simp [List.range, List.range.loop, h1 a ha, h1 b hb]
 unfold keyOf
 rw [hu]
 simp only [hk, Value.formed, hu, hc]
 refine ⟨.string (keyBytes [.int .i64 a, .int .i64 b]), ?_⟩
 simp only [Value.cells, h2]
 rfl
theorem keysIn_dem {ks : List Demand} (hk : ∀ x ∈ ks, (0 <= x.src /\ x.src <= 1073741824) /\ (0 <= x.dst /\ x.dst <= 1073741824)) : keysIn Tryz.prog 111 (ks.map dKey) := by
 refine ⟨_, KLaw.wide (deep_law_gate laid_here (by decide +kernel) (by decide +kernel) (by kernel_rfl) (by kernel_rfl)), fun a ha => ?_⟩
 obtain ⟨x, hx, rfl⟩ := List.mem_map.1 ha
 have := hk x hx
 exact ⟨_, rfl, key_two (it := 3) (by kernel_rfl) (by kernel_rfl) (by kernel_rfl) (by kernel_rfl) (by kernel_rfl) (by decide +kernel) (wf_small this.1.1 this.1.2) (wf_small this.2.1 this.2.2)⟩
theorem p_repDemand (l : List Demand) (hl : l.length <= 9223372036854775807) (hk : ∀ x ∈ l, (0 <= x.src /\ x.src <= 1073741824) /\ (0 <= x.dst /\ x.dst <= 1073741824)) (g : FuncId) (hg : ∀ x, PCall Tryz.prog g [.agg (Demand.c x)] (dKey x)) :
  PCall Tryz.prog 63 [.sl none (lDemand l), .fn (.func g) [] []] (.bool (repB dKey l)) := by
 refine pC h63_k rfl ?_
 simp only [Tryz.f63, go_sem]
 refine awp_lst l (fun (_ : Unit) r => repGo dKey l (l.length - r.length) r) (fun k _ => distL dKey (l.take k)) (fun k _ => [(1, .fn (.func g) [] []), (5, .mapr 0), (9, .sl none (lDemand l)), (10, .int .i64 l.length), (11, .int .i64 k)]) (fun k _ => [some (mapc (setE dKey (l.take k)))]) () hl trivial rfl rfl ?_ ?_
 ·intro k _ x xs hd hx hI hF h0 h1 hw
  have hk2 := drop_len hd
  have e1 : l.length - (xs.length + 1) = k := by omega
  have e2 : l.length - xs.length = k + 1 := by omega
  simp only [List.length_cons, e1, Nat.sub_self, repGo] at hF
  simp only [go_sem, h0, h1, lDemand_get hx]
  repeat' (first
   | (refine aP (hg _) ?_; simp only [go_sem, h0, h1, hw, lDemand_get hx])
   | ((first | refine cS ?_ ?_ | refine gS ?_ ?_) <;> (intro hc; simp only [go_sem, hc, h0, h1, hw, lDemand_get hx])))
  have hkeys : keysIn Tryz.prog 111 (dKey x :: (l.take k).map dKey) := by
   have := keysIn_dem (ks := x :: l.take k) fun y hy => by
    rcases List.mem_cons.1 hy with rfl | hy
    ·exact hk _ (List.mem_of_getElem? hx)
    ·exact hk _ (List.mem_of_mem_take hy)
   simpa using this
  have hb : bndL 1 (mapc (setE dKey (l.take k ++ [x]))) = true := bnd_setE fun _ => rfl
  refine lkpK_set (kt := 111) (et := 4) dKey (l.take k) (dKey x) ?_ ?_ rfl hkeys hI ?_
  ·first | simp only [go_sem] | kernel_rfl
  ·first | simp only [go_sem] | kernel_rfl
  simp only [go_sem]
  repeat' (first
   | (refine aP (hg _) ?_; simp only [go_sem, h0, h1, hw, lDemand_get hx])
   | ((first | refine cS ?_ ?_ | refine gS ?_ ?_) <;> (intro hc; simp only [go_sem, hc, h0, h1, hw, lDemand_get hx])))
  ·rw [repB, hF, hc, Bool.true_or]
  ·refine updK_set (kt := 111) (et := 4) dKey (l.take k) x ?_ rfl hkeys hI hc ?_
   ·first | simp only [go_sem] | kernel_rfl
   simp only [go_sem, hw, hb]
   exact ⟨(), by rw [e1, e2, repGo, hc, Bool.false_or], by rw [take_snoc hx]; exact distL_snoc _ _ hI hc, rfl, by rw [take_snoc hx]⟩
 ·intro _ _ hF
  simp only [go_sem, Int.lt_irrefl, decide_false]
  rw [Nat.sub_self] at hF
  rw [repB, hF]; rfl
end Go.AI
namespace Go.AI
open Go.Proofs
set_option maxRecDepth 50000
def setB (s : Setup) : Bool := fewN s.network 20 40 20 && (ckNet s.network == 0 && ckF s.fields == 0)
theorem c_setup (s : Setup) (hs : bulkL s.c <= 1073741824) : PCall Tryz.prog 10 [.agg s.c] (.bool (setB s)) := by
 refine pC h10_k rfl ?_
 simp only [Tryz.f10, go_sem]
 repeat' (first
  | ((first | refine pK (c_fewN _ _ _ _) ?_ | refine pK (c_ckNet _ (Setup.bs_network hs)) ?_ | refine pK (c_ckF _ (Setup.bl_fields hs)) ?_); simp only [go_sem])
  | ((first | refine cS ?_ ?_ | refine gS ?_ ?_) <;> (intro hc; simp only [go_sem, hc])))
 all_goals first
  | rfl
  | (simp only [setB]; rfl)
  | grind [setB]
  | (simp only [setB]; grind)
  | (simp [setB, *]; done)
  | (simp_all [setB]; done)
  | skip
theorem c_law3 (hsan : PCall Tryz.prog 9 [] (.bool true)) (s : Setup) (t : Tenant) (hs : bulkL s.c <= 1073741824) (hb : bulkL t.c <= 1073741824)
  (hck : setB s = true -> PCall Tryz.prog 12 [.agg s.c, .agg t.c] (.int .i64 (ck18 s t))) : PCall Tryz.prog 3 [.agg s.c, .agg t.c] (.bool true) := by
 refine pC h3_k rfl ?_
 cases hb2 : setB s with
 | false =>
  simp only [Tryz.f3, go_sem]
  repeat' (first
   | ((first | refine pK (hsan) ?_ | refine pK (c_setup _ hs) ?_); simp only [go_sem, hb2])
   | ((first | refine cS ?_ ?_ | refine gS ?_ ?_) <;> (intro hc; simp only [go_sem, hc, hb2])))
  all_goals first | rfl | exact absurd hc (by decide) | skip
 | true =>
  have hf : ckF s.fields = 0 := by simp only [setB, Bool.and_eq_true, beq_iff_eq] at hb2; exact hb2.2.2
  have hl : okF s.fields := fun f hf2 => Int.le_trans (ckF_width hf f hf2) (by decide)
  have hk := hck hb2
  simp only [Tryz.f3, go_sem]
  repeat' (first
   | ((first | refine pK (hsan) ?_ | refine pK (c_setup _ hs) ?_ | refine pK (c_fewT _) ?_ | refine pK (hk) ?_ | refine pK (c_ck18 _ _ hl hs hb) ?_); simp only [go_sem, hb2])
   | ((first | refine cS ?_ ?_ | refine gS ?_ ?_) <;> (intro hc; simp only [go_sem, hc, hb2])))
  all_goals first | rfl | exact absurd hc (by decide) | (simp; done) | skip
end Go.AI
namespace Go.AI
open Go.Proofs
set_option maxRecDepth 50000
theorem ckF_pos {l : List Fld} (h : ckF l = 0) : ∀ f ∈ l, 0 <= f.width /\ f.width <= 16 := by
 have : ∀ (r : List Fld) (i : Nat), ckFGo l i r = 0 -> ∀ f ∈ r, 0 <= f.width /\ f.width <= 16 := by
  intro r
  induction r with
  | nil => intro i _ f hf; cases hf
  | cons x r ih =>
   intro i h f hf
   rw [ckFGo] at h
   split at h
   ·cases h
   split at h
   ·cases h
   split at h
   ·cases h
   split at h
   ·cases h
   rename_i hp _
   rcases List.mem_cons.1 hf with rfl | hf
   ·simp only [placeB, Bool.not_eq_true', Bool.and_eq_false_iff, not_or, Bool.not_eq_false, decide_eq_true_eq] at hp
    omega
   ·exact ih _ h f hf
 unfold ckF at h
 split at h
 ·cases h
 ·exact this l 0 h
theorem repDem_okAll (t : Tenant) : okAll (pdm t) qdm t.demands = (t.demands.all (pdm t) && !(repB dKey t.demands)) :=
 repGo_okGo (pdm t) qdm dKey (fun x y => by rw [Bool.eq_iff_iff]; simp [keyEq, keyEqL, keyEq1, qdm]) t.demands 0 t.demands
theorem pdm_src {t : Tenant} {d : Demand} (h : pdm t d = true) (hl : t.ports.length <= 1073741824) : (0 <= d.src /\ d.src <= 1073741824) /\ (0 <= d.dst /\ d.dst <= 1073741824) := by
 unfold pdm outerB isPortB at h
 simp only [Bool.and_eq_true, decide_eq_true_eq] at h
 omega
theorem outer_edge {s : Setup} {t : Tenant} (h : ckPo s t = 0) (n : Int) : decide (0 <= edgeOf t n) = outerB t n := by
 have hpeg : okAll (peg s.network.edges.length) qeg t.ports = true := by
  unfold ckPo at h
  split at h
  ·cases h
  split at h
  ·cases h
  split at h
  ·cases h
  ·rename_i hne; simpa using hne
 unfold outerB edgeOf
 by_cases hp : isPortB t n = true
 ·rw [if_pos hp, hp, Bool.true_and]
  have hp2 := hp
  simp only [isPortB, Bool.and_eq_true, decide_eq_true_eq] at hp2
  obtain ⟨x, hx⟩ : ∃ x, t.ports[n.toNat]? = some x := ⟨_, List.getElem?_eq_getElem (by omega)⟩
  have he : edgeAt t n = x.edge := by simp [edgeAt, hx]
  have := (okAll_spec hpeg n.toNat x hx).1
  simp only [peg, Bool.and_eq_true, decide_eq_true_eq] at this
  rw [he, Bool.eq_iff_iff]
  simp
  omega
 ·have hp2 : isPortB t n = false := by simpa using hp
  rw [if_neg hp, hp2]; rfl
set_option maxHeartbeats 4000000 in
theorem p_vCheck (s : Setup) (t : Tenant) (hs : bulkL s.c <= 1073741824) (hb : bulkL t.c <= 1073741824) (hset : setB s = true) : PCall Tryz.prog 12 [.agg s.c, .agg t.c] (.int .i64 (ck18 s t)) := by
 have hfl : s.fields.length <= 1073741824 := lFld_bn (Setup.bl_fields hs)
 have hsn := Setup.bs_network hs
 have hel : s.network.edges.length <= 1073741824 := lEdge_bn (Network.bl_edges hsn)
 have hnl : s.network.nodes.length <= 1073741824 := lNode_bn (Network.bl_nodes hsn)
 have hok : ∀ f ∈ s.fields, 0 <= f.width /\ f.width <= 16 := by
  have hf : ckF s.fields = 0 := by simp only [setB, Bool.and_eq_true, beq_iff_eq] at hset; exact hset.2.2
  exact ckF_pos hf
 have hpl := lPort_bn (Tenant.bl_ports hb)
 have hrl := lRoute_bn (Tenant.bl_routes hb)
 have hdl := lDemand_bn (Tenant.bl_demands hb)
 by_cases hlim : 64 < t.ports.length \/ 64 < t.wires.length \/ 16 < t.routes.length \/ 64 < t.demands.length
 ·have hL : ck18 s t = 2 := by unfold ck18; rw [if_pos hlim]
  rw [hL]
  refine pC h12_k rfl ?_
  simp only [Tryz.f12, go_sem]
  repeat' (first
   | ((first | refine cS ?_ ?_ | refine gS ?_ ?_) <;> (intro hc; simp only [go_sem, hc])))
  all_goals first
   | rfl
   | (exfalso; simp only [decide_eq_false_iff_not] at *; omega)
 ·have hL : ck18 s t = if ckPo s t ≠ 0 then ckPo s t else if ckPr s t ≠ 0 then ckPr s t else if rouGo s t.routes ≠ 0 then rouGo s t.routes else if okAll (pdm t) qdm t.demands = false then 1 else 0 := by
   unfold ck18; rw [if_neg hlim]
  have l1 : decide ((64 : Int) < t.ports.length) = false := by simp; omega
  have l2 : decide ((64 : Int) < t.wires.length) = false := by simp; omega
  have l3 : decide ((16 : Int) < t.routes.length) = false := by simp; omega
  have l4 : decide ((64 : Int) < t.demands.length) = false := by simp; omega
  refine pC h12_k rfl ?_
  simp only [Tryz.f12, go_sem, l1, l2, l3, l4]
  repeat' (first
   | ((first | refine pK (p_checkPorts s t hb hel) ?_ | refine pK (p_checkProgram s t (by omega) hok hb) ?_); simp only [go_sem])
   | ((first | refine cS ?_ ?_ | refine gS ?_ ?_) <;> (intro hc; simp only [go_sem, hc])))
  ·rw [hL, if_pos (by simpa using hc)]
  ·have n1 : ckPo s t = 0 := by
    have h9 : (ckPo s t != 0) = false := by assumption
    simpa using h9
   rw [hL, if_neg (by simp [n1]), if_pos (by simpa using hc)]
  ·have n1 : ckPo s t = 0 := by
    have h9 : (ckPo s t != 0) = false := by assumption
    simpa using h9
   have n2 : ckPr s t = 0 := by simpa using hc
   have hT : ck18 s t = if rouGo s t.routes ≠ 0 then rouGo s t.routes else if okAll (pdm t) qdm t.demands = false then 1 else 0 := by rw [hL, if_neg (by simp [n1]), if_neg (by simp [n2])]
   refine awp_lst t.routes (fun (_ : Unit) r => rouGo s r) (fun k _ => True) (fun k _ => [(2, .ptr 0 0), (3, .ptr 1 0), (48, .sl none (lRoute t.routes)), (49, .int .i64 t.routes.length), (50, .int .i64 k)]) (fun k _ => [some s.c, some t.c]) () (by omega) trivial rfl rfl ?_ ?_
   ·intro k _ x xs hd hx hI hF h0 h1 hw
    have hxm := List.mem_of_getElem? hx
    have hbx : bulkL x.c <= 1073741824 := by have := lRoute_bk (Tenant.bl_routes hb) hxm; simpa only [AV.bulk] using this
    have hbp := Route.bs_pred hbx
    have hbr := Route.bs_path hbx
    have har : x.path.args.length <= 9223372036854775807 := Nat.le_trans (lRegex_bn (Regex.bl_args hbr)) (by decide)
    simp only [go_sem, h0, h1, hw, lRoute_get hx]
    repeat' (first
     | ((first | refine pK (p_tPred s.fields (by omega) hok x.pred hbp) ?_ | refine pK (p_CheckRegex x.path hbr) ?_ | refine pK (p_known s.network (by omega) x.path ⟨har, hbr⟩) ?_); simp only [go_sem, h0, h1, hw, lRoute_get hx])
     | ((first | refine cS ?_ ?_ | refine gS ?_ ?_) <;> (intro hc; simp only [go_sem, hc, h0, h1, hw, lRoute_get hx])))
    ·have hne : ckTP s.fields x.pred ≠ 0 := by simpa using hc
     have he : rouE s x = ckTP s.fields x.pred := by unfold rouE; rw [if_pos hne]
     rw [hT, hF, rouGo, he, if_neg hne, if_pos hne]
    ·have h9 : ckTP s.fields x.pred = 0 := by
      have h9 : (ckTP s.fields x.pred != 0) = false := by assumption
      simpa using h9
     have hne : ckR x.path ≠ 0 := by simpa using hc
     have he : rouE s x = ckR x.path := by unfold rouE; rw [if_neg (by simp [h9]), if_pos hne]
     rw [hT, hF, rouGo, he, if_neg hne, if_pos hne]
    ·have h9 : ckTP s.fields x.pred = 0 := by
      have h9 : (ckTP s.fields x.pred != 0) = false := by assumption
      simpa using h9
     have h8 : ckR x.path = 0 := by
      have h8 : (ckR x.path != 0) = false := by assumption
      simpa using h8
     have he : rouE s x = 4 := by unfold rouE; rw [if_neg (by simp [h9]), if_neg (by simp [h8]), if_pos (by simpa using hc)]
     rw [hT, hF, rouGo, he, if_neg (show ¬ (4 : Int) = 0 by decide), if_pos (show (4 : Int) ≠ 0 by decide)]
    ·have h9 : ckTP s.fields x.pred = 0 := by
      have h9 : (ckTP s.fields x.pred != 0) = false := by assumption
      simpa using h9
     have h8 : ckR x.path = 0 := by
      have h8 : (ckR x.path != 0) = false := by assumption
      simpa using h8
     have he : rouE s x = 0 := by unfold rouE; rw [if_neg (by simp [h9]), if_neg (by simp [h8]), if_neg (by simpa using hc)]
     exact ⟨(), by rw [rouGo, if_pos he]⟩
   ·intro _ _ hF
    have hF0 : rouGo s t.routes = 0 := hF
    simp only [go_sem, Int.lt_irrefl, decide_false]
    have hT2 : ck18 s t = if okAll (pdm t) qdm t.demands = false then 1 else 0 := by rw [hT, if_neg (by simp [hF0])]
    refine awp_lst t.demands (fun (_ : Unit) r => r.all (pdm t)) (fun k _ => True) (fun k _ => [(3, .ptr 1 0), (76, .sl none (lDemand t.demands)), (77, .int .i64 t.demands.length), (78, .int .i64 k)]) (fun k _ => [some s.c, some t.c]) () (by omega) trivial rfl rfl ?_ ?_
    ·intro k _ x xs hd hx hI hG h0 h1 hw
     have e1 := outer_edge n1 x.src
     have e2 := outer_edge n1 x.dst
     simp only [go_sem, h0, h1, hw, lDemand_get hx]
     have hno : pdm t x = false -> ck18 s t = 1 := fun h => by
      rw [hT2, repDem_okAll, List.all_eq_false.2 ⟨x, List.mem_of_getElem? hx, by simp [h]⟩]; rfl
     repeat' (first
      | ((first | refine pK (p_outer t _) ?_ | refine pK (c_within _ _ _) ?_); simp only [go_sem, h0, h1, hw, lDemand_get hx, e1, e2])
      | ((first | refine cS ?_ ?_ | refine gS ?_ ?_) <;> (intro hc; simp only [go_sem, hc, h0, h1, hw, lDemand_get hx, e1, e2])))
     all_goals clear hG hF e1 e2 hok hset
     all_goals first
      | (rw [hno (by clear hno; unfold pdm; simp_all; try omega)]; done)
      | exact ⟨(), by
        have hp : pdm t x = true := by
         clear hno
         unfold pdm
         simp_all
         try omega
        rw [List.all_cons, hp, Bool.true_and]⟩
      | skip
    ·intro _ _ hG
     simp only [go_sem, Int.lt_irrefl, decide_false]
     have hG : t.demands.all (pdm t) = true := by simpa using hG
     repeat' (first
      | (refine pK (p_repDemand t.demands (by omega) (fun x hx => pdm_src (List.all_eq_true.1 hG x hx) hpl) 64 p_cd1) ?_; simp only [go_sem])
      | ((first | refine cS ?_ ?_ | refine gS ?_ ?_) <;> (intro hc; simp only [go_sem, hc])))
     all_goals rw [hT2, repDem_okAll, hG, hc]; rfl
theorem c_law3F (hsan : PCall Tryz.prog 9 [] (.bool true)) (s : Setup) (t : Tenant) (hs : bulkL s.c <= 1073741824) (hb : bulkL t.c <= 1073741824) : PCall Tryz.prog 3 [.agg s.c, .agg t.c] (.bool true) :=
 c_law3 hsan s t hs hb fun h => p_vCheck s t hs hb h
end Go.AI
