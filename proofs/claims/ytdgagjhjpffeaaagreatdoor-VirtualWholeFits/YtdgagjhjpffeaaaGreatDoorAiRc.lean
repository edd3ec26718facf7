/- That the model's operations do what 'ares' says: an append to a new empty row whose outcome is a row that may be written. -/
import Derived.Test.YtdgagjhjpffeaaaGreatDoorAiRb
set_option linter.unusedSimpArgs false
set_option linter.unusedVariables false
namespace Go.AI
section
variable {P : Program} {F : Nat -> Prop} {G : Gh} {w : World} {H : Heap} {vals : List AV} {us : List Value} {R : AV -> Heap -> Prop}
theorem VRel.msl_cells {ob off len sz b : Nat} {u : Value} (hv : VRel G w (.msl ob off len sz) u) (hb : G.obs[ob]? = some b) : ∃ (C : Array Value) (E : TypeId), w.heap[b]? = some (.cells C E (0, 0)) := by
 generalize hx : AV.msl ob off len sz = x at hv
 cases hv <;> cases hx
 rename_i b0 cap hcap hob hlcap hcc
 rw [hb] at hob
 cases hob
 obtain ⟨C, E, h1, _⟩ := hcc
 exact ⟨C, E, h1⟩
theorem CRel.freeze (h : CRel F G vals H us w) {ob b : Nat} {cs : List AV} (ho : H[ob]? = some (some cs)) (hb : G.obs[ob]? = some b) (hbc : ∃ (C : Array Value) (E : TypeId), w.heap[b]? = some (.cells C E (0, 0))) :
  CRel F (G.setKind b .imm) vals (H.set ob none) us w /\ Ext F G w (G.setKind b .imm) w := by
 have hobj := h.h.obj ob cs b ho hb
 have hkd : G.kind b = .obj := (hobj.of_cells hbc.choose_spec.choose_spec).1
 have hk : Keeps G w (G.setKind b .imm) w := ⟨fun _ _ h => h, fun _ C _ h => ⟨C, h, rfl⟩, fun b' hb' hs => ⟨hb', G.kind_set_ne .imm (fun e => by rw [e, hkd] at hs; cases hs)⟩, fun b' o v hs hc => ⟨by
  by_cases e : b' = b
  ·subst e
   unfold Gh.safe at hs
   rw [hkd] at hs
   exact hs.elim
  ·exact (G.safe_set_ne .imm e).2 hs, hc⟩⟩
 have hE : ∀ F' : Nat -> Prop, (∀ b', F' b' -> b' ≠ b) -> Ext F' G w (G.setKind b .imm) w := fun F' hF => ⟨Nat.le_refl _, hk, fun b' hb' => G.kind_set_ne .imm (hF b' hb'), fun _ _ => rfl, ⟨rfl, rfl, rfl⟩⟩
 have hbuf : ∀ {p : AV × Value} {b' : Nat}, TokOk F G w p -> tok p = some b' -> b' ≠ b := fun {p b'} ht hb' e => by
  obtain ⟨_, ⟨q, hq⟩, _⟩ := ht.of_tok hb'
  rw [e, hkd] at hq
  cases hq
 refine ⟨⟨h.l.ext (F' := fun b' => b' ≠ b) (hE _ fun _ h => h) (fun b' hp => ?_), ⟨by rw [List.length_set]; exact h.h.len, fun o cs2 b2 h1 h2 => ?_, fun o o' cs2 cs3 b2 h1 h2 h3 h4 => ?_, h.h.fore, h.h.glob.keep hk⟩, fun b' => ?_⟩, hE F fun b' hF e => hobj.own (e ▸ hF)⟩
 ·obtain ⟨_, ⟨q, hq⟩, _⟩ := h.l.tok_of_pos hp
  intro e
  rw [e, hkd] at hq
  cases hq
 ·have hne : o ≠ ob := by
   rintro rfl
   rw [List.getElem?_set_self (by exact (List.getElem?_eq_some_iff.1 ho).1)] at h1
   cases h1
  rw [List.getElem?_set_ne (Ne.symm hne)] at h1
  have hbne : b2 ≠ b := by
   rintro rfl
   exact hne (h.h.inj _ _ _ _ _ h1 ho h2 hb)
  exact (h.h.obj o cs2 b2 h1 h2).keep hk (h.h.obj o cs2 b2 h1 h2).own (G.kind_set_ne .imm hbne) rfl fun C E _ i c v hc hv s3 => s3.keep fun b' ht => ⟨(s3.of_tok ht).1, G.kind_set_ne .imm (hbuf s3 ht), rfl⟩
 ·have e1 : o ≠ ob := by
   rintro rfl
   rw [List.getElem?_set_self (by exact (List.getElem?_eq_some_iff.1 ho).1)] at h1
   cases h1
  have e2 : o' ≠ ob := by
   rintro rfl
   rw [List.getElem?_set_self (by exact (List.getElem?_eq_some_iff.1 ho).1)] at h2
   cases h2
  rw [List.getElem?_set_ne (Ne.symm e1)] at h1
  rw [List.getElem?_set_ne (Ne.symm e2)] at h2
  exact h.h.inj _ _ _ _ _ h1 h2 h3 h4
 ·have hle : hcnt (G.setKind b .imm) (H.set ob none) w b' <= hcnt G H w b' := by
   have hd := (List.getElem?_eq_some_iff.1 ho).1
   have hs := sum_range_one (n := H.length) (f := fun o => (otoks (G.setKind b .imm) (H.set ob none) w o).count b') (g := fun o => (otoks G H w o).count b') hd fun o ho' hne => by
    unfold otoks
    rw [List.getElem?_set_ne (Ne.symm hne)]
    rfl
   have hz : (otoks (G.setKind b .imm) (H.set ob none) w ob) = [] := by
    unfold otoks
    rw [List.getElem?_set_self hd]
   simp only [hz, List.count_nil, Nat.add_zero] at hs
   unfold hcnt
   rw [List.length_set]
   omega
  have := h.cnt b'
  omega
theorem CRel.moveObj (h : CRel F G vals H us w) {ob b : Nat} {cs : List AV} (ho : H[ob]? = some (some cs)) (hb : G.obs[ob]? = some b) :
  CRel F { G with obs := G.obs ++ [b] } vals (H.set ob none ++ [some cs]) us w /\ Ext F G w { G with obs := G.obs ++ [b] } w := by
 have hlen := h.h.len
 have hob := (List.getElem?_eq_some_iff.1 ho).1
 have hk : Keeps G w { G with obs := G.obs ++ [b] } w := ⟨fun o x hx => getElem?_append_some hx, fun _ C _ hC => ⟨C, hC, rfl⟩, fun _ hb' _ => ⟨hb', rfl⟩, fun b' o v hs hc => ⟨hs, hc⟩⟩
 have he : Ext F G w { G with obs := G.obs ++ [b] } w := ⟨Nat.le_refl _, hk, fun _ _ => rfl, fun _ _ => rfl, ⟨rfl, rfl, rfl⟩⟩
 have hat : ∀ (o b' : Nat) (cs' : List AV), (H.set ob none ++ [some cs])[o]? = some (some cs') -> (G.obs ++ [b])[o]? = some b' ->
   (o ≠ ob /\ o < H.length /\ H[o]? = some (some cs') /\ G.obs[o]? = some b') \/ (o = H.length /\ cs' = cs /\ b' = b) := by
  intro o b' cs' h1 h2
  have hlt := (List.getElem?_eq_some_iff.1 h1).1
  simp only [List.length_append, List.length_set, List.length_cons, List.length_nil] at hlt
  by_cases hol : o < H.length
  ·rw [List.getElem?_append_left (by simpa using hol)] at h1
   rw [List.getElem?_append_left (by omega)] at h2
   have hne : o ≠ ob := by
    rintro rfl
    rw [List.getElem?_set_self hob] at h1; cases h1
   rw [List.getElem?_set_ne (Ne.symm hne)] at h1
   exact .inl ⟨hne, hol, h1, h2⟩
  ·have : o = H.length := by omega
   subst this
   rw [List.getElem?_append_right (by simp)] at h1
   rw [List.getElem?_append_right (by omega), hlen] at h2
   simp only [List.length_set, Nat.sub_self, List.getElem?_cons_zero, Option.some.injEq] at h1 h2
   exact .inr ⟨rfl, h1.symm, h2.symm⟩
 refine ⟨⟨⟨h.l.len, fun i a u h1 h2 => (h.l.rel i a u h1 h2).keep hk, fun i a u h1 h2 p hp => h.l.tok i a u h1 h2 p hp⟩,
  ⟨by simp [hlen], fun o cs' b' h1 h2 => ?_, fun o o' cs1 cs2 b' h1 h2 h3 h4 => ?_, h.h.fore, h.h.glob.same rfl⟩, fun x => ?_⟩, he⟩
 ·have lift2 : ∀ (cs : List AV) (b2 : Nat), ORel F G w cs b2 -> ORel F { G with obs := G.obs ++ [b] } w cs b2 := fun cs b2 hor => by
   exact hor.keep hk hor.own rfl rfl fun _ _ _ _ _ _ _ _ s3 => s3
  rcases hat o b' cs' h1 h2 with ⟨_, _, g1, g2⟩ | ⟨rfl, rfl, rfl⟩
  ·exact lift2 _ _ (h.h.obj o cs' b' g1 g2)
  ·exact lift2 _ _ (h.h.obj ob _ _ ho hb)
 ·rcases hat o b' cs1 h1 h3 with ⟨n1, l1, g1, g2⟩ | ⟨rfl, _, rfl⟩ <;> rcases hat o' _ cs2 h2 h4 with ⟨n2, l2, g3, g4⟩ | ⟨rfl, _, hb2⟩
  ·exact h.h.inj _ _ _ _ _ g1 g3 g2 g4
  ·subst hb2; exact absurd (h.h.inj _ _ _ _ _ g1 ho g2 hb) n1
  ·exact absurd (h.h.inj _ _ _ _ _ g3 ho g4 hb) n2
  ·rfl
 ·have h0 := h.cnt x
  have e : hcnt { G with obs := G.obs ++ [b] } (H.set ob none ++ [some cs]) w x = hcnt G H w x := by
   unfold hcnt
   simp only [List.length_append, List.length_set, List.length_cons, List.length_nil, Nat.zero_add, List.range_succ, List.map_append, List.sum_append, List.map_cons, List.map_nil, List.sum_cons, List.sum_nil, Nat.add_zero]
   have enew : otoks { G with obs := G.obs ++ [b] } (H.set ob none ++ [some cs]) w H.length = otoks G H w ob := by
    unfold otoks
    rw [List.getElem?_append_right (by simp), List.getElem?_append_right (by omega), hlen, ho, hb]
    simp
   have eold : otoks { G with obs := G.obs ++ [b] } (H.set ob none ++ [some cs]) w ob = [] := by
    unfold otoks
    rw [List.getElem?_append_left (by simpa using hob), List.getElem?_set_self hob]
   have hone := sum_range_one (n := H.length) (f := fun o => (otoks { G with obs := G.obs ++ [b] } (H.set ob none ++ [some cs]) w o).count x) (g := fun o => (otoks G H w o).count x) hob fun o ho' hne => by
    show List.count x _ = List.count x _
    congr 1
    unfold otoks
    rw [List.getElem?_append_left (by simpa using ho'), List.getElem?_append_left (by omega), List.getElem?_set_ne (Ne.symm hne)]
   simp only [eold, List.count_nil, Nat.add_zero] at hone
   rw [enew]
   exact hone
  rw [e]; exact h0
theorem tok_nil_borrowed (cs : List AV) (vs : List Value) : (((cs.map borrow1).zip vs).filterMap tok) = [] := by
 rw [List.filterMap_eq_nil_iff]
 intro p hp
 have hm := (List.of_mem_zip (show (p.1, p.2) ∈ (cs.map borrow1).zip vs from hp)).1
 obtain ⟨d, _, hd⟩ := List.mem_map.1 hm
 obtain ⟨p1, p2⟩ := p
 simp only at hd
 subst hd
 exact tok_borrow1 d p2
theorem ok_append_row {t e ty ob sz : Nat} {sv : AV} {xs : List AV} {u v : Value} (hc : CRel F G [.msl ob 0 0 sz, sv] H [u, v] w) (hx : Src G w (P.cellsOf e) xs v) (ho : H[ob]? = some (some [])) (hu : P.underlying t = some (.slice e)) (hpos : 0 < P.cellsOf e)
  (hsz : sz = P.cellsOf e) (hxs : ∀ x ∈ xs, x.cells.length = P.cellsOf e) (hz : zeroOk P e = true) (hb : xs.length * P.bytesOf e <= 140737488355328) (h63 : xs.length <= 9223372036854775807)
  (hr : R (.msl H.length 0 xs.length (P.cellsOf e)) (H.set ob none ++ [some ((cat xs).map borrow1)])) :
  OpRes P ((do let r <- Builtin.append_ #[t, t] ty #[u, v]; pure (Next.value r) : Sem Next).run P w) (KOut F G w R) := by
 subst hsz
 have hs := hc.l.rel 0 _ _ rfl rfl
 unfold zeroOk at hz
 split at hz
 case h_2 => cases hz
 rename_i i hi
 split at hz
 case h_2 => cases hz
 rename_i z hz'
 have hcz : z.cells.size = i.size := by simpa using hz
 have hce : P.cellsOf e = i.size := by simp [Program.cellsOf, hi]
 have hbe : P.bytesOf e = i.bytes := by simp [Program.bytesOf, hi]
 rw [hbe] at hb
 have hcl := cat_length hxs
 have hlen := hc.h.len
 cases hs with
 | msl _ _ _ _ b cap hob hl hm hrow =>
  obtain ⟨C, E, hrow, hfit⟩ := hrow
  have same : xs = [] -> KOut F G w R (.slice (some ⟨b, 0, none⟩) 0 cap) w := by
   intro h0
   subst h0
   obtain ⟨h1, h2⟩ := hc.moveObj ho hob
   refine ⟨_, _, _, by simpa [cat] using hr, ?_, h2⟩
   have hnew : VRel { G with obs := G.obs ++ [b] } w (.msl H.length 0 0 (P.cellsOf e)) (.slice (some ⟨b, 0, none⟩) 0 cap) :=
    .msl _ _ _ _ b cap (by show (G.obs ++ [b])[H.length]? = some b; rw [List.getElem?_append_right (by omega), hlen]; simp) hl hm ⟨C, E, hrow, hfit⟩
   exact (h1.one hnew (tok_nil_all (toks_scalar rfl rfl _) _ _ _) fun b' => by rw [toks_scalar rfl rfl]; simp)
  rcases hx with ⟨rfl, rfl⟩ | ⟨a, c, news, rfl, hnl, hnews, hone, hcell⟩
  ·refine .value (u := .slice (some ⟨b, 0, none⟩) 0 cap) (w' := w) ?_ (same rfl)
   simp [Builtin.append_, run_underlying hu, sizeOf, typeInfo, hi, Builtin.lenOf, Builtin.firstCells, storeCells]
  ·by_cases h0 : xs = []
   ·subst h0
    have : news = [] := List.eq_nil_of_length_eq_zero (by simpa using hnl)
    subst this
    refine .value (u := .slice (some ⟨b, 0, none⟩) 0 cap) (w' := w) ?_ (same rfl)
    simp [Builtin.append_, run_underlying hu, sizeOf, typeInfo, hi, Builtin.lenOf, Builtin.firstCells, loadCells, loadCellsFrom, storeCells]
   ·have hpos2 : 0 < xs.length := List.length_pos_iff.2 h0
    have hget : ∀ (i : Nat) (d : AV), ((cat xs).map borrow1)[i]? = some d -> ∃ c v, d = borrow1 c /\ c.scalar = true /\ news[i]? = some v /\ VRel G w c v := by
     intro i d hd
     rw [List.getElem?_map] at hd
     cases hci : (cat xs)[i]? with
     | none => rw [hci] at hd; cases hd
     | some c =>
      rw [hci] at hd
      cases hd
      obtain ⟨s1, v, s2, s3⟩ := hcell i c hci
      exact ⟨c, v, rfl, s1, s2, s3⟩
    by_cases hroom : xs.length <= cap
    ·have hf := run_firstCells_some (P := P) w i.size xs.length a xs.length c news (by rw [hnl, hce]) hnews
     have hfit2 : news.length <= C.size := by
      rw [hnl]
      have := Nat.mul_le_mul_right (P.cellsOf e) hroom
      omega
     have hst := run_storeCells_at P b 0 E news 0 C w hrow (by omega) hone
     simp only [Nat.add_zero, Nat.zero_add, List.take_zero, List.nil_append] at hst
     have hset := hc.setObj ho hob hrow (C' := (news ++ C.toList.drop news.length).toArray) (by simp; omega) (cs' := (cat xs).map borrow1) (by simp; omega)
      (fun i d x hd hx' => by
       obtain ⟨c, v, rfl, s1, s2, s3⟩ := hget i d hd
       have hlt := (List.getElem?_eq_some_iff.1 s2).1
       rw [List.getElem?_toArray, List.getElem?_append_left hlt, s2] at hx'
       cases hx'
       exact ⟨(scalar_borrow1 c).trans s1, s3.borrow1, TokOk.of_none (tok_borrow1 c _)⟩) (vs := []) (us' := []) (.nil F G w) (fun x => by rw [tok_nil_borrowed]; simp [tcnt_nil])
     have hlenset : (H.set ob (some ((cat xs).map borrow1)))[ob]? = some (some ((cat xs).map borrow1)) := List.getElem?_set_self (List.getElem?_eq_some_iff.1 ho).1
     obtain ⟨h1, h2⟩ := hset.1.moveObj hlenset hob
     refine .value (u := .slice (some ⟨b, 0, none⟩) xs.length cap) (w' := w.setRow b (news ++ C.toList.drop news.length).toArray) ?_ ⟨_, _, _, hr, ?_, hset.2.trans h2⟩
     ·simp [Builtin.append_, run_underlying hu, sizeOf, typeInfo, hi, Builtin.lenOf, hroom, hf, addr_add, hst]
     ·rw [List.set_set] at h1
      have hrow' : (w.setRow b (news ++ C.toList.drop news.length).toArray).heap[b]? = some (.cells (news ++ C.toList.drop news.length).toArray E (0, 0)) := setRow_heap w b C _ E _ hrow
      have hnew : VRel { G with obs := G.obs ++ [b] } (w.setRow b (news ++ C.toList.drop news.length).toArray) (.msl H.length 0 xs.length (P.cellsOf e)) (.slice (some ⟨b, 0, none⟩) xs.length cap) :=
       .msl _ _ _ _ b cap (by show (G.obs ++ [b])[H.length]? = some b; rw [List.getElem?_append_right (by omega), hlen]; simp) hroom hm ⟨_, E, hrow', by simp; omega⟩
      exact (h1.one hnew (tok_nil_all (toks_scalar rfl rfl _) _ _ _) fun b' => by rw [toks_scalar rfl rfl]; simp)
    ·have hrun := run_append_grow (P := P) (ty := ty) w t e i z hu hi hz' ⟨b, 0, none⟩ 0 cap [] (by simp) (fun j v hv => by simp at hv) a xs.length c news (by rw [hnl, hce]) hnews (by omega) (by omega) (growslice_fits (by omega) (by simpa using hb))
     simp only [Nat.zero_add, List.append_nil, Array.empty_append] at hrun
     obtain ⟨h1, h2⟩ := hc.freeze ho hob ⟨_, _, hrow⟩
     have hd := h1.draw
     have hge := grownCap_ge w xs.length cap e
     have hcm : grownCap w xs.length cap e <= maxLen := grownCap_le_maxLen w _ cap e (by unfold maxLen; omega)
     have hsize : (news.toArray ++ Builtin.zeroCells z.cells (grownCap w xs.length cap e - xs.length)).size = grownCap w xs.length cap e * P.cellsOf e := by
      simp only [Array.size_append, List.size_toArray, size_zeroCells, hcz, hnl, <- hce, <- Nat.add_mul]
      congr 1; omega
     have hk := h2.keeps
     refine .value (by rw [Sem.run_bind, hrun]; rfl) ⟨_, _, _, hr, ?_, (h2.trans ext_draw).trans (ext_newObj hd.h.fore _)⟩
     have hl2 : (H.set ob none).length = H.length := by simp
     have := hd.newObj ((cat xs).map borrow1) (#[] ++ news.toArray ++ Builtin.zeroCells z.cells (grownCap w xs.length cap e - xs.length)) e (by simp only [Array.empty_append, hsize]; simp; rw [hcl]; exact Nat.mul_le_mul_right _ hge)
      (fun i d x hd' hx' => by
       obtain ⟨c, v, rfl, s1, s2, s3⟩ := hget i d hd'
       have hlt := (List.getElem?_eq_some_iff.1 s2).1
       simp only [Array.empty_append] at hx'
       rw [Array.getElem?_append_left (by simpa using hlt), List.getElem?_toArray, s2] at hx'
       cases hx'
       exact ⟨(scalar_borrow1 c).trans s1, ((s3.keep hk).keep (ext_draw (F := F)).keeps).borrow1, TokOk.of_none (tok_borrow1 c _)⟩) (fun x => by rw [tok_nil_borrowed]; simp)
      (v := .msl H.length 0 xs.length (P.cellsOf e)) (u := .slice (some ⟨w.heap.size, 0, none⟩) xs.length (grownCap w xs.length cap e))
      (.msl _ _ _ _ w.heap.size _ (by
       show ((G.setKind b .imm).obs ++ [w.drew.heap.size])[H.length]? = _
       rw [List.getElem?_append_right (by show G.obs.length <= _; omega)]
       show [w.drew.heap.size][H.length - G.obs.length]? = _
       rw [hlen]; simp) hge hcm ⟨_, e, heap_alloc_new _ _, by simp only [Array.empty_append, hsize]; omega⟩) (toks_scalar rfl rfl _)
     simp only [Array.empty_append] at this
     exact this
end
end Go.AI
