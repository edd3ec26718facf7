/- An abstract object that is written no more becomes a fixed block: its slices become lists. -/
import Derived.Test.YtofajkggflobkaaGreatDoorAiW
set_option linter.unusedSimpArgs false
set_option linter.unusedVariables false
namespace Go.AI
section
variable {P : Program} {F : Nat -> Prop} {G : Gh} {w : World} {H : Heap} {n : Nat} {env : Env} {a : Act} {vals : List AV} {us : List Value}
theorem VRel.frozen (h : CRel F G vals H us w) {ob b off len sz : Nat} {cs : List AV} {u : Value} (ho : H[ob]? = some (some cs)) (hb : G.obs[ob]? = some b) (hv : VRel G w (.msl ob off len sz) u) (hle : off + len * sz <= cs.length)
  (ag : Bool) (hs : ag = true \/ sz = 1) : VRel (G.setKind b .imm) w (.sl none (chunk ag sz len ((cs.drop off).map Go.AI.borrow1))) u:=by
 have hbc:=hv.msl_cells hb
 have hext:=(h.freeze ho hb hbc).2
 have hobj:=h.h.obj ob cs b ho hb
 obtain ⟨C,E,hrow,hlC,hC⟩:=(hobj.of_cells hbc.choose_spec.choose_spec).2
 generalize hx : AV.msl ob off len sz = x at hv
 cases hv <;> cases hx
 rename_i b0 cap hcap hob hlcap hcc
 rw [hb] at hob
 cases hob
 have hcs : ∀ c ∈ (cs.drop off).map Go.AI.borrow1,c.scalar = true:=fun c hm => by
  obtain ⟨c0,hc0,rfl⟩:=List.mem_map.1 hm
  obtain ⟨i,hi⟩:=List.getElem?_of_mem hc0
  rw [List.getElem?_drop] at hi
  have hlt : off + i < C.size:=Nat.lt_of_lt_of_le (List.getElem?_eq_some_iff.1 hi).1 hlC
  rw [scalar_borrow1]
  exact (hC _ _ _ hi (Array.getElem?_eq_getElem hlt)).1
 obtain ⟨k1,k2⟩:=chunk_cells ag sz hs len ((cs.drop off).map Go.AI.borrow1) (by simp; omega) hcs
 have e:=chunk_length ag sz len ((cs.drop off).map Go.AI.borrow1)
 have key : ∀ (i : Nat) (c : AV),(cat (chunk ag sz len ((cs.drop off).map Go.AI.borrow1)))[i]? = some c -> c.scalar = true /\ ∃ v,C[off + i]? = some v /\ VRel (G.setKind b .imm) w c v:=fun i c hi => by
  rw [k1] at hi
  have hi' : ((cs.drop off).map Go.AI.borrow1)[i]? = some c:=by
   rw [List.getElem?_take] at hi
   split at hi
   ·exact hi
   ·cases hi
  rw [List.getElem?_map,List.getElem?_drop] at hi'
  cases hc0 : cs[off + i]? with
  | none => rw [hc0] at hi'; cases hi'
  | some c0 =>
   rw [hc0] at hi'
   cases hi'
   have hlt : off + i < C.size:=Nat.lt_of_lt_of_le (List.getElem?_eq_some_iff.1 hc0).1 hlC
   have:=hC _ _ _ hc0 (Array.getElem?_eq_getElem hlt)
   exact ⟨(scalar_borrow1 c0).trans this.1,_,Array.getElem?_eq_getElem hlt,(this.2.1.keep hext.keeps).borrow1⟩
 have hres:=VRel.sl (G:=G.setKind b .imm) (w:=w) none (chunk ag sz len ((cs.drop off).map Go.AI.borrow1)) sz b off cap (fun i => (C[off + i]?).getD Go.undef) k2 (by intro n hn; cases hn) (by rw [e]; exact hlcap) (by assumption)
  (fun i c hi => by
   obtain ⟨g1,v,g2,g3⟩:=key i c hi
   refine ⟨g1, ?_, ?_⟩
   ·unfold Gh.safe
    rw [G.kind_set]
    trivial
   ·rw [g2]
    simp only [Option.getD_some]
    simp [World.cell?,hrow,g2])
  (fun i c hi => by
   obtain ⟨g1,v,g2,g3⟩:=key i c hi
   rw [g2]
   exact g3)
 rw [e] at hres
 exact hres
end
end Go.AI
namespace Go.AI
mutual
def AV.bnd (k : Nat) : AV -> Bool
 | .ptr o _ => decide (o < k)
 | .msl o _ _ _ => decide (o < k)
 | .mslc o _ _ _ _ => decide (o < k)
 | .mapr o => decide (o < k)
 | .it o => decide (o < k)
 | .yld o _ => decide (o < k)
 | .ifc _ a => a.bnd k
 | .cptr cs _ => bndL k cs
 | .sl _ es => bndL k es
 | .fn _ a b => bndL k a && bndL k b
 | .agg cs => bndL k cs
 | .tup vs => bndL k vs
 | _ => true
def bndL (k : Nat) : List AV -> Bool
 | [] => true
 | v :: vs => v.bnd k && bndL k vs
end
theorem bndL_iff {k : Nat} {vs : List AV} : bndL k vs = true ↔ ∀ v ∈ vs,v.bnd k = true:=by
 induction vs with
 | nil => simp [bndL]
 | cons x xs ih => simp [bndL,ih]
theorem bndL_map {α : Type} {k : Nat} {f : α -> AV} {l : List α} (h : ∀ x,(f x).bnd k = true) : bndL k (l.map f) = true:=by
 rw [bndL_iff]
 intro v hv
 obtain ⟨x,_,rfl⟩:=List.mem_map.1 hv
 exact h x
theorem bnd_cells {k : Nat} {v : AV} (h : v.bnd k = true) : ∀ c ∈ v.cells,c.bnd k = true:=by
 cases v <;> first | (intro c hc; simp only [AV.cells,List.mem_singleton] at hc; subst hc; exact h) | skip
 simp only [AV.bnd] at h
 exact bndL_iff.1 h
theorem bnd_cat {k : Nat} {es : List AV} (h : bndL k es = true) : ∀ c ∈ cat es,c.bnd k = true:=by
 intro c hc
 obtain ⟨e,he,hc⟩:=List.mem_flatMap.1 hc
 exact bnd_cells (bndL_iff.1 h e he) c hc
def Gh.cut (G : Gh) (k : Nat) : Gh:=⟨G.obs.take k,G.kind⟩
theorem VRel.cut {G : Gh} {w : World} (k : Nat) {a : AV} {v : Value} (h : VRel G w a v) (hp : a.bnd k = true) : VRel (G.cut k) w a v:=by
 have hobs : ∀ o b,o < k -> G.obs[o]? = some b -> (G.cut k).obs[o]? = some b:=fun o b ho hb => by
  show (G.obs.take k)[o]? = some b
  rw [List.getElem?_take_of_lt ho]; exact hb
 induction h with
 | undef v => exact .undef v
 | int k n => exact .int k n
 | bool b => exact .bool b
 | str s => exact .str s
 | nilp => exact .nilp
 | ptr o off b h hc => exact .ptr o off b (hobs o b (by simpa [AV.bnd] using hp) h) hc
 | cptr cs off b q u h hu ih =>
  simp only [AV.bnd] at hp
  exact .cptr cs off b q u h fun i c hi => ih i c hi (bndL_iff.1 hp c (List.mem_of_getElem? hi))
 | slnil own => exact .slnil own
 | slany own a => exact .slany own a
 | sl own es sz b q cap u hsz hown hl hm h hu ih =>
  simp only [AV.bnd] at hp
  exact .sl own es sz b q cap u hsz hown hl hm h fun i c hi => ih i c hi (bnd_cat hp c (List.mem_of_getElem? hi))
 | msl o off len sz b cap h hl hm hc => exact .msl o off len sz b cap (hobs o b (by simpa [AV.bnd] using hp) h) hl hm hc
 | mslc o off len sz cap b h hl hm hc => exact .mslc o off len sz cap b (hobs o b (by simpa [AV.bnd] using hp) h) hl hm hc
 | fn f first captured fi ca h1 h2 h3 h4 ih1 ih2 =>
  simp only [AV.bnd,Bool.and_eq_true] at hp
  exact .fn f first captured fi ca h1 h2 (fun i c v hc hv => ih1 i c v hc hv (bndL_iff.1 hp.1 c (List.mem_of_getElem? hc))) (fun i c v hc hv => ih2 i c v hc hv (bndL_iff.1 hp.2 c (List.mem_of_getElem? hc)))
 | nilf => exact .nilf
 | mapr o b h hb hk => exact .mapr o b (hobs o b (by simpa [AV.bnd] using hp) h) hb hk
 | nilm => exact .nilm
 | it o b h hb hk => exact .it o b (hobs o b (by simpa [AV.bnd] using hp) h) hb hk
 | yld o b L h hb hk => exact .yld o b L (hobs o b (by simpa [AV.bnd] using hp) h) hb hk
 | ifc t a v hs h ih => exact .ifc t a v hs (ih (by simpa [AV.bnd] using hp))
 | nili => exact .nili
 | agg cs vs hl hs h ih =>
  simp only [AV.bnd] at hp
  exact .agg cs vs hl hs fun i c v hc hv => ih i c v hc hv (bndL_iff.1 hp c (List.mem_of_getElem? hc))
 | tup cs vs hl hs h ih =>
  simp only [AV.bnd] at hp
  exact .tup cs vs hl hs fun i c v hc hv => ih i c v hc hv (bndL_iff.1 hp c (List.mem_of_getElem? hc))
def closedH (H : Heap) : Prop:=∀ (o : Nat) (cs : List AV),H[o]? = some (some cs) -> bndL H.length cs = true
section
variable {P : Program} {F : Nat -> Prop} {G : Gh} {w : World}
theorem TokOk.cut {k : Nat} {p : AV × Value} (h : TokOk F G w p) : TokOk F (G.cut k) w p:=h
theorem ORel.cut {cs : List AV} {b : Nat} (h : ORel F G w cs b) (k : Nat) (hc : ∀ c ∈ cs,c.bnd k = true) : ORel F (G.cut k) w cs b:=by
 refine ⟨h.own, ?_⟩
 have hi:=h.is
 show match G.kind b with
  | .obj => RowIs F (G.cut k) w cs b
  | .map => MapIs (G.cut k) w cs b
  | .iter => IterIs (G.cut k) w cs b
  | .loop L => LoopIs (G.cut k) w L cs b
  | _ => False
 split at hi
 ·rename_i hk
  try rw [hk]
  obtain ⟨C,E,g1,g2,g3⟩:=hi
  exact ⟨C,E,g1,g2,fun i c v hci hv => ⟨(g3 i c v hci hv).1,(g3 i c v hci hv).2.1.cut _ (hc c (List.mem_of_getElem? hci)),(g3 i c v hci hv).2.2⟩⟩
 ·rename_i hk
  try rw [hk]
  obtain ⟨es,ms,cl,g1,g2,g3,g4,g5⟩:=hi
  subst g2
  have hb:=hc _ (by simp [mapc] : AV.tup (es.flatMap fun p => [p.1,p.2]) ∈ mapc es)
  simp only [AV.bnd] at hb
  refine ⟨es,ms,cl,g1,rfl,g3,fun i p m hp hm => ?_,g5⟩
  obtain ⟨a1,a2,a3,a4⟩:=g4 i p m hp hm
  have hpm:=List.mem_of_getElem? hp
  exact ⟨a1,a2,a3.cut _ (bndL_iff.1 hb _ (List.mem_flatMap.2 ⟨p,hpm,by simp⟩)),a4.cut _ (bndL_iff.1 hb _ (List.mem_flatMap.2 ⟨p,hpm,by simp⟩))⟩
 ·rename_i hk
  try rw [hk]
  rcases hi with ⟨s,pos,h1,h2⟩ | ⟨h1,h2⟩ | ⟨o,mb,si,se,h1,h2,h3⟩
  ·exact .inl ⟨s,pos,h1,h2⟩
  ·exact .inr (.inl ⟨h1,h2⟩)
  ·exact .inr (.inr ⟨o,mb,si,se,h1,h2,h3.cut _ (hc _ (by rw [h2]; simp [iterM]))⟩)
 ·rename_i L hk
  try rw [hk]
  obtain ⟨s,pe,t,D,st,vals,g1,g2,g3,g4,g5⟩:=hi
  subst g3
  have hb:=hc _ (by simp [loopc] : AV.tup vals ∈ loopc st vals)
  simp only [AV.bnd] at hb
  exact ⟨s,pe,t,D,st,vals,g1,g2,rfl,g4,fun i a u ha hu => ⟨(g5 i a u ha hu).1,(g5 i a u ha hu).2.cut _ (bndL_iff.1 hb _ (List.mem_of_getElem? ha))⟩⟩
 ·exact hi.elim
theorem sum_range_le {n m : Nat} {f : Nat -> Nat} (h : n <= m) : ((List.range n).map f).sum <= ((List.range m).map f).sum := by
  induction m with
  | zero => have : n = 0 := by omega
            subst this; exact Nat.le_refl _
  | succ m ih =>
    rw [List.range_succ, List.map_append, List.sum_append]
    by_cases e : n = m + 1
    · subst e; rw [List.range_succ, List.map_append, List.sum_append]; exact Nat.le_refl _
    · have := ih (by omega); omega
theorem CRel.cutL {vs : List AV} {us : List Value} {H1 junk : Heap} (h : CRel F G vs (H1 ++ junk) us w) (hv : bndL H1.length vs = true) (hc : closedH H1) : CRel F (G.cut H1.length) vs H1 us w:=by
 have hlen:=h.h.len
 rw [List.length_append] at hlen
 have hob : ∀ o,o < H1.length -> (G.cut H1.length).obs[o]? = G.obs[o]?:=fun o ho => List.getElem?_take_of_lt ho
 have hget : ∀ (o : Nat) (cs : List AV),H1[o]? = some (some cs) -> (H1 ++ junk)[o]? = some (some cs):=fun o cs ho => by
  rw [List.getElem?_append_left (List.getElem?_eq_some_iff.1 ho).1]; exact ho
 refine ⟨⟨h.l.len,fun i a u h1 h2 => (h.l.rel i a u h1 h2).cut _ (bndL_iff.1 hv a (List.mem_of_getElem? h1)),fun i a u h1 h2 p hp => h.l.tok i a u h1 h2 p hp⟩,⟨?_,fun o cs b ho hb => ?_,fun o o' cs cs' b g1 g2 g3 g4 => ?_,h.h.fore,h.h.glob.same rfl⟩,fun b => ?_⟩
 ·show (G.obs.take H1.length).length = _
  simp; omega
 ·have hlt:=(List.getElem?_eq_some_iff.1 ho).1
  rw [hob o hlt] at hb
  exact (h.h.obj o cs b (hget o cs ho) hb).cut _ (bndL_iff.1 (hc o cs ho))
 ·have l1:=(List.getElem?_eq_some_iff.1 g1).1
  have l2:=(List.getElem?_eq_some_iff.1 g2).1
  rw [hob _ l1] at g3
  rw [hob _ l2] at g4
  exact h.h.inj o o' cs cs' b (hget _ _ g1) (hget _ _ g2) g3 g4
 ·have h3:=h.cnt b
  have e : ∀ o,o < H1.length -> otoks (G.cut H1.length) H1 w o = otoks G (H1 ++ junk) w o:=fun o ho => by
   unfold otoks
   rw [hob o ho,List.getElem?_append_left ho]
  have h4 : hcnt (G.cut H1.length) H1 w b <= hcnt G (H1 ++ junk) w b:=by
   unfold hcnt
   rw [sum_range_congr (fun o ho => by rw [e o ho]),List.length_append]
   exact sum_range_le (by omega)
  omega
theorem CRel.cut {v : AV} {u : Value} {H1 junk : Heap} (h : CRel F G [v] (H1 ++ junk) [u] w) (hv : v.bnd H1.length = true) (hc : closedH H1) : CRel F (G.cut H1.length) [v] H1 [u] w :=
 h.cutL (by simp [bndL,hv]) hc
def closedB (H : Heap) : Bool:=H.all fun o => match o with
 | some cs => bndL H.length cs
 | none => true
theorem closedB_spec {H : Heap} (h : closedB H = true) : closedH H:=fun o cs ho => by
 have:=List.all_eq_true.1 h _ (List.mem_of_getElem? ho)
 exact this
def gcut (n : Option Nat) (e : Env) (H : Heap) : Heap :=
 match n with
 | some n => if n <= H.length /\ bndL n (e.map (·.2)) = true /\ closedB (H.take n) = true then H.take n else H
 | none => H
theorem look_mem {e : Env} {t : Tmp} : look e t = .undef \/ look e t ∈ e.map (·.2):=by
 induction e with
 | nil => exact .inl rfl
 | cons p e ih =>
  obtain ⟨k,v⟩:=p
  simp only [look]
  split
  ·exact .inr (by simp)
  ·rcases ih with h | h
   ·exact .inl h
   ·exact .inr (by simp only [List.map_cons,List.mem_cons]; exact .inr h)
theorem gcut_ok {G0 : Gh} {w0 : World} {n : Nat} {env : Env} {H : Heap} {a : Act} (k : Option Nat) (hs : SRel F G n env H a w) (he : Ext F G0 w0 G w) (h0 : k = none \/ G0.obs = []) :
  ∃ G',SRel F G' n env (gcut k env H) a w /\ Ext F G0 w0 G' w:=by
 cases k with
 | none => exact ⟨G,hs,he⟩
 | some k =>
  have h0 : G0.obs = []:=h0.resolve_left (by simp)
  simp only [gcut]
  split
  ·rename_i hc
   obtain ⟨h1,h2,h3⟩:=hc
   have hl : (H.take k).length = k:=by simp; omega
   have hcr:=hs.c
   rw [<- List.take_append_drop k H] at hcr
   have:=hcr.cutL (by
    rw [hl,bndL_iff]
    intro v hv
    obtain ⟨t,_,rfl⟩:=List.mem_map.1 hv
    rcases look_mem (e:=env) (t:=t) with h | h
    ·rw [h]; rfl
    ·exact bndL_iff.1 h2 _ h) (closedB_spec h3)
   refine ⟨_,⟨hs.size,hs.defers,hs.out,this⟩,he.size,⟨fun o b ho => by rw [h0] at ho; simp at ho,he.keeps.shape,he.keeps.sp,he.keeps.safe⟩,he.kind,he.cells,he.io⟩
  ·exact ⟨G,hs,he⟩
end
end Go.AI
