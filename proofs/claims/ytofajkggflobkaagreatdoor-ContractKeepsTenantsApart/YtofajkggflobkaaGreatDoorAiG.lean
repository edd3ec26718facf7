/- The operations that do not change memory, and those that lay a new object, load or store. -/
import Derived.Test.YtofajkggflobkaaGreatDoorAiF
set_option linter.unusedSimpArgs false
set_option linter.unusedVariables false
namespace Go.AI
section
variable {P : Program} {F : Nat -> Prop} {G : Gh} {w : World} {H : Heap} {R : AV -> Heap -> Prop}
theorem cell_lt {a : Addr} {v : Value} (h : w.cell? a = some v) : a.block < w.heap.size:=World.block_lt_of_cell? w _ h
theorem heap_alloc_lt (o : Obj) {b : Nat} (h : b < w.heap.size) : (w.alloc o).heap[b]? = w.heap[b]?:=by
 simp only [World.alloc,Array.getElem?_push]
 rw [if_neg (Nat.ne_of_lt h)]
theorem size_alloc (o : Obj) : (w.alloc o).heap.size = w.heap.size + 1:=World.size_alloc w o
def Gh.setKind (G : Gh) (b : Nat) (k : Kind) : Gh:={ G with kind:=fun b' => if b' = b then k else G.kind b' }
theorem Gh.kind_set_ne (G : Gh) {b b' : Nat} (k : Kind) (h : b' ≠ b) : (G.setKind b k).kind b' = G.kind b':=by simp [Gh.setKind,h]
theorem Gh.kind_set (G : Gh) (b : Nat) (k : Kind) : (G.setKind b k).kind b = k:=by simp [Gh.setKind]
theorem Gh.safe_set_ne (G : Gh) {b b' o : Nat} (k : Kind) (h : b' ≠ b) : (G.setKind b k).safe b' o ↔ G.safe b' o:=by
 unfold Gh.safe
 rw [G.kind_set_ne k h]
theorem ext_alloc (o : Obj) (k : Kind) (hF : ∀ b,F b -> b < w.heap.size) (obs : List Nat) (ho : ∀ (i b : Nat),G.obs[i]? = some b -> obs[i]? = some b) :
  Ext F G w { (G.setKind w.heap.size k) with obs:=obs } (w.alloc o):=by
 refine ⟨by rw [size_alloc]; omega,⟨ho,fun b C E hb => ?_,fun b hb _ => ⟨by rw [size_alloc]; omega,G.kind_set_ne k (Nat.ne_of_lt hb)⟩,fun b off v hs hc => ?_⟩,fun b hb => ?_,fun b hb => ?_,⟨rfl,rfl,rfl⟩⟩
 ·have:=(Array.getElem?_eq_some_iff.1 hb).1
  exact ⟨C,by rw [heap_alloc_lt o this]; exact hb,rfl⟩
 ·have hlt:=cell_lt hc
  have hne : b ≠ w.heap.size:=Nat.ne_of_lt hlt
  exact ⟨(G.safe_set_ne k hne).2 hs,by rw [World.cell?_alloc_lt _ _ _ hlt]; exact hc⟩
 ·exact G.kind_set_ne k (Nat.ne_of_lt (hF b hb))
 ·exact heap_alloc_lt o (hF b hb)
theorem HRel.block_lt (h : HRel F G H w) {o : Nat} {cs : List AV} {b : Nat} (h1 : H[o]? = some (some cs)) (h2 : G.obs[o]? = some b) : b < w.heap.size:=by
 exact (h.obj o cs b h1 h2).lt
theorem HRel.ext {G' : Gh} {w' : World} {F' : Nat -> Prop} (h : HRel F G H w) (he : Ext F' G w G' w') (hobs : G'.obs = G.obs)
  (hk : ∀ b,(∃ (o : Nat) (cs : List AV),H[o]? = some (some cs) /\ G.obs[o]? = some b) \/ 0 < hcnt G H w b -> G'.kind b = G.kind b /\ w'.heap[b]? = w.heap[b]?) : HRel F G' H w':=by
 refine ⟨by rw [hobs]; exact h.len,fun o cs b h1 h2 => ?_,fun o o' cs cs' b h1 h2 h3 h4 => h.inj o o' cs cs' b h1 h2 (by rw [<- hobs]; exact h3) (by rw [<- hobs]; exact h4),fun b hb => Nat.lt_of_lt_of_le (h.fore b hb) he.size,h.glob.keep he.keeps⟩
 rw [hobs] at h2
 obtain ⟨k1,k2⟩:=hk b (.inl ⟨o,cs,h1,h2⟩)
 refine (h.obj o cs b h1 h2).keep he.keeps (h.obj o cs b h1 h2).own k1 k2 fun C E g2 i c v hc hv s3 => s3.keep fun b' ht => ?_
 have hp:=otoks_of h1 h2 g2 hc hv ht
 have hle:=hcnt_of (G:=G) (w:=w) (b:=b') (List.getElem?_eq_some_iff.1 h1).1
 obtain ⟨k3,k4⟩:=hk b' (.inr (by omega))
 exact ⟨(s3.of_tok ht).1,k3,k4⟩
theorem hcnt_ext {G' : Gh} {w' : World} (hobs : G'.obs = G.obs) (hk : ∀ (o : Nat) (cs : List AV) (b : Nat),H[o]? = some (some cs) -> G.obs[o]? = some b -> w'.heap[b]? = w.heap[b]?) (b : Nat) : hcnt G' H w' b = hcnt G H w b:=by
 refine sum_range_congr fun o ho => ?_
 congr 1
 unfold otoks
 rw [hobs]
 split
 ·rename_i cs b' h1 h2
  rw [hk o cs b' h1 h2]
 ·rfl
theorem CRel.alloc {vals : List AV} {us : List Value} (h : CRel F G vals H us w) (o : Obj) (k : Kind) : CRel F (G.setKind w.heap.size k) vals H us (w.alloc o):=by
 have he:=ext_alloc (F:=F) (G:=G) (w:=w) o k h.h.fore G.obs (fun _ _ h => h)
 have hne : ∀ b,b < w.heap.size -> (G.setKind w.heap.size k).kind b = G.kind b /\ (w.alloc o).heap[b]? = w.heap[b]?:=fun b hb => ⟨G.kind_set_ne k (Nat.ne_of_lt hb),heap_alloc_lt o hb⟩
 refine ⟨⟨h.l.len,fun i a u h1 h2 => (h.l.rel i a u h1 h2).keep he.keeps,fun i a u h1 h2 p hp => (h.l.tok i a u h1 h2 p hp).keep fun b hb => ?_⟩,h.h.ext he rfl fun b hb => ?_,fun b => ?_⟩
 ·obtain ⟨t1,_,C,E,t3⟩:=(h.l.tok i a u h1 h2 p hp).of_tok hb
  exact ⟨t1,hne b (Array.getElem?_eq_some_iff.1 t3).1⟩
 ·rcases hb with ⟨o',cs,h1,h2⟩ | hb
  ·exact hne b (h.h.block_lt h1 h2)
  ·obtain ⟨_,_,C,E,t3⟩:=h.h.tok_of_pos hb
   exact hne b (Array.getElem?_eq_some_iff.1 t3).1
 ·rw [hcnt_ext (G:=G) (w:=w) (G':=G.setKind w.heap.size k) rfl fun o' cs b' h1 h2 => (hne b' (h.h.block_lt h1 h2)).2]
  exact h.cnt b
theorem CRel.draw {vals : List AV} {us : List Value} (h : CRel F G vals H us w) : CRel F G vals H us w.drew :=
 have he : Ext F G w G w.drew:=⟨Nat.le_refl _,⟨fun _ _ h => h,fun b C E h => ⟨C,h,rfl⟩,fun _ h _ => ⟨h,rfl⟩,fun _ _ _ h1 h2 => ⟨h1,h2⟩⟩,fun _ _ => rfl,fun _ _ => rfl,⟨rfl,rfl,rfl⟩⟩
 ⟨⟨h.l.len,fun i a u h1 h2 => (h.l.rel i a u h1 h2).keep he.keeps,fun i a u h1 h2 p hp => (h.l.tok i a u h1 h2 p hp).keep fun b hb => ⟨((h.l.tok i a u h1 h2 p hp).of_tok hb).1,rfl,rfl⟩⟩,
  h.h.ext he rfl fun b _ => ⟨rfl,rfl⟩,h.cnt⟩
theorem ext_draw : Ext F G w G w.drew:=⟨Nat.le_refl _,⟨fun _ _ h => h,fun b C E h => ⟨C,h,rfl⟩,fun _ h _ => ⟨h,rfl⟩,fun _ _ _ h1 h2 => ⟨h1,h2⟩⟩,fun _ _ => rfl,fun _ _ => rfl,⟨rfl,rfl,rfl⟩⟩
end
end Go.AI
