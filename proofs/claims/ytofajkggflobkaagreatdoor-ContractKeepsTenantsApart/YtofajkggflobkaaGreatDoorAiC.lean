/- Parting a state and joining it again: what is not at hand is foreign meanwhile. -/
import Derived.Test.YtofajkggflobkaaGreatDoorAiB
set_option linter.unusedSimpArgs false
set_option linter.unusedVariables false
namespace Go.AI
theorem TokOk.weaken {F F' : Nat -> Prop} {G : Gh} {w : World} {p : AV × Value} (h : TokOk F' G w p) (hf : ∀ b,F b -> F' b) : TokOk F G w p :=
 (Option.eq_none_or_eq_some (tok p)).elim TokOk.of_none fun ⟨_,hb⟩ => h.keep fun b' hb' => by
  rw [hb] at hb'; cases hb'
  exact ⟨fun hF => (h.of_tok hb).1 (hf _ hF),rfl,rfl⟩
theorem LRel.weaken {F F' : Nat -> Prop} {G : Gh} {w : World} {vs : List AV} {us : List Value} (h : LRel F' G vs us w) (hf : ∀ b,F b -> F' b) : LRel F G vs us w :=
 ⟨h.len,h.rel,fun i a u h1 h2 p hp => (h.tok i a u h1 h2 p hp).weaken hf⟩
theorem LRel.nil (F : Nat -> Prop) (G : Gh) (w : World) : LRel F G [] [] w:=⟨rfl,fun i a u h _ => by simp at h,fun i a u h _ => by simp at h⟩
theorem LRel.cons {F : Nat -> Prop} {G : Gh} {w : World} {a : AV} {u : Value} {vs : List AV} {us : List Value} (h : VRel G w a u) (ht : ∀ p ∈ prs a u,TokOk F G w p) (hl : LRel F G vs us w) :
  LRel F G (a :: vs) (u :: us) w:=by
 refine ⟨by simp [hl.len],fun i x y h1 h2 => ?_,fun i x y h1 h2 => ?_⟩
 ·cases i with
  | zero => simp at h1 h2; subst h1; subst h2; exact h
  | succ i => exact hl.rel i x y (by simpa using h1) (by simpa using h2)
 ·cases i with
  | zero => simp at h1 h2; subst h1; subst h2; exact ht
  | succ i => exact hl.tok i x y (by simpa using h1) (by simpa using h2)
theorem LRel.uncons {F : Nat -> Prop} {G : Gh} {w : World} {a : AV} {u : Value} {vs : List AV} {us : List Value} (h : LRel F G (a :: vs) (u :: us) w) :
  VRel G w a u /\ (∀ p ∈ prs a u,TokOk F G w p) /\ LRel F G vs us w :=
 ⟨h.rel 0 a u rfl rfl,h.tok 0 a u rfl rfl,by simpa using h.len,fun i x y h1 h2 => h.rel (i + 1) x y (by simpa using h1) (by simpa using h2),
  fun i x y h1 h2 => h.tok (i + 1) x y (by simpa using h1) (by simpa using h2)⟩
theorem LRel.append {F : Nat -> Prop} {G : Gh} {w : World} {A B : List AV} {ua ub : List Value} (ha : LRel F G A ua w) (hb : LRel F G B ub w) : LRel F G (A ++ B) (ua ++ ub) w:=by
 have hl:=ha.len
 refine ⟨by simp [ha.len,hb.len],fun i x y h1 h2 => ?_,fun i x y h1 h2 => ?_⟩ <;> by_cases hi : i < A.length
 ·rw [List.getElem?_append_left hi] at h1; rw [List.getElem?_append_left (by omega)] at h2; exact ha.rel i x y h1 h2
 ·rw [List.getElem?_append_right (by omega)] at h1; rw [List.getElem?_append_right (by omega)] at h2
  exact hb.rel (i - A.length) x y h1 (by rw [hl]; exact h2)
 ·rw [List.getElem?_append_left hi] at h1; rw [List.getElem?_append_left (by omega)] at h2; exact ha.tok i x y h1 h2
 ·rw [List.getElem?_append_right (by omega)] at h1; rw [List.getElem?_append_right (by omega)] at h2
  exact hb.tok (i - A.length) x y h1 (by rw [hl]; exact h2)
theorem LRel.split {F : Nat -> Prop} {G : Gh} {w : World} {A B : List AV} {ua ub : List Value} (h : LRel F G (A ++ B) (ua ++ ub) w) (hl : A.length = ua.length) :
  LRel F G A ua w /\ LRel F G B ub w:=by
 have hlen:=h.len
 simp only [List.length_append] at hlen
 refine ⟨⟨hl,fun i x y h1 h2 => ?_,fun i x y h1 h2 => ?_⟩,⟨by omega,fun i x y h1 h2 => ?_,fun i x y h1 h2 => ?_⟩⟩
 ·have:=(List.getElem?_eq_some_iff.1 h1).1
  exact h.rel i x y (by rw [List.getElem?_append_left this]; exact h1) (by rw [List.getElem?_append_left (by omega)]; exact h2)
 ·have:=(List.getElem?_eq_some_iff.1 h1).1
  exact h.tok i x y (by rw [List.getElem?_append_left this]; exact h1) (by rw [List.getElem?_append_left (by omega)]; exact h2)
 ·exact h.rel (A.length + i) x y (by rw [List.getElem?_append_right (by omega),Nat.add_sub_cancel_left]; exact h1) (by rw [List.getElem?_append_right (by omega),hl,Nat.add_sub_cancel_left]; exact h2)
 ·exact h.tok (A.length + i) x y (by rw [List.getElem?_append_right (by omega),Nat.add_sub_cancel_left]; exact h1) (by rw [List.getElem?_append_right (by omega),hl,Nat.add_sub_cancel_left]; exact h2)
theorem LRel.tok_of_pos {F : Nat -> Prop} {G : Gh} {w : World} {vs : List AV} {us : List Value} (h : LRel F G vs us w) {b : Nat} (hb : 0 < tcnt b vs us) :
  ¬ F b /\ (∃ q,G.kind b = .buf q) /\ ∃ (C : Array Value) (E : TypeId),w.heap[b]? = some (.cells C E (0,0)):=by
 obtain ⟨i,a,u,h1,h2,p,hp,ht⟩:=tcnt_pos vs us hb
 exact (h.tok i a u h1 h2 p hp).of_tok ht
theorem tcnt_of_tok {b : Nat} {vs : List AV} {us : List Value} {i : Nat} {a : AV} {u : Value} (h1 : vs[i]? = some a) (h2 : us[i]? = some u) {p : AV × Value} (hp : p ∈ prs a u) (ht : tok p = some b) :
  0 < tcnt b vs us:=by
 have h3 : 0 < (toks a u).count b:=List.count_pos_iff.2 (List.mem_filterMap.2 ⟨p,hp,ht⟩)
 have:=count_le_tcnt b vs us i a u h1 h2
 omega
theorem LRel.ext {F F' : Nat -> Prop} {G G' : Gh} {w w' : World} {vs : List AV} {us : List Value} (h : LRel F G vs us w) (he : Ext F' G w G' w') (hf : ∀ b,0 < tcnt b vs us -> F' b) : LRel F G' vs us w' :=
 ⟨h.len,fun i a u h1 h2 => (h.rel i a u h1 h2).keep he.keeps,fun i a u h1 h2 p hp => (h.tok i a u h1 h2 p hp).keep fun b hb =>
  have hF:=hf b (tcnt_of_tok h1 h2 hp hb)
  ⟨((h.tok i a u h1 h2 p hp).of_tok hb).1,he.kind b hF,he.cells b hF⟩⟩
theorem otoks_pos {G : Gh} {H : Heap} {w : World} {o b : Nat} (h : 0 < (otoks G H w o).count b) :
  ∃ (cs : List AV) (b0 : Nat) (C : Array Value) (E : TypeId) (fr : Nat × Nat) (i : Nat) (c : AV) (v : Value),H[o]? = some (some cs) /\ G.obs[o]? = some b0 /\ w.heap[b0]? = some (.cells C E fr) /\
   cs[i]? = some c /\ C[i]? = some v /\ tok (c,v) = some b:=by
 have hm:=List.count_pos_iff.1 h
 unfold otoks at hm
 split at hm
 ·rename_i cs b0 h1 h2
  split at hm
  ·rename_i C E fr h3
   obtain ⟨p,hp,ht⟩:=List.mem_filterMap.1 hm
   obtain ⟨i,hi⟩:=List.getElem?_of_mem hp
   rw [List.getElem?_zip_eq_some] at hi
   exact ⟨cs,b0,C,E,fr,i,p.1,p.2,h1,h2,h3,hi.1,by simpa using hi.2,ht⟩
  ·cases hm
 ·cases hm
theorem otoks_of {G : Gh} {H : Heap} {w : World} {o b : Nat} {cs : List AV} {b0 : Nat} {C : Array Value} {E : TypeId} {fr : Nat × Nat} {i : Nat} {c : AV} {v : Value}
  (h1 : H[o]? = some (some cs)) (h2 : G.obs[o]? = some b0) (h3 : w.heap[b0]? = some (.cells C E fr)) (h4 : cs[i]? = some c) (h5 : C[i]? = some v) (h6 : tok (c,v) = some b) :
  0 < (otoks G H w o).count b:=by
 refine List.count_pos_iff.2 ?_
 unfold otoks
 simp only [h1,h2,h3]
 refine List.mem_filterMap.2 ⟨(c,v),List.mem_of_getElem? (i:=i) ?_,h6⟩
 rw [List.getElem?_zip_eq_some]
 exact ⟨h4,by simpa using h5⟩
theorem sum_range_pos {n : Nat} {f : Nat -> Nat} (h : 0 < ((List.range n).map f).sum) : ∃ o,o < n /\ 0 < f o:=by
 induction n with
 | zero => simp at h
 | succ n ih =>
  rw [List.range_succ,List.map_append,List.sum_append] at h
  simp only [List.map_cons,List.map_nil,List.sum_cons,List.sum_nil,Nat.add_zero] at h
  by_cases h0 : 0 < f n
  ·exact ⟨n,by omega,h0⟩
  ·obtain ⟨o,ho,hf⟩:=ih (by omega)
   exact ⟨o,by omega,hf⟩
theorem le_sum_range {n : Nat} {f : Nat -> Nat} {o : Nat} (h : o < n) : f o <= ((List.range n).map f).sum:=by
 induction n with
 | zero => omega
 | succ n ih =>
  rw [List.range_succ,List.map_append,List.sum_append]
  simp only [List.map_cons,List.map_nil,List.sum_cons,List.sum_nil,Nat.add_zero]
  by_cases h0 : o = n
  ·subst h0; omega
  ·have:=ih (by omega); omega
theorem sum_range_congr {n : Nat} {f g : Nat -> Nat} (h : ∀ o,o < n -> f o = g o) : ((List.range n).map f).sum = ((List.range n).map g).sum:=by
 congr 1
 exact List.map_congr_left fun o ho => h o (List.mem_range.1 ho)
theorem sum_range_one {n : Nat} {f g : Nat -> Nat} {d : Nat} (hd : d < n) (h : ∀ o,o < n -> o ≠ d -> f o = g o) : ((List.range n).map f).sum + g d = ((List.range n).map g).sum + f d:=by
 induction n with
 | zero => omega
 | succ n ih =>
  simp only [List.range_succ,List.map_append,List.sum_append,List.map_cons,List.map_nil,List.sum_cons,List.sum_nil,Nat.add_zero]
  by_cases h0 : d = n
  ·subst h0
   have : ((List.range d).map f).sum = ((List.range d).map g).sum:=sum_range_congr fun o ho => h o (by omega) (by omega)
   omega
  ·have:=ih (by omega) (fun o ho hne => h o (by omega) hne)
   have:=h n (by omega) (fun e => h0 e.symm)
   omega
theorem hcnt_pos {G : Gh} {H : Heap} {w : World} {b : Nat} (h : 0 < hcnt G H w b) : ∃ o,o < H.length /\ 0 < (otoks G H w o).count b:=sum_range_pos h
theorem hcnt_of {G : Gh} {H : Heap} {w : World} {b o : Nat} (ho : o < H.length) : (otoks G H w o).count b <= hcnt G H w b:=le_sum_range (f:=fun o => (otoks G H w o).count b) ho
theorem HRel.tok_of_pos {F : Nat -> Prop} {G : Gh} {H : Heap} {w : World} (h : HRel F G H w) {b : Nat} (hb : 0 < hcnt G H w b) :
  ¬ F b /\ (∃ q,G.kind b = .buf q) /\ ∃ (C : Array Value) (E : TypeId),w.heap[b]? = some (.cells C E (0,0)):=by
 obtain ⟨o,_,hp⟩:=hcnt_pos hb
 obtain ⟨cs,b0,C,E,fr,i,c,v,h1,h2,h3,h4,h5,h6⟩:=otoks_pos hp
 obtain ⟨C',E',g1,_,g3⟩:=((h.obj o cs b0 h1 h2).of_cells h3).2
 rw [h3] at g1
 cases g1
 exact (g3 i c v h4 h5).2.2.of_tok h6
theorem CRel.split {F : Nat -> Prop} {G : Gh} {A B : List AV} {H : Heap} {ua ub : List Value} {w : World} (h : CRel F G (A ++ B) H (ua ++ ub) w) (hl : A.length = ua.length) :
  CRel (fun b => F b \/ 0 < tcnt b B ub) G A H ua w:=by
 obtain ⟨ha,hb⟩:=h.l.split hl
 have hc : ∀ b,tcnt b A ua + tcnt b B ub + hcnt G H w b <= 1:=fun b => by have:=h.cnt b; rw [tcnt_append b A ua B ub hl] at this; exact this
 refine ⟨⟨hl,ha.rel,fun i a u h1 h2 p hp => ?_⟩,⟨h.h.len,fun o cs b h1 h2 => ?_,h.h.inj,fun b hF => ?_,h.h.glob⟩,fun b => by have:=hc b; omega⟩
 ·refine (Option.eq_none_or_eq_some (tok p)).elim TokOk.of_none fun ⟨b,hb'⟩ => (ha.tok i a u h1 h2 p hp).keep fun b' ht => ⟨?_,rfl,rfl⟩
  have:=tcnt_of_tok h1 h2 hp ht
  have:=hc b'
  rintro (hF | hF)
  ·exact ((ha.tok i a u h1 h2 p hp).of_tok ht).1 hF
  ·omega
 ·have ho:=h.h.obj o cs b h1 h2
  refine ho.change ?_ fun C E g1 i c v hc1 hv1 hto => ?_
  ·rintro (hF | hF)
   ·exact ho.own hF
   ·obtain ⟨_,⟨q,hq⟩,_⟩:=hb.tok_of_pos hF
    exact ho.no_buf hq
  ·refine hto.keep fun b' ht => ⟨?_,rfl,rfl⟩
   have h5:=otoks_of h1 h2 g1 hc1 hv1 ht
   have h6:=hcnt_of (G:=G) (w:=w) (b:=b') (List.getElem?_eq_some_iff.1 h1).1
   have:=hc b'
   rintro (hF | hF)
   ·exact (hto.of_tok ht).1 hF
   ·omega
 ·rcases hF with hF | hF
  ·exact h.h.fore b hF
  ·obtain ⟨_,_,C,E,hh⟩:=hb.tok_of_pos hF
   exact (Array.getElem?_eq_some_iff.1 hh).1
theorem HRel.weaken {F F' : Nat -> Prop} {G : Gh} {H : Heap} {w : World} (h : HRel F' G H w) (hf : ∀ b,F b -> F' b) : HRel F G H w:=by
 refine ⟨h.len,fun o cs b h1 h2 => ?_,h.inj,fun b hb => h.fore b (hf b hb),h.glob⟩
 have ho:=h.obj o cs b h1 h2
 exact ho.change (fun hF => ho.own (hf b hF)) fun _ _ _ _ _ _ _ _ hto => hto.weaken hf
theorem CRel.join {F F' : Nat -> Prop} {G G' : Gh} {B vs : List AV} {H' : Heap} {ub us : List Value} {w w' : World} (hb : LRel F G B ub w) (hcb : ∀ b,tcnt b B ub <= 1)
  (hF : ∀ b,F b -> F' b) (hFB : ∀ b,0 < tcnt b B ub -> F' b) (he : Ext F' G w G' w') (h : CRel F' G' vs H' us w') : CRel F G' (vs ++ B) H' (us ++ ub) w':=by
 refine ⟨(h.l.weaken hF).append (hb.ext he hFB),h.h.weaken hF,fun b => ?_⟩
 rw [tcnt_append b vs us B ub h.l.len]
 by_cases h0 : 0 < tcnt b B ub
 ·have hFb:=hFB b h0
  have h1 : ¬ 0 < tcnt b vs us:=fun hp => (h.l.tok_of_pos hp).1 hFb
  have h2 : ¬ 0 < hcnt G' H' w' b:=fun hp => (h.h.tok_of_pos hp).1 hFb
  have:=hcb b
  omega
 ·have:=h.cnt b; omega
end Go.AI
