/- Changes of the memory: a new object, a store, a load that takes, a new list, an append in place. -/
import Derived.Test.YtofajkggflobkaaGreatDoorAiG
set_option linter.unusedSimpArgs false
set_option linter.unusedVariables false
namespace Go.AI
section
variable {P : Program} {F : Nat -> Prop} {G : Gh} {w : World} {H : Heap} {vals : List AV} {us : List Value}
theorem getElem?_append_some {α : Type} {l l' : List α} {i : Nat} {a : α} (h : l[i]? = some a) : (l ++ l')[i]? = some a:=by
 rw [List.getElem?_append_left (List.getElem?_eq_some_iff.1 h).1]; exact h
def Gh.newK (G : Gh) (n : Nat) (k : Kind) : Gh:={ (G.setKind n k) with obs:=G.obs ++ [n] }
abbrev Gh.newObj (G : Gh) (n : Nat) : Gh:=G.newK n .obj
theorem Gh.newK_kind_ne (G : Gh) {n b : Nat} (k : Kind) (h : b ≠ n) : (G.newK n k).kind b = G.kind b:=G.kind_set_ne k h
theorem Gh.newObj_kind_ne (G : Gh) {n b : Nat} (h : b ≠ n) : (G.newObj n).kind b = G.kind b:=G.kind_set_ne .obj h
theorem ext_newK (hF : ∀ b,F b -> b < w.heap.size) (o : Obj) (k : Kind) : Ext F G w (G.newK w.heap.size k) (w.alloc o) :=
 ext_alloc o k hF (G.obs ++ [w.heap.size]) fun _ _ h => getElem?_append_some h
theorem ext_newObj (hF : ∀ b,F b -> b < w.heap.size) (o : Obj) : Ext F G w (G.newObj w.heap.size) (w.alloc o):=ext_newK hF o .obj
def btoks (cs : List AV) : Obj -> List Nat
 | .cells C _ _ => (cs.zip C.toList).filterMap tok
 | _ => []
theorem otoks_eq {G : Gh} {H : Heap} {w : World} {o b : Nat} {cs : List AV} {ob : Obj} (h1 : H[o]? = some (some cs)) (h2 : G.obs[o]? = some b) (h3 : w.heap[b]? = some ob) : otoks G H w o = btoks cs ob:=by
 unfold otoks btoks
 simp only [h1,h2,h3]
 cases ob <;> rfl
theorem CRel.newG (h : CRel F G vals H us w) (k : Kind) (ob : Obj) (cs : List AV)
  (his : ORel F (G.newK w.heap.size k) (w.alloc ob) cs w.heap.size) {vs : List AV} {us' : List Value}
  (hv : LRel F (G.newK w.heap.size k) vs us' (w.alloc ob)) (hn : ∀ b,(btoks cs ob).count b + tcnt b vs us' <= tcnt b vals us) :
  CRel F (G.newK w.heap.size k) vs (H ++ [some cs]) us' (w.alloc ob):=by
 have he:=ext_newK (G:=G) h.h.fore ob k
 have hlen:=h.h.len
 have old : ∀ b,b < w.heap.size -> (G.newK w.heap.size k).kind b = G.kind b /\ (w.alloc ob).heap[b]? = w.heap[b]?:=fun b hb =>
  ⟨G.newK_kind_ne k (Nat.ne_of_lt hb),heap_alloc_lt _ hb⟩
 have hnew : (w.alloc ob).heap[w.heap.size]? = some ob:=heap_alloc_new w ob
 have hat : ∀ (o b : Nat) (cs' : List AV),(H ++ [some cs])[o]? = some (some cs') -> (G.newK w.heap.size k).obs[o]? = some b ->
   (H[o]? = some (some cs') /\ G.obs[o]? = some b) \/ (o = H.length /\ cs' = cs /\ b = w.heap.size):=by
  intro o b cs' h1 h2
  have hlt:=(List.getElem?_eq_some_iff.1 h1).1
  simp only [List.length_append,List.length_cons,List.length_nil] at hlt
  by_cases ho : o < H.length
  ·refine .inl ⟨by rw [List.getElem?_append_left ho] at h1; exact h1, ?_⟩
   rw [show (G.newK w.heap.size k).obs = G.obs ++ [w.heap.size] from rfl,List.getElem?_append_left (by omega)] at h2
   exact h2
  ·have : o = H.length:=by omega
   subst this
   rw [List.getElem?_append_right (by omega)] at h1
   rw [show (G.newK w.heap.size k).obs = G.obs ++ [w.heap.size] from rfl,List.getElem?_append_right (by omega)] at h2
   simp only [Nat.sub_self,List.getElem?_cons_zero,Option.some.injEq] at h1
   rw [hlen] at h2
   simp only [Nat.sub_self,List.getElem?_cons_zero,Option.some.injEq] at h2
   exact .inr ⟨rfl,h1.symm,h2.symm⟩
 refine ⟨hv,⟨?_,fun o cs' b h1 h2 => ?_,fun o o' cs1 cs2 b h1 h2 h3 h4 => ?_,fun b hb => Nat.lt_of_lt_of_le (h.h.fore b hb) he.size,h.h.glob.keep he.keeps⟩,fun b => ?_⟩
 ·show (G.obs ++ [w.heap.size]).length = _
  simp [hlen]
 ·rcases hat o b cs' h1 h2 with ⟨g1,g2⟩ | ⟨rfl,rfl,rfl⟩
  ·have hb:=h.h.block_lt g1 g2
   refine (h.h.obj o cs' b g1 g2).keep he.keeps (h.h.obj o cs' b g1 g2).own (old b hb).1 (old b hb).2 fun C E _ i c x hi hx s3 => s3.keep fun b' hb' => ?_
   obtain ⟨t1,_,C2,E2,t3⟩:=s3.of_tok hb'
   exact ⟨t1,old b' (Array.getElem?_eq_some_iff.1 t3).1⟩
  ·exact his
 ·rcases hat o b cs1 h1 h3 with ⟨g1,g2⟩ | ⟨rfl,_,rfl⟩ <;> rcases hat o' _ cs2 h2 h4 with ⟨g3,g4⟩ | ⟨rfl,_,hb⟩
  ·exact h.h.inj _ _ _ _ _ g1 g3 g2 g4
  ·subst hb; exact absurd (h.h.block_lt g1 g2) (Nat.lt_irrefl _)
  ·exact absurd (h.h.block_lt g3 g4) (Nat.lt_irrefl _)
  ·rfl
 ·have hsum : hcnt (G.newK w.heap.size k) (H ++ [some cs]) (w.alloc ob) b = hcnt G H w b + (btoks cs ob).count b:=by
   unfold hcnt
   simp only [List.length_append,List.length_cons,List.length_nil,Nat.zero_add,List.range_succ,List.map_append,List.sum_append,List.map_cons,List.map_nil,List.sum_cons,List.sum_nil,Nat.add_zero]
   congr 1
   ·refine sum_range_congr fun o ho => ?_
    congr 1
    unfold otoks
    rw [List.getElem?_append_left ho,show (G.newK w.heap.size k).obs = G.obs ++ [w.heap.size] from rfl,List.getElem?_append_left (by omega)]
    cases g1 : H[o]? with
    | none => rfl
    | some x => cases x with
     | none => rfl
     | some cs' => cases g2 : G.obs[o]? with
      | none => rfl
      | some b' => simp only [(old b' (h.h.block_lt g1 g2)).2]
   ·congr 1
    refine otoks_eq (b:=w.heap.size) (by simp) ?_ hnew
    rw [show (G.newK w.heap.size k).obs = G.obs ++ [w.heap.size] from rfl,List.getElem?_append_right (by omega),hlen]
    simp
  rw [hsum]
  have h1:=h.cnt b
  have h2:=hn b
  omega
theorem CRel.newObj (h : CRel F G vals H us w) (cs : List AV) (C : Array Value) (E : TypeId) (hl : cs.length <= C.size)
  (hc : ∀ (i : Nat) (c : AV) (v : Value),cs[i]? = some c -> C[i]? = some v -> c.scalar = true /\ VRel G w c v /\ TokOk F G w (c,v))
  (hn : ∀ b,((cs.zip C.toList).filterMap tok).count b <= tcnt b vals us) {v : AV} {u : Value}
  (hv : VRel (G.newObj w.heap.size) (w.alloc (.cells C E)) v u) (ht : toks v u = []) :
  CRel F (G.newObj w.heap.size) [v] (H ++ [some cs]) [u] (w.alloc (.cells C E)):=by
 have he:=ext_newObj (G:=G) h.h.fore (.cells C E)
 refine h.newG .obj (.cells C E) cs (.row_of (fun hF => absurd (h.h.fore _ hF) (Nat.lt_irrefl _)) (G.kind_set _ _) ⟨C,E,heap_alloc_new w (.cells C E),hl,fun i c x hi hx => ?_⟩)
  (.cons hv (tok_nil_all ht F _ _) (.nil F _ _)) fun b => ?_
 ·obtain ⟨s1,s2,s3⟩:=hc i c x hi hx
  refine ⟨s1,s2.keep he.keeps,s3.keep fun b' hb' => ?_⟩
  obtain ⟨t1,_,C2,E2,t3⟩:=s3.of_tok hb'
  have hlt:=(Array.getElem?_eq_some_iff.1 t3).1
  exact ⟨t1,G.newObj_kind_ne (Nat.ne_of_lt hlt),heap_alloc_lt _ hlt⟩
 ·rw [tcnt_cons,tcnt_nil,ht,List.count_nil]
  exact hn b
theorem CRel.setObj (h : CRel F G vals H us w) {o b : Nat} {cs cs' : List AV} (ho : H[o]? = some (some cs)) (hb : G.obs[o]? = some b) {C C' : Array Value} {E : TypeId} (hrow : w.heap[b]? = some (.cells C E (0,0)))
  (hsize : C'.size = C.size) (hl : cs'.length <= C'.size)
  (hc : ∀ (i : Nat) (c : AV) (v : Value),cs'[i]? = some c -> C'[i]? = some v -> c.scalar = true /\ VRel G w c v /\ TokOk F G w (c,v)) {vs : List AV} {us' : List Value}
  (hvs : LRel F G vs us' w)
  (hn : ∀ x,tcnt x vs us' + ((cs'.zip C'.toList).filterMap tok).count x <= tcnt x vals us + ((cs.zip C.toList).filterMap tok).count x) :
  CRel F G vs (H.set o (some cs')) us' (w.setRow b C') /\ Ext F G w G (w.setRow b C'):=by
 have hkind:=((h.h.obj o cs b ho hb).of_cells hrow).1
 have hnF:=(h.h.obj o cs b ho hb).own
 have hlen:=h.h.len
 have holt : o < H.length:=(List.getElem?_eq_some_iff.1 ho).1
 have he : Ext F G w G (w.setRow b C'):=by
  refine ⟨by simp,⟨fun _ _ h => h,fun b' C2 E2 h2 => ?_,fun _ hb' _ => ⟨by simpa using hb',rfl⟩,fun b' off v hs hcell => ⟨hs, ?_⟩⟩,fun _ _ => rfl,fun b' hb' => setRow_other w b b' C' (fun e => hnF (e ▸ hb')),⟨rfl,rfl,rfl⟩⟩
  ·by_cases hbb : b' = b
   ·subst hbb
    rw [hrow] at h2; cases h2
    exact ⟨C',setRow_heap w b' C C' E _ hrow,hsize⟩
   ·exact ⟨C2,by rw [setRow_other w b b' C' hbb]; exact h2,rfl⟩
  ·by_cases hbb : b' = b
   ·subst hbb
    simp [Gh.safe,hkind] at hs
   ·rw [cell_setRow_other w b C' _ hbb]; exact hcell
 have hother : ∀ b',b' ≠ b -> (w.setRow b C').heap[b']? = w.heap[b']?:=fun b' hne => setRow_other w b b' C' hne
 have htokne : ∀ {p : AV × Value} {x : Nat},TokOk F G w p -> tok p = some x -> x ≠ b:=fun hp hx hxb => by
  obtain ⟨_,⟨q,hq⟩,_⟩:=hp.of_tok hx
  rw [hxb,hkind] at hq; cases hq
 have htk : ∀ {p : AV × Value},TokOk F G w p -> TokOk F G (w.setRow b C') p:=fun hp => hp.keep fun x hx => ⟨(hp.of_tok hx).1,rfl,hother x (htokne hp hx)⟩
 have hset : ∀ (o' : Nat) (cs2 : List AV),(H.set o (some cs'))[o']? = some (some cs2) -> (o' = o /\ cs2 = cs') \/ (o' ≠ o /\ H[o']? = some (some cs2)):=by
  intro o' cs2 h2
  rw [List.getElem?_set] at h2
  split at h2
  ·rename_i heq
   subst heq
   simp [holt] at h2
   exact .inl ⟨rfl,h2.symm⟩
  ·rename_i hne
   exact .inr ⟨fun e => hne e.symm,h2⟩
 have hnew : (w.setRow b C').heap[b]? = some (.cells C' E (0,0)):=setRow_heap w b C C' E _ hrow
 have hinj : ∀ o' cs2,o' ≠ o -> H[o']? = some (some cs2) -> G.obs[o']? ≠ some b:=fun o' cs2 hne h2 h3 => hne (h.h.inj o' o cs2 cs b h2 ho h3 hb)
 refine ⟨⟨⟨hvs.len,fun i a u h1 h2 => (hvs.rel i a u h1 h2).keep he.keeps,fun i a u h1 h2 p hp => htk (hvs.tok i a u h1 h2 p hp)⟩,⟨by simp [hlen],fun o' cs2 b2 h2 h3 => ?_,fun o1 o2 c1 c2 b2 h1 h2 h3 h4 => ?_,fun b' hF => by simpa using h.h.fore b' hF,h.h.glob.keep he.keeps⟩,fun x => ?_⟩,he⟩
 ·rcases hset o' cs2 h2 with ⟨rfl,rfl⟩ | ⟨hne,h2'⟩
  ·rw [hb] at h3; cases h3
   refine .row_of hnF hkind ⟨C',E,hnew,hl,fun i c v hi hv => ?_⟩
   obtain ⟨s1,s2,s3⟩:=hc i c v hi hv
   exact ⟨s1,s2.keep he.keeps,htk s3⟩
  ·have hbne : b2 ≠ b:=fun e => hinj o' cs2 hne h2' (e ▸ h3)
   exact (h.h.obj o' cs2 b2 h2' h3).keep he.keeps (h.h.obj o' cs2 b2 h2' h3).own rfl (hother b2 hbne) fun _ _ _ _ _ _ _ _ s3 => htk s3
 ·rcases hset o1 c1 h1 with ⟨rfl,rfl⟩ | ⟨hne1,h1'⟩ <;> rcases hset o2 c2 h2 with ⟨rfl,rfl⟩ | ⟨hne2,h2'⟩
  ·rfl
  ·exact (h.h.inj o2 o1 c2 cs b2 h2' ho h4 h3).symm
  ·exact h.h.inj o1 o2 c1 cs b2 h1' ho h3 h4
  ·exact h.h.inj o1 o2 c1 c2 b2 h1' h2' h3 h4
 ·have hone:=sum_range_one (n:=H.length) (d:=o) (f:=fun o' => (otoks G (H.set o (some cs')) (w.setRow b C') o').count x) (g:=fun o' => (otoks G H w o').count x) holt (fun o' ho' hne => by
   congr 1
   unfold otoks
   rw [List.getElem?_set,if_neg (fun e => hne e.symm)]
   cases g1 : H[o']? with
   | none => rfl
   | some x2 => cases x2 with
    | none => rfl
    | some cs2 => cases g2 : G.obs[o']? with
     | none => rfl
     | some b2 => simp only [hother b2 (fun e => hinj o' cs2 hne g1 (e ▸ g2))])
  have e1 : otoks G (H.set o (some cs')) (w.setRow b C') o = (cs'.zip C'.toList).filterMap tok:=by
   unfold otoks
   rw [List.getElem?_set,if_pos rfl,if_pos holt]
   simp only [hb,hnew]
  have e2 : otoks G H w o = (cs.zip C.toList).filterMap tok:=by
   unfold otoks
   simp only [ho,hb,hrow]
  rw [e1,e2] at hone
  have h1:=h.cnt x
  have h2:=hn x
  unfold hcnt at h1 ⊢
  simp only [List.length_set]
  omega
end
end Go.AI
