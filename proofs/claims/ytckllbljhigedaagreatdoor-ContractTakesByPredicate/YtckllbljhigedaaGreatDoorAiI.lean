/- Lists: a new one, an append in place, an append that moves. -/
import Derived.Test.YtckllbljhigedaaGreatDoorAiH
set_option linter.unusedSimpArgs false
set_option linter.unusedVariables false
namespace Go.AI
section
variable {P : Program} {F : Nat -> Prop} {G : Gh} {w : World} {H : Heap} {vals : List AV} {us : List Value}
theorem cat_length {es : List AV} {n : Nat} (h : ∀ e ∈ es,e.cells.length = n) : (cat es).length = es.length * n:=by
 induction es with
 | nil => simp [cat]
 | cons e es ih =>
  have h1:=h e (by simp)
  have h2:=ih fun x hx => h x (by simp [hx])
  simp only [cat,List.flatMap_cons,List.length_append,List.length_cons] at h2 ⊢
  rw [h1,h2,Nat.succ_mul]
  omega
theorem cat_append (es fs : List AV) : cat (es ++ fs) = cat es ++ cat fs:=by simp [cat]
theorem toks_sl (own : Option Nat) (es : List AV) (b q len cap : Nat) : toks (.sl own es) (.slice (some ⟨b,q,none⟩) len cap) = (tok (.sl own es,.slice (some ⟨b,q,none⟩) len cap)).toList:=by
 simp only [toks,prs,AV.flat,AV.cells,vflat,Value.cells,List.zip_cons_cons,List.zip_nil_right,List.filterMap_cons,List.filterMap_nil]
 cases tok (AV.sl own es,Value.slice (some ⟨b,q,none⟩) len cap) <;> rfl
theorem prs_sl (own : Option Nat) (es : List AV) (u : Value) (a : Option Addr) (len cap : Nat) (hu : u = .slice a len cap) : prs (.sl own es) u = [(.sl own es,u)]:=by
 subst hu; rfl
theorem CRel.newList (h : CRel F G vals H us w) (es : List AV) (n cap : Nat) (C : Array Value) (E : TypeId) (hn0 : 0 < n) (hsz : ∀ e ∈ es,e.cells.length = n) (hl : es.length <= cap) (hm : cap <= maxLen)
  (hcap : cap * n <= C.size) (hc : ∀ (i : Nat) (c : AV),(cat es)[i]? = some c -> c.scalar = true /\ ∃ v,C[i]? = some v /\ VRel G w c v) :
  ∃ G',CRel F G' [.sl (some n) es] H [.slice (some ⟨w.heap.size,0,none⟩) es.length cap] (w.alloc (.cells C E)) /\ Ext F G w G' (w.alloc (.cells C E)):=by
 have h1:=h.alloc (.cells C E) (.buf (es.length * n))
 have he:=ext_alloc (F:=F) (G:=G) (w:=w) (.cells C E) (.buf (es.length * n)) h.h.fore G.obs (fun _ _ h => h)
 have hnew : (w.alloc (.cells C E)).heap[w.heap.size]? = some (.cells C E (0,0)):=heap_alloc_new w (.cells C E)
 have hsafe : ∀ i,i < (cat es).length -> (G.setKind w.heap.size (.buf (es.length * n))).safe w.heap.size i:=fun i hi => by
  rw [cat_length hsz] at hi
  simp [Gh.safe,Gh.kind_set,hi]
 have hcell : ∀ (i : Nat) (v : Value),C[i]? = some v -> (w.alloc (.cells C E)).cell? ⟨w.heap.size,0 + i,none⟩ = some v:=fun i v hv => by
  rw [Nat.zero_add,cell_of_row _ _ i C E _ hnew]; exact hv
 let u : Nat -> Value:=fun i => (C[i]?).getD Go.undef
 refine ⟨_,⟨.cons ?_ (fun p hp => ?_) (.nil F _ _),h1.h,fun b => ?_⟩,he⟩
 ·refine .sl (some n) es n w.heap.size 0 cap u hsz (fun m hm => by cases hm; exact ⟨rfl,hn0⟩) hl hm (fun i c hi => ?_) (fun i c hi => ?_)
  ·obtain ⟨s1,v,s2,s3⟩:=hc i c hi
   refine ⟨s1, ?_, ?_⟩
   ·rw [Nat.zero_add]; exact hsafe i (List.getElem?_eq_some_iff.1 hi).1
   ·rw [hcell i v s2]; simp [u,s2]
  ·obtain ⟨s1,v,s2,s3⟩:=hc i c hi
   have : u i = v:=by simp [u,s2]
   rw [this]
   exact s3.keep he.keeps
 ·rw [prs_sl _ _ _ _ _ _ rfl] at hp
  simp only [List.mem_singleton] at hp
  subst hp
  intro _
  refine ⟨fun hF => absurd (h.h.fore _ hF) (Nat.lt_irrefl _), ?_,C,E,hnew,by simpa using hcap⟩
  simp [Gh.kind_set]
 ·rw [tcnt_cons,tcnt_nil,toks_sl]
  by_cases hb : b = w.heap.size
  ·subst hb
   have h0 : ¬ 0 < hcnt (G.setKind w.heap.size (.buf (es.length * n))) H (w.alloc (.cells C E)) w.heap.size:=fun hp => by
    rw [hcnt_ext (G:=G) (w:=w) (G':=G.setKind w.heap.size (.buf (es.length * n))) rfl fun o' cs b' h1 h2 => heap_alloc_lt _ (h.h.block_lt h1 h2)] at hp
    obtain ⟨_,_,C',E',hh⟩:=h.h.tok_of_pos hp
    exact absurd (Array.getElem?_eq_some_iff.1 hh).1 (Nat.lt_irrefl _)
   have : ((tok (AV.sl (some n) es,Value.slice (some ⟨w.heap.size,0,none⟩) es.length cap)).toList).count w.heap.size <= 1:=by
    refine Nat.le_trans List.count_le_length ?_
    cases tok (AV.sl (some n) es,Value.slice (some ⟨w.heap.size,0,none⟩) es.length cap) <;> simp
   omega
  ·have h0 : ((tok (AV.sl (some n) es,Value.slice (some ⟨w.heap.size,0,none⟩) es.length cap)).toList).count b = 0:=by
    refine List.count_eq_zero.2 fun hmem => ?_
    simp only [tok] at hmem
    split at hmem
    ·simp at hmem; exact hb hmem
    ·simp at hmem
   have:=h1.cnt b
   omega
theorem CRel.appendIn (h : CRel F G vals H us w) {es xs : List AV} {n b q cap : Nat} {i0 : Nat} (hv : vals[i0]? = some (.sl (some n) es)) (hu : us[i0]? = some (.slice (some ⟨b,q,none⟩) es.length cap))
  (hroom : es.length + xs.length <= cap) (hpos : es.length < cap) (hxs : ∀ e ∈ xs,e.cells.length = n) (news : List Value) (hnl : news.length = xs.length * n)
  (hnew : ∀ (i : Nat) (c : AV),(cat xs)[i]? = some c -> c.scalar = true /\ ∃ v,news[i]? = some v /\ VRel G w c v)
  {C : Array Value} {E : TypeId} (hrow : w.heap[b]? = some (.cells C E (0,0))) :
  q + es.length * n + news.length <= C.size /\
  ∃ G',CRel F G' [.sl (some n) (es ++ xs)] H [.slice (some ⟨b,q,none⟩) (es.length + xs.length) cap] (w.setRow b (C.toList.take (q + es.length * n) ++ news ++ C.toList.drop (q + es.length * n + news.length)).toArray) /\
   Ext F G w G' (w.setRow b (C.toList.take (q + es.length * n) ++ news ++ C.toList.drop (q + es.length * n + news.length)).toArray):=by
 have htok:=h.l.tok i0 _ _ hv hu (.sl (some n) es,.slice (some ⟨b,q,none⟩) es.length cap) (by rw [prs_sl _ _ _ _ _ _ rfl]; simp)
 obtain ⟨hnF,hkind,C2,E2,hrow2,hfit⟩:=htok hpos
 replace hnF : ¬ F b:=hnF
 replace hkind : G.kind b = .buf (q + es.length * n):=hkind
 replace hrow2 : w.heap[b]? = some (.cells C2 E2 (0,0)):=hrow2
 replace hfit : q + cap * n <= C2.size:=hfit
 rw [hrow] at hrow2; cases hrow2
 have hrel:=h.l.rel i0 _ _ hv hu
 have htk0 : tok (AV.sl (some n) es,Value.slice (some ⟨b,q,none⟩) es.length cap) = some b:=by simp [tok,hpos]
 have hcnt1 : 0 < tcnt b vals us:=tcnt_of_tok hv hu (p:=(.sl (some n) es,.slice (some ⟨b,q,none⟩) es.length cap)) (by rw [prs_sl _ _ _ _ _ _ rfl]; simp) htk0
 have hlen : q + es.length * n + news.length <= C.size:=by
  have:=Nat.mul_le_mul_right n hroom
  rw [Nat.add_mul] at this
  omega
 refine ⟨hlen, ?_⟩
 let C' : Array Value:=(C.toList.take (q + es.length * n) ++ news ++ C.toList.drop (q + es.length * n + news.length)).toArray
 have hC' : C' = (C.toList.take (q + es.length * n) ++ news ++ C.toList.drop (q + es.length * n + news.length)).toArray:=rfl
 have hsize : C'.size = C.size:=by
  rw [hC']
  simp only [List.size_toArray,List.length_append,List.length_take,List.length_drop,Array.length_toList]
  omega
 have hlow : ∀ i,i < q + es.length * n -> C'[i]? = C[i]?:=fun i hi => by
  rw [hC']
  simp only [List.getElem?_toArray,List.append_assoc]
  rw [List.getElem?_append_left (by simp; omega),List.getElem?_take,if_pos hi]
  simp
 have hmid : ∀ i,i < news.length -> C'[q + es.length * n + i]? = news[i]?:=fun i hi => by
  rw [hC']
  simp only [List.getElem?_toArray,List.append_assoc]
  have ht : (C.toList.take (q + es.length * n)).length = q + es.length * n:=by simp; omega
  rw [List.getElem?_append_right (by omega),ht,Nat.add_sub_cancel_left,List.getElem?_append_left hi]
 rw [<- hC']
 let G' : Gh:=G.setKind b (.buf (q + (es.length + xs.length) * n))
 have hle : q + es.length * n <= q + (es.length + xs.length) * n:=by rw [Nat.add_mul]; omega
 have hrow' : (w.setRow b C').heap[b]? = some (.cells C' E (0,0)):=setRow_heap w b C C' E _ hrow
 have he : Ext F G w G' (w.setRow b C'):=by
  refine ⟨by simp,⟨fun _ _ h => h,fun b' C2 E2 h2 => ?_,fun b' hb' hs => ⟨by simpa using hb',G.kind_set_ne _ (fun e => by subst e; rw [hkind] at hs; cases hs)⟩,fun b' off v hs hcell => ?_⟩,fun b' hb' => G.kind_set_ne _ (fun e => hnF (e ▸ hb')),fun b' hb' => setRow_other w b b' C' (fun e => hnF (e ▸ hb')),⟨rfl,rfl,rfl⟩⟩
  ·by_cases hbb : b' = b
   ·subst hbb
    rw [hrow] at h2; cases h2
    exact ⟨C',hrow',hsize⟩
   ·exact ⟨C2,by rw [setRow_other w b b' C' hbb]; exact h2,rfl⟩
  ·by_cases hbb : b' = b
   ·subst hbb
    have hs' : off < q + es.length * n:=by simpa [Gh.safe,hkind] using hs
    refine ⟨by simp [Gh.safe,G',Gh.kind_set]; omega, ?_⟩
    rw [cell_of_row _ _ off C' E _ hrow',hlow off hs']
    rw [cell_of_row _ _ off C E _ hrow] at hcell
    exact hcell
   ·exact ⟨(G.safe_set_ne _ hbb).2 hs,by rw [cell_setRow_other w b C' _ hbb]; exact hcell⟩
 have hh0 : hcnt G H w b = 0:=by have:=h.cnt b; omega
 refine ⟨G',⟨.cons ?_ (fun p hp => ?_) (.nil F _ _),h.h.ext he rfl fun b' hb' => ?_,fun x => ?_⟩,he⟩
 · -- the longer list
  cases hrel with
  | slany => exact absurd hpos (by simp)
  | sl own es' sz b' q' cap' u hsz hown hl hm hcs hus =>
   have hn : n = sz:=(hown n rfl).1
   have hn0 : 0 < n:=(hown n rfl).2
   subst hn
   have hcl:=cat_length hsz
   have hcx:=cat_length hxs
   let u' : Nat -> Value:=fun i => if i < es.length * n then u i else (news[i - es.length * n]?).getD Go.undef
   have:=VRel.sl (G:=G') (w:=w.setRow b C') (some n) (es ++ xs) n b q cap u' (fun e he => by
     rcases List.mem_append.1 he with h1 | h1
     ·exact hsz e h1
     ·exact hxs e h1) (fun m hm => by cases hm; exact ⟨rfl,hn0⟩) (by simpa using hroom) hm (fun i c hi => ?_) (fun i c hi => ?_)
   ·simpa using this
   ·rw [cat_append] at hi
    by_cases hlt : i < es.length * n
    ·rw [List.getElem?_append_left (by omega)] at hi
     obtain ⟨s1,s2,s3⟩:=hcs i c hi
     obtain ⟨k1,k2⟩:=he.keeps.safe b (q + i) _ s2 s3
     exact ⟨s1,k1,by simp only [u',hlt,if_true]; exact k2⟩
    ·rw [List.getElem?_append_right (by omega),hcl] at hi
     obtain ⟨s1,v,s2,s3⟩:=hnew _ c hi
     have hlt2:=(List.getElem?_eq_some_iff.1 hi).1
     rw [hcx] at hlt2
     refine ⟨s1, ?_, ?_⟩
     ·simp only [Gh.safe,G',Gh.kind_set,Nat.add_mul]; omega
     ·rw [cell_of_row _ _ (q + i) C' E _ hrow']
      have e:=hmid (i - es.length * n) (by omega)
      rw [show q + es.length * n + (i - es.length * n) = q + i by omega] at e
      rw [e]
      simp only [u',hlt,if_false]
      rw [s2]; rfl
   ·rw [cat_append] at hi
    by_cases hlt : i < es.length * n
    ·rw [List.getElem?_append_left (by omega)] at hi
     simp only [u',hlt,if_true]
     exact (hus i c hi).keep he.keeps
    ·rw [List.getElem?_append_right (by omega),hcl] at hi
     obtain ⟨s1,v,s2,s3⟩:=hnew _ c hi
     simp only [u',hlt,if_false]
     rw [s2]
     exact s3.keep he.keeps
 ·rw [prs_sl _ _ _ _ _ _ rfl] at hp
  simp only [List.mem_singleton] at hp
  subst hp
  intro _
  exact ⟨hnF,by simp [G',Gh.kind_set],C',E,hrow',by show q + cap * n <= C'.size; omega⟩
 ·have hne : b' ≠ b:=by
   rcases hb' with ⟨o,cs,h1,h2⟩ | hb'
   ·intro e
    subst e
    exact (h.h.obj o cs b' h1 h2).no_buf hkind
   ·intro e; subst e; omega
  exact ⟨G.kind_set_ne _ hne,setRow_other w b b' C' hne⟩
 ·rw [tcnt_cons,tcnt_nil,toks_sl]
  have hhc : hcnt G' H (w.setRow b C') x = hcnt G H w x:=hcnt_ext rfl (fun o cs b' h1 h2 => setRow_other w b b' C' fun e => by
   subst e
   exact (h.h.obj o cs b' h1 h2).no_buf hkind) x
  rw [hhc]
  have hcx:=h.cnt x
  by_cases hx : x = b
  ·subst hx
   have : ((tok (AV.sl (some n) (es ++ xs),Value.slice (some ⟨x,q,none⟩) (es.length + xs.length) cap)).toList).count x <= 1:=by
    refine Nat.le_trans List.count_le_length ?_
    cases tok (AV.sl (some n) (es ++ xs),Value.slice (some ⟨x,q,none⟩) (es.length + xs.length) cap) <;> simp
   omega
  ·have h0 : ((tok (AV.sl (some n) (es ++ xs),Value.slice (some ⟨b,q,none⟩) (es.length + xs.length) cap)).toList).count x = 0:=by
    refine List.count_eq_zero.2 fun hmem => ?_
    simp only [tok] at hmem
    split at hmem
    ·simp at hmem; exact hx hmem
    ·simp at hmem
   omega
end
end Go.AI
