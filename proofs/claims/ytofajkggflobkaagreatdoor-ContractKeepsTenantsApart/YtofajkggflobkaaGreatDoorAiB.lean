/- States: lists of abstract values against lists of the model's values, abstract objects against blocks, and who may append in place. -/
import Derived.Test.YtofajkggflobkaaGreatDoorMa
set_option linter.unusedSimpArgs false
set_option linter.unusedVariables false
namespace Go.AI
abbrev Heap:=List (Option (List AV))
def vflat : Value -> List Value
 | .tuple vs => vs.toList.flatMap fun v => v.cells.toList
 | v => v.cells.toList
def prs (a : AV) (v : Value) : List (AV × Value):=a.flat.zip (vflat v)
def tok (p : AV × Value) : Option Nat :=
 match p with
 | (.sl (some _) _,.slice (some a) len cap) => if len < cap then some a.block else none
 | _ => none
def TokOk (F : Nat -> Prop) (G : Gh) (w : World) (p : AV × Value) : Prop :=
 match p with
 | (.sl (some n) _,.slice (some a) len cap) => len < cap -> ¬ F a.block /\ G.kind a.block = .buf (a.off + len * n) /\
   ∃ (C : Array Value) (E : TypeId),w.heap[a.block]? = some (.cells C E (0,0)) /\ a.off + cap * n <= C.size
 | _ => True
def toks (a : AV) (v : Value) : List Nat:=(prs a v).filterMap tok
def tcnt (b : Nat) (vs : List AV) (us : List Value) : Nat:=((vs.zip us).map fun p => (toks p.1 p.2).count b).sum
structure LRel (F : Nat -> Prop) (G : Gh) (vs : List AV) (us : List Value) (w : World) : Prop where
 len : vs.length = us.length
 rel : ∀ (i : Nat) (a : AV) (u : Value),vs[i]? = some a -> us[i]? = some u -> VRel G w a u
 tok : ∀ (i : Nat) (a : AV) (u : Value),vs[i]? = some a -> us[i]? = some u -> ∀ p ∈ prs a u,TokOk F G w p
def RowIs (F : Nat -> Prop) (G : Gh) (w : World) (cs : List AV) (b : Nat) : Prop :=
 ∃ (C : Array Value) (E : TypeId),w.heap[b]? = some (.cells C E (0,0)) /\ cs.length <= C.size /\
  ∀ (i : Nat) (c : AV) (v : Value),cs[i]? = some c -> C[i]? = some v -> c.scalar = true /\ VRel G w c v /\ TokOk F G w (c,v)
def mapc (es : List (AV × AV)) : List AV:=[.tup (es.flatMap fun p => [p.1,p.2])]
def MapIs (G : Gh) (w : World) (cs : List AV) (b : Nat) : Prop :=
 ∃ (es : List (AV × AV)) (ms : Array MapEntry) (clock : Nat),w.heap[b]? = some (.map ms clock) /\ cs = mapc es /\ es.length = ms.size /\
  (∀ (i : Nat) (p : AV × AV) (m : MapEntry),es[i]? = some p -> ms[i]? = some m -> p.1.isVal = true /\ p.2.isVal = true /\ VRel G w p.1 m.key /\ VRel G w p.2 m.val) /\
  clock = ms.size /\ ∀ (i : Nat) (m : MapEntry),ms[i]? = some m -> m.born = i
def iterS (s : ByteArray) (pos : Int) : List AV:=[.str s,.int .i64 pos]
def iterM (o since : Nat) (seen : List Nat) : List AV:=[.mapr o,.int .i64 (since : Int),.tup (seen.map fun (i : Nat) => AV.int .i64 (i : Int))]
def IterIs (G : Gh) (w : World) (cs : List AV) (b : Nat) : Prop :=
 (∃ s pos,w.heap[b]? = some (.stringIter s pos) /\ cs = iterS s pos) \/
 (w.heap[b]? = some (.mapIter none 0 #[] 0) /\ cs = [.nilm]) \/
 ∃ (o mb since : Nat) (seen : List Nat),w.heap[b]? = some (.mapIter (some mb) since seen.toArray since) /\ cs = iterM o since seen /\ VRel G w (.mapr o) (.map (some mb))
def loopSt : LoopState -> Option Code -> Option Int
 | .ready,none => some 0
 | .busy,_ => some (-1)
 | .done,some .ret => some (-2)
 | .done,some (.exit k) => some (k + 1)
 | .exhausted,_ => some (-3)
 | _,_ => none
def loopc (st : Int) (vals : List AV) : List AV:=[.tup [.int .i64 st],.tup vals]
def LoopIs (G : Gh) (w : World) (L : LoopRec) (cs : List AV) (b : Nat) : Prop :=
 ∃ (s : LoopState) (pend : Option Code) (tmps : Array Value) (D : FuncId × Nat) (st : Int) (vals : List AV),
  w.heap[b]? = some (.loop { state:=s,pending:=pend,fn:=D.1,tmps:=tmps,params:=L.ps,assign:=L.assign,body:=L.body,defers:=D.2 }) /\
  loopSt s pend = some st /\ cs = loopc st vals /\ vals.length = tmps.size /\ (∀ (i : Nat) (a : AV) (u : Value),vals[i]? = some a -> tmps[i]? = some u -> a.borrow = a /\ VRel G w a u)
structure ORel (F : Nat -> Prop) (G : Gh) (w : World) (cs : List AV) (b : Nat) : Prop where
 own : ¬ F b
 is : match G.kind b with
  | .obj => RowIs F G w cs b
  | .map => MapIs G w cs b
  | .iter => IterIs G w cs b
  | .loop L => LoopIs G w L cs b
  | _ => False
theorem ORel.of_cells {F : Nat -> Prop} {G : Gh} {w : World} {cs : List AV} {b : Nat} (h : ORel F G w cs b) {C : Array Value} {E : TypeId} {fr : Nat × Nat} (hb : w.heap[b]? = some (.cells C E fr)) :
  G.kind b = .obj /\ RowIs F G w cs b:=by
 have hi:=h.is
 split at hi
 ·rename_i hk; exact ⟨hk,hi⟩
 ·obtain ⟨es,ms,cl,h1,_⟩:=hi
  rw [hb] at h1; cases h1
 ·rcases hi with ⟨s,pos,h1,_⟩ | ⟨h1,_⟩ | ⟨_,_,_,_,h1,_⟩ <;> (rw [hb] at h1; cases h1)
 ·obtain ⟨s,p,t,D,st,vals,h1,_⟩:=hi
  rw [hb] at h1; cases h1
 ·exact hi.elim
theorem ORel.kinds {F : Nat -> Prop} {G : Gh} {w : World} {cs : List AV} {b : Nat} (h : ORel F G w cs b) : G.kind b = .obj \/ (G.kind b).sp = true:=by
 have hi:=h.is
 split at hi
 ·rename_i hk; exact .inl hk
 ·rename_i hk; exact .inr (by rw [hk]; rfl)
 ·rename_i hk; exact .inr (by rw [hk]; rfl)
 ·rename_i L hk; exact .inr (by rw [hk]; rfl)
 ·exact hi.elim
theorem ORel.no_buf {F : Nat -> Prop} {G : Gh} {w : World} {cs : List AV} {b q : Nat} (h : ORel F G w cs b) (hq : G.kind b = .buf q) : False:=by
 rcases h.kinds with hk | hk
 ·rw [hk] at hq; cases hq
 ·rw [hq] at hk; cases hk
theorem ORel.lt {F : Nat -> Prop} {G : Gh} {w : World} {cs : List AV} {b : Nat} (h : ORel F G w cs b) : b < w.heap.size:=by
 have hi:=h.is
 split at hi
 ·obtain ⟨C,E,h1,_⟩:=hi; exact (Array.getElem?_eq_some_iff.1 h1).1
 ·obtain ⟨es,ms,cl,h1,_⟩:=hi; exact (Array.getElem?_eq_some_iff.1 h1).1
 ·rcases hi with ⟨s,pos,h1,_⟩ | ⟨h1,_⟩ | ⟨_,_,_,_,h1,_⟩ <;> exact (Array.getElem?_eq_some_iff.1 h1).1
 ·obtain ⟨s,p,t,D,st,vals,h1,_⟩:=hi; exact (Array.getElem?_eq_some_iff.1 h1).1
 ·exact hi.elim
theorem ORel.keep {F F' : Nat -> Prop} {G G' : Gh} {w w' : World} {cs : List AV} {b : Nat} (h : ORel F G w cs b) (hk : Keeps G w G' w') (hF : ¬ F' b) (hkd : G'.kind b = G.kind b) (hw : w'.heap[b]? = w.heap[b]?)
  (hr : ∀ (C : Array Value) (E : TypeId),w.heap[b]? = some (.cells C E (0,0)) -> ∀ (i : Nat) (c : AV) (v : Value),cs[i]? = some c -> C[i]? = some v -> TokOk F G w (c,v) -> TokOk F' G' w' (c,v)) : ORel F' G' w' cs b:=by
 refine ⟨hF, ?_⟩
 have hi:=h.is
 rw [hkd]
 split at hi
 ·rename_i hk2
  try rw [hk2]
  obtain ⟨C,E,g1,g2,g3⟩:=hi
  exact ⟨C,E,hw.trans g1,g2,fun i c v hc hv => ⟨(g3 i c v hc hv).1,(g3 i c v hc hv).2.1.keep hk,hr C E g1 i c v hc hv (g3 i c v hc hv).2.2⟩⟩
 ·rename_i hk2
  try rw [hk2]
  obtain ⟨es,ms,cl,g1,g2,g3,g4,g5⟩:=hi
  exact ⟨es,ms,cl,hw.trans g1,g2,g3,fun i p m hp hm => let ⟨a1,a2,a3,a4⟩:=g4 i p m hp hm; ⟨a1,a2,a3.keep hk,a4.keep hk⟩,g5⟩
 ·rename_i hk2
  try rw [hk2]
  rcases hi with ⟨s,pos,h1,h2⟩ | ⟨h1,h2⟩ | ⟨o,mb,si,se,h1,h2,h3⟩
  ·exact .inl ⟨s,pos,hw.trans h1,h2⟩
  ·exact .inr (.inl ⟨hw.trans h1,h2⟩)
  ·exact .inr (.inr ⟨o,mb,si,se,hw.trans h1,h2,h3.keep hk⟩)
 ·rename_i L hk2
  try rw [hk2]
  obtain ⟨s,pe,t,D,st,vals,g1,g2,g3,g4,g5⟩:=hi
  exact ⟨s,pe,t,D,st,vals,hw.trans g1,g2,g3,g4,fun i a u ha hu => ⟨(g5 i a u ha hu).1,(g5 i a u ha hu).2.keep hk⟩⟩
 ·exact hi.elim
theorem ORel.change {F F' : Nat -> Prop} {G : Gh} {w : World} {cs : List AV} {b : Nat} (h : ORel F G w cs b) (hF : ¬ F' b)
  (hr : ∀ (C : Array Value) (E : TypeId),w.heap[b]? = some (.cells C E (0,0)) -> ∀ (i : Nat) (c : AV) (v : Value),cs[i]? = some c -> C[i]? = some v -> TokOk F G w (c,v) -> TokOk F' G w (c,v)) : ORel F' G w cs b:=by
 refine ⟨hF, ?_⟩
 have hi:=h.is
 split at hi
 ·rename_i hk
  try rw [hk]
  obtain ⟨C,E,g1,g2,g3⟩:=hi
  exact ⟨C,E,g1,g2,fun i c v hc hv => ⟨(g3 i c v hc hv).1,(g3 i c v hc hv).2.1,hr C E g1 i c v hc hv (g3 i c v hc hv).2.2⟩⟩
 ·rename_i hk; first | exact hi | (rw [hk]; exact hi)
 ·rename_i hk; first | exact hi | (rw [hk]; exact hi)
 ·rename_i L hk; first | exact hi | (rw [hk]; exact hi)
 ·exact hi.elim
theorem ORel.row_of {F : Nat -> Prop} {G : Gh} {w : World} {cs : List AV} {b : Nat} (hF : ¬ F b) (hk : G.kind b = .obj) (h : RowIs F G w cs b) : ORel F G w cs b:=⟨hF,by rw [hk]; exact h⟩
def otoks (G : Gh) (H : Heap) (w : World) (o : Nat) : List Nat :=
 match H[o]?,G.obs[o]? with
 | some (some cs),some b =>
  match w.heap[b]? with
  | some (.cells C _ _) => (cs.zip C.toList).filterMap tok
  | _ => []
 | _,_ => []
def hcnt (G : Gh) (H : Heap) (w : World) (b : Nat) : Nat:=((List.range H.length).map fun o => (otoks G H w o).count b).sum
structure HRel (F : Nat -> Prop) (G : Gh) (H : Heap) (w : World) : Prop where
 len : G.obs.length = H.length
 obj : ∀ (o : Nat) (cs : List AV) (b : Nat),H[o]? = some (some cs) -> G.obs[o]? = some b -> ORel F G w cs b
 inj : ∀ (o o' : Nat) (cs cs' : List AV) (b : Nat),H[o]? = some (some cs) -> H[o']? = some (some cs') -> G.obs[o]? = some b -> G.obs[o']? = some b -> o = o'
 fore : ∀ b,F b -> b < w.heap.size
 glob : GOk G w
structure CRel (F : Nat -> Prop) (G : Gh) (vs : List AV) (H : Heap) (us : List Value) (w : World) : Prop where
 l : LRel F G vs us w
 h : HRel F G H w
 cnt : ∀ b,tcnt b vs us + hcnt G H w b <= 1
structure Ext (F : Nat -> Prop) (G : Gh) (w : World) (G' : Gh) (w' : World) : Prop where
 size : w.heap.size <= w'.heap.size
 keeps : Keeps G w G' w'
 kind : ∀ b,F b -> G'.kind b = G.kind b
 cells : ∀ b,F b -> w'.heap[b]? = w.heap[b]?
 io : w'.os = w.os /\ w'.tape = w.tape /\ w'.output = w.output
theorem Ext.refl (F : Nat -> Prop) (G : Gh) (w : World) : Ext F G w G w:=⟨Nat.le_refl _,.refl G w,fun _ _ => rfl,fun _ _ => rfl,⟨rfl,rfl,rfl⟩⟩
theorem Ext.trans {F : Nat -> Prop} {G G' G'' : Gh} {w w' w'' : World} (h : Ext F G w G' w') (h' : Ext F G' w' G'' w'') : Ext F G w G'' w'' :=
 ⟨Nat.le_trans h.size h'.size,h.keeps.trans h'.keeps,fun b hb => (h'.kind b hb).trans (h.kind b hb),fun b hb => (h'.cells b hb).trans (h.cells b hb),⟨h'.io.1.trans h.io.1,h'.io.2.1.trans h.io.2.1,h'.io.2.2.trans h.io.2.2⟩⟩
theorem Ext.mono {F F' : Nat -> Prop} {G G' : Gh} {w w' : World} (h : Ext F G w G' w') (hf : ∀ b,F' b -> F b) : Ext F' G w G' w' :=
 ⟨h.size,h.keeps,fun b hb => h.kind b (hf b hb),fun b hb => h.cells b (hf b hb),h.io⟩
theorem tcnt_nil (b : Nat) (us : List Value) : tcnt b [] us = 0:=by simp [tcnt]
theorem tcnt_cons (b : Nat) (a : AV) (vs : List AV) (u : Value) (us : List Value) : tcnt b (a :: vs) (u :: us) = (toks a u).count b + tcnt b vs us:=by
 simp [tcnt]
theorem tcnt_append (b : Nat) : ∀ (vs : List AV) (us : List Value) (vs' : List AV) (us' : List Value),vs.length = us.length ->
  tcnt b (vs ++ vs') (us ++ us') = tcnt b vs us + tcnt b vs' us'
 | [],[],vs',us',_ => by simp [tcnt_nil]
 | [],_ :: _,_,_,h => by simp at h
 | _ :: _,[],_,_,h => by simp at h
 | a :: vs,u :: us,vs',us',h => by
  rw [List.cons_append,List.cons_append,tcnt_cons,tcnt_cons,tcnt_append b vs us vs' us' (by simpa using h)]
  omega
theorem tcnt_set (b : Nat) : ∀ (vs : List AV) (us : List Value) (d : Nat) (a' a : AV) (u' u : Value),vs[d]? = some a -> us[d]? = some u ->
  tcnt b (vs.set d a') (us.set d u') + (toks a u).count b = tcnt b vs us + (toks a' u').count b
 | [],_,d,a',a,u',u,h,_ => by simp at h
 | _ :: _,[],d,a',a,u',u,_,h => by simp at h
 | x :: vs,y :: us,0,a',a,u',u,h,h' => by
  simp only [List.getElem?_cons_zero,Option.some.injEq] at h h'
  subst h; subst h'
  simp only [List.set_cons_zero,tcnt_cons]; omega
 | x :: vs,y :: us,d + 1,a',a,u',u,h,h' => by
  simp only [List.getElem?_cons_succ] at h h'
  have:=tcnt_set b vs us d a' a u' u h h'
  simp only [List.set_cons_succ,tcnt_cons]; omega
theorem count_le_tcnt (b : Nat) : ∀ (vs : List AV) (us : List Value) (i : Nat) (a : AV) (u : Value),vs[i]? = some a -> us[i]? = some u ->
  (toks a u).count b <= tcnt b vs us
 | [],_,_,_,_,h,_ => by simp at h
 | _ :: _,[],_,_,_,_,h => by simp at h
 | x :: vs,y :: us,0,a,u,h,h' => by
  simp only [List.getElem?_cons_zero,Option.some.injEq] at h h'
  subst h; subst h'
  rw [tcnt_cons]; omega
 | x :: vs,y :: us,i + 1,a,u,h,h' => by
  simp only [List.getElem?_cons_succ] at h h'
  have:=count_le_tcnt b vs us i a u h h'
  rw [tcnt_cons]; omega
theorem toks_pos {b : Nat} {a : AV} {u : Value} (h : 0 < (toks a u).count b) : ∃ p ∈ prs a u,tok p = some b:=by
 obtain ⟨p,hp,hb⟩:=List.mem_filterMap.1 (List.count_pos_iff.1 h)
 exact ⟨p,hp,hb⟩
theorem tcnt_pos {b : Nat} : ∀ (vs : List AV) (us : List Value),0 < tcnt b vs us -> ∃ (i : Nat) (a : AV) (u : Value),vs[i]? = some a /\ us[i]? = some u /\ ∃ p ∈ prs a u,tok p = some b
 | [],_,h => by simp [tcnt] at h
 | _ :: _,[],h => by simp [tcnt] at h
 | x :: vs,y :: us,h => by
  rw [tcnt_cons] at h
  by_cases h0 : 0 < (toks x y).count b
  ·exact ⟨0,x,y,rfl,rfl,toks_pos h0⟩
  ·obtain ⟨i,a,u,h1,h2,h3⟩:=tcnt_pos (b:=b) vs us (by omega)
   exact ⟨i + 1,a,u,by simpa using h1,by simpa using h2,h3⟩
theorem TokOk.of_tok {F : Nat -> Prop} {G : Gh} {w : World} {p : AV × Value} {b : Nat} (h : TokOk F G w p) (ht : tok p = some b) :
  ¬ F b /\ (∃ q,G.kind b = .buf q) /\ ∃ (C : Array Value) (E : TypeId),w.heap[b]? = some (.cells C E (0,0)):=by
 obtain ⟨a,v⟩:=p
 unfold tok at ht
 split at ht
 ·rename_i n es ad len cap heq
  cases heq
  split at ht
  ·rename_i hlt
   cases ht
   obtain ⟨h1,h2,C,E,h3,_⟩:=h hlt
   exact ⟨h1,⟨_,h2⟩,C,E,h3⟩
  ·cases ht
 ·cases ht
theorem TokOk.of_none {F : Nat -> Prop} {G : Gh} {w : World} {p : AV × Value} (ht : tok p = none) : TokOk F G w p:=by
 obtain ⟨a,v⟩:=p
 unfold TokOk
 split
 ·rename_i n es ad len cap heq
  cases heq
  intro hlt
  simp [tok,hlt] at ht
 ·trivial
theorem TokOk.keep {F F' : Nat -> Prop} {G G' : Gh} {w w' : World} {p : AV × Value} (h : TokOk F G w p)
  (hk : ∀ b,tok p = some b -> ¬ F' b /\ G'.kind b = G.kind b /\ w'.heap[b]? = w.heap[b]?) : TokOk F' G' w' p:=by
 obtain ⟨a,v⟩:=p
 unfold TokOk at h ⊢
 split
 ·rename_i n es ad len cap heq
  cases heq
  intro hlt
  obtain ⟨h1,h2,C,E,h3,h4⟩:=h hlt
  obtain ⟨k1,k2,k3⟩:=hk ad.block (by simp [tok,hlt])
  exact ⟨k1,k2.trans h2,C,E,k3.trans h3,h4⟩
 ·trivial
end Go.AI
