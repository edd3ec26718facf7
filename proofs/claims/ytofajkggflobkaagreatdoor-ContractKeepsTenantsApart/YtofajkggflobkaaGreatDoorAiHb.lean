/- A map's or a loop's object changed. -/
import Derived.Test.YtofajkggflobkaaGreatDoorAiH
set_option linter.unusedSimpArgs false
set_option linter.unusedVariables false
namespace Go.AI
section
variable {P : Program} {F : Nat -> Prop} {G : Gh} {w : World} {H : Heap} {vals : List AV} {us : List Value}
theorem ext_putObj {b : Nat} {X0 X : Obj} (hF : ¬ F b) (hb : w.heap[b]? = some X0) (hX : ∀ C E f,X0 ≠ .cells C E f) : Ext F G w G (w.putObj b X):=by
 refine ⟨by simp,⟨fun _ _ h => h,fun b' C E h => ?_,fun b' hb' _ => ⟨by simpa using hb',rfl⟩,fun b' o v hs hc => ⟨hs, ?_⟩⟩,fun _ _ => rfl,fun b' hb' => World.putObj_heap_other (fun e => hF (e ▸ hb')),⟨rfl,rfl,rfl⟩⟩
 ·by_cases e : b' = b
  ·subst e
   rw [hb] at h; cases h
   exact absurd rfl (hX _ _ _)
  ·exact ⟨C,by rw [World.putObj_heap_other e]; exact h,rfl⟩
 ·by_cases e : b' = b
  ·subst e
   unfold World.cell? at hc
   simp only [hb] at hc
   split at hc
   ·rename_i heq
    cases heq
    exact absurd rfl (hX _ _ _)
   ·cases hc
  ·unfold World.cell? at hc ⊢
   simp only [World.putObj_heap_other e]
   exact hc
theorem CRel.setSp (h : CRel F G vals H us w) {o b : Nat} {cs cs' : List AV} {X : Obj} (ho : H[o]? = some (some cs)) (hb : G.obs[o]? = some b) (hk : (G.kind b).sp = true)
  (hX : ∀ C E f,X ≠ .cells C E f) (his : ORel F G (w.putObj b X) cs' b) {vs : List AV} {us' : List Value} (hvs : LRel F G vs us' w) (hn : ∀ x,tcnt x vs us' <= tcnt x vals us) :
  CRel F G vs (H.set o (some cs')) us' (w.putObj b X) /\ Ext F G w G (w.putObj b X):=by
 have hr:=h.h.obj o cs b ho hb
 have hnF:=hr.own
 have hlt:=hr.lt
 have hlen:=h.h.len
 have holt : o < H.length:=(List.getElem?_eq_some_iff.1 ho).1
 obtain ⟨X0,hX0,hne0⟩ : ∃ X0,w.heap[b]? = some X0 /\ ∀ C E f,X0 ≠ .cells C E f:=by
  refine ⟨_,Array.getElem?_eq_getElem hlt,fun C E f e => ?_⟩
  have hkk:=(hr.of_cells ((Array.getElem?_eq_getElem hlt).trans (congrArg some e))).1
  rw [hkk] at hk; cases hk
 have he : Ext F G w G (w.putObj b X):=ext_putObj hnF hX0 hne0
 have hother : ∀ b',b' ≠ b -> (w.putObj b X).heap[b']? = w.heap[b']?:=fun b' hne => World.putObj_heap_other hne
 have hnew : (w.putObj b X).heap[b]? = some X:=World.putObj_heap_same hlt
 have htokne : ∀ {p : AV × Value} {x : Nat},TokOk F G w p -> tok p = some x -> x ≠ b:=fun hp hx hxb => by
  obtain ⟨_,⟨q,hq⟩,_⟩:=hp.of_tok hx
  rw [hxb] at hq; rw [hq] at hk; cases hk
 have htk : ∀ {p : AV × Value},TokOk F G w p -> TokOk F G (w.putObj b X) p:=fun hp => hp.keep fun x hx => ⟨(hp.of_tok hx).1,rfl,hother x (htokne hp hx)⟩
 have hset : ∀ (o' : Nat) (cs2 : List AV),(H.set o (some cs'))[o']? = some (some cs2) -> (o' = o /\ cs2 = cs') \/ (o' ≠ o /\ H[o']? = some (some cs2)):=by
  intro o' cs2 h2
  rw [List.getElem?_set] at h2
  split at h2
  ·rename_i heq
   subst heq
   simp [holt] at h2
   exact .inl ⟨rfl,h2.symm⟩
  ·rename_i hne
   exact .inr ⟨fun e => hne e.symm,h2⟩
 have hinj : ∀ o' cs2,o' ≠ o -> H[o']? = some (some cs2) -> G.obs[o']? ≠ some b:=fun o' cs2 hne h2 h3 => hne (h.h.inj o' o cs2 cs b h2 ho h3 hb)
 refine ⟨⟨⟨hvs.len,fun i a u h1 h2 => (hvs.rel i a u h1 h2).keep he.keeps,fun i a u h1 h2 p hp => htk (hvs.tok i a u h1 h2 p hp)⟩,⟨by simp [hlen],fun o' cs2 b2 h2 h3 => ?_,fun o1 o2 c1 c2 b2 h1 h2 h3 h4 => ?_,fun b' hF => by simpa using h.h.fore b' hF,h.h.glob.keep he.keeps⟩,fun x => ?_⟩,he⟩
 ·rcases hset o' cs2 h2 with ⟨rfl,rfl⟩ | ⟨hne,h2'⟩
  ·rw [hb] at h3; cases h3
   exact his
  ·have hbne : b2 ≠ b:=fun e => hinj o' cs2 hne h2' (e ▸ h3)
   exact (h.h.obj o' cs2 b2 h2' h3).keep he.keeps (h.h.obj o' cs2 b2 h2' h3).own rfl (hother b2 hbne) fun _ _ _ _ _ _ _ _ s3 => htk s3
 ·rcases hset o1 c1 h1 with ⟨rfl,rfl⟩ | ⟨hne1,h1'⟩ <;> rcases hset o2 c2 h2 with ⟨rfl,rfl⟩ | ⟨hne2,h2'⟩
  ·rfl
  ·exact (h.h.inj o2 o1 c2 cs b2 h2' ho h4 h3).symm
  ·exact h.h.inj o1 o2 c1 cs b2 h1' ho h3 h4
  ·exact h.h.inj o1 o2 c1 c2 b2 h1' h2' h3 h4
 ·have hall : hcnt G (H.set o (some cs')) (w.putObj b X) x <= hcnt G H w x:=by
   unfold hcnt
   simp only [List.length_set]
   have hone:=sum_range_one (n:=H.length) (d:=o) (f:=fun o' => (otoks G (H.set o (some cs')) (w.putObj b X) o').count x) (g:=fun o' => (otoks G H w o').count x) holt (fun o' ho' hne => by
    congr 1
    unfold otoks
    rw [List.getElem?_set,if_neg (fun e => hne e.symm)]
    cases g1 : H[o']? with
    | none => rfl
    | some x2 => cases x2 with
     | none => rfl
     | some cs2 => cases g2 : G.obs[o']? with
      | none => rfl
      | some b2 => simp only [hother b2 (fun e => hinj o' cs2 hne g1 (e ▸ g2))])
   have e1 : otoks G (H.set o (some cs')) (w.putObj b X) o = []:=by
    rw [otoks_eq (cs:=cs') (b:=b) (by rw [List.getElem?_set,if_pos rfl,if_pos holt]) hb hnew]
    cases X <;> first | rfl | exact absurd rfl (hX _ _ _)
   rw [e1] at hone
   simp only [List.count_nil] at hone
   omega
  have h1:=h.cnt x
  have h2:=hn x
  omega
theorem CRel.setLoop (h : CRel F G vals H us w) {o b : Nat} {st st' : Int} {av : List AV} {L : LoopRec} (ho : H[o]? = some (some (loopc st av))) (hb : G.obs[o]? = some b) (hk : G.kind b = .loop L)
  {s' : LoopState} {p' : Option Code} (hs : loopSt s' p' = some st') :
  ∃ r : Loop,w.heap[b]? = some (.loop r) /\ loopSt r.state r.pending = some st /\ r.params = L.ps /\ r.assign = L.assign /\ r.body = L.body /\
   av.length = r.tmps.size /\ (∀ (i : Nat) (a : AV) (u : Value),av[i]? = some a -> r.tmps[i]? = some u -> a.borrow = a /\ VRel G w a u) /\
   CRel F G vals (H.set o (some (loopc st' av))) us (w.putObj b (.loop { r with state:=s',pending:=p' })) /\ Ext F G w G (w.putObj b (.loop { r with state:=s',pending:=p' })):=by
 have hr:=h.h.obj o _ b ho hb
 have hlt:=hr.lt
 have hi:=hr.is
 rw [hk] at hi
 obtain ⟨s,pe,t,D,st0,vals0,g1,g2,g3,g4,g5⟩:=hi
 simp only [loopc,List.cons.injEq,AV.tup.injEq,and_true,AV.int.injEq,true_and] at g3
 obtain ⟨rfl,rfl⟩:=g3
 have hsp : (G.kind b).sp = true:=by rw [hk]; rfl
 have he : Ext F G w G (w.putObj b (.loop { state:=s',pending:=p',fn:=D.1,tmps:=t,params:=L.ps,assign:=L.assign,body:=L.body,defers:=D.2 })):=ext_putObj hr.own g1 (fun _ _ _ e => by cases e)
 refine ⟨_,g1,g2,rfl,rfl,rfl,g4,g5, ?_⟩
 refine h.setSp ho hb hsp (fun _ _ _ e => by cases e) ⟨hr.own, ?_⟩ h.l (fun x => Nat.le_refl _)
 rw [hk]
 exact ⟨s',p',t,D,st',av,World.putObj_heap_same hlt,hs,rfl,g4,fun i a u h1 h2 => ⟨(g5 i a u h1 h2).1,(g5 i a u h1 h2).2.keep he.keeps⟩⟩
theorem CRel.drop (h : CRel F G vals H us w) (o : Nat) : CRel F G vals (H.set o none) us w:=by
 have hget : ∀ (o' : Nat) (cs : List AV),(H.set o none)[o']? = some (some cs) -> H[o']? = some (some cs):=fun o' cs h2 => by
  rw [List.getElem?_set] at h2
  split at h2
  ·split at h2 <;> cases h2
  ·exact h2
 refine ⟨h.l,⟨by simp [h.h.len],fun o' cs b h1 h2 => h.h.obj o' cs b (hget o' cs h1) h2,fun o1 o2 c1 c2 b g1 g2 g3 g4 => h.h.inj o1 o2 c1 c2 b (hget _ _ g1) (hget _ _ g2) g3 g4,h.h.fore,h.h.glob⟩,fun x => ?_⟩
 have hle : hcnt G (H.set o none) w x <= hcnt G H w x:=by
  unfold hcnt
  simp only [List.length_set]
  by_cases holt : o < H.length
  ·have hone:=sum_range_one (n:=H.length) (d:=o) (f:=fun o' => (otoks G (H.set o none) w o').count x) (g:=fun o' => (otoks G H w o').count x) holt (fun o' ho' hne => by
    congr 1
    unfold otoks
    rw [List.getElem?_set,if_neg (fun e => hne e.symm)])
   have e1 : otoks G (H.set o none) w o = []:=by
    unfold otoks
    rw [List.getElem?_set,if_pos rfl,if_pos holt]
   rw [e1] at hone
   simp only [List.count_nil] at hone
   omega
  ·rw [List.set_eq_of_length_le (by omega)]
   exact Nat.le_refl _
 have:=h.cnt x
 omega
end
end Go.AI
