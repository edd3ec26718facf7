/- One operation in a frame; the operations of a region one after the other. -/
import Derived.Test.YtofajkggflobkaaGreatDoorAiS
set_option linter.unusedSimpArgs false
set_option linter.unusedVariables false
namespace Go.AI
def agd (ops : Array Oper) (env : Env) (o : Oper) : Option Bool :=
 match o.guard with
 | none => some true
 | some (j,want) => match (ops[j]?).bind (·.dst) with
  | some d => match look env d with
   | .bool b => some (b == want)
   | .tup _ => some false
   | _ => none
  | none => none
def dstOk (n : Nat) : Option Tmp -> Prop
 | some d => d < n
 | none => True
def put (d : Option Tmp) (v : AV) (env : Env) : Env :=
 match d with
 | some t => (t,v) :: env
 | none => env
def aop (P : Program) (n : Nat) (h : Hint) (ops : Array Oper) (o : Oper) (K : Env -> Heap -> Prop) (env : Env) (H : Heap) : Prop :=
 match agd ops env o with
 | some true => dstOk n o.dst /\ ares P h o (evs P (opTy o) (taking h o) o.op.operands.toList env).1 H fun v H' => K (put o.dst v (evs P (opTy o) (taking h o) o.op.operands.toList env).2) H'
 | some false => dstOk n o.dst /\ K (put o.dst (.tup []) env) H
 | none => False
def arun (P : Program) (n : Nat) (h : Hint) (ops : Array Oper) : List Oper -> (Env -> Heap -> Prop) -> Env -> Heap -> Prop
 | [],K => K
 | o :: rest,K => aop P n h ops o (arun P n h ops rest K)
abbrev fen (ro : Option Nat) : Fence:={ Fence.wide with round:=ro }
def isD (w : World) (b : Nat) : Prop:=w.heap[b]? = some (.deferred (some []))
def DOk (F : Nat -> Prop) (w : World) (ds : List Deferred) : Prop :=
 ∃ bs : List Nat,ds = bs.map (fun b => { target:=.collected b,args:=#[] }) /\ bs.Nodup /\ ∀ b ∈ bs,¬ F b /\ isD w b
theorem DOk.nil (F : Nat -> Prop) (w : World) : DOk F w []:=⟨[],rfl,List.nodup_nil,fun b hb => by cases hb⟩
theorem DOk.keep {F : Nat -> Prop} {w w' : World} {ds : List Deferred} (h : DOk F w ds) (hk : ∀ b,isD w b -> isD w' b) : DOk F w' ds:=by
 obtain ⟨bs,h1,h2,h3⟩:=h
 exact ⟨bs,h1,h2,fun b hb => ⟨(h3 b hb).1,hk b (h3 b hb).2⟩⟩
theorem ORel.not_isD {F : Nat -> Prop} {G : Gh} {w : World} {cs : List AV} {b : Nat} (h : ORel F G w cs b) : ¬ isD w b:=fun hd => by
 have hi:=h.is
 unfold isD at hd
 split at hi
 ·obtain ⟨C,E,h1,_⟩:=hi; rw [hd] at h1; cases h1
 ·obtain ⟨es,ms,cl,h1,_⟩:=hi; rw [hd] at h1; cases h1
 ·rcases hi with ⟨s,pos,h1,_⟩ | ⟨h1,_⟩ | ⟨_,_,_,_,h1,_⟩ <;> (rw [hd] at h1; cases h1)
 ·obtain ⟨s,p,t,D,st,vals,h1,_⟩:=hi; rw [hd] at h1; cases h1
 ·exact hi.elim
theorem CRel.addD {F : Nat -> Prop} {G : Gh} {vs : List AV} {H : Heap} {us : List Value} {w : World} (h : CRel F G vs H us w) : CRel (fun b => F b \/ isD w b) G vs H us w:=by
 have hto : ∀ {p : AV × Value},TokOk F G w p -> TokOk (fun b => F b \/ isD w b) G w p:=fun hp => hp.keep fun b hb => by
  obtain ⟨h1,_,C,E,h3⟩:=hp.of_tok hb
  refine ⟨?_,rfl,rfl⟩
  rintro (hF | hd)
  ·exact h1 hF
  ·unfold isD at hd; rw [h3] at hd; cases hd
 refine ⟨⟨h.l.len,h.l.rel,fun i a u h1 h2 p hp => hto (h.l.tok i a u h1 h2 p hp)⟩,⟨h.h.len,fun o cs b h1 h2 => ?_,h.h.inj,fun b hb => ?_,h.h.glob⟩,h.cnt⟩
 ·refine (h.h.obj o cs b h1 h2).change ?_ fun _ _ _ _ _ _ _ _ hp => hto hp
  rintro (hF | hd)
  ·exact (h.h.obj o cs b h1 h2).own hF
  ·exact (h.h.obj o cs b h1 h2).not_isD hd
 ·rcases hb with hF | hd
  ·exact h.h.fore b hF
  ·exact (Array.getElem?_eq_some_iff.1 hd).1
structure SRel (F : Nat -> Prop) (G : Gh) (n : Nat) (env : Env) (H : Heap) (a : Act) (w : World) : Prop where
 size : a.tmps.size = n
 defers : DOk F w a.defers
 out : ∀ t,n <= t -> look env t = .undef
 c : CRel F G (elist n env) H a.tmps.toList w
section
variable {P : Program} {F : Nat -> Prop} {G : Gh} {w : World} {H : Heap} {n : Nat} {env : Env} {a : Act} {h : Hint} {ops : Array Oper}
def After (F : Nat -> Prop) (G : Gh) (w : World) (n : Nat) (K : Env -> Heap -> Prop) (a' : Act) (w' : World) : Prop :=
 ∃ env' H' G',K env' H' /\ SRel F G' n env' H' a' w' /\ Ext F G w G' w'
theorem CRel.setSlot {v : AV} {L : List AV} {u : Value} {tm : List Value} (hc : CRel F G (v :: L) H (u :: tm) w) {d : Nat} (hd : d < tm.length) : CRel F G (L.set d v) H (tm.set d u) w:=by
 obtain ⟨hv,ht,hl⟩:=hc.l.uncons
 have hlen:=hl.len
 have old1 : L[d]? = some (L[d]'(by omega)):=List.getElem?_eq_getElem _
 have old2 : tm[d]? = some tm[d]:=List.getElem?_eq_getElem _
 refine ⟨⟨by simp [hlen],fun i x y h1 h2 => ?_,fun i x y h1 h2 => ?_⟩,hc.h,fun b => ?_⟩
 ·rw [List.getElem?_set] at h1 h2
  split at h1
  ·rename_i e
   subst e
   rw [if_pos rfl,if_pos hd] at h2
   rw [if_pos (by omega)] at h1
   cases h1; cases h2; exact hv
  ·rename_i e
   rw [if_neg e] at h2
   exact hl.rel i x y h1 h2
 ·rw [List.getElem?_set] at h1 h2
  split at h1
  ·rename_i e
   subst e
   rw [if_pos rfl,if_pos hd] at h2
   rw [if_pos (by omega)] at h1
   cases h1; cases h2; exact ht
  ·rename_i e
   rw [if_neg e] at h2
   exact hl.tok i x y h1 h2
 ·have h1:=tcnt_set b L tm d v _ u _ old1 old2
  have h2:=hc.cnt b
  rw [tcnt_cons] at h2
  omega
theorem CRel.tail {v : AV} {L : List AV} {u : Value} {tm : List Value} (hc : CRel F G (v :: L) H (u :: tm) w) : CRel F G L H tm w :=
 ⟨hc.l.uncons.2.2,hc.h,fun b => by have:=hc.cnt b; rw [tcnt_cons] at this; omega⟩
theorem srel_put {v : AV} {u : Value} (hs : a.tmps.size = n) (hd : DOk F w a.defers) (ho : ∀ t,n <= t -> look env t = .undef) (hc : CRel F G (v :: elist n env) H (u :: a.tmps.toList) w) (dst : Option Tmp) (hdst : dstOk n dst) :
  SRel F G n (put dst v env) H (a.put dst u) w:=by
 cases dst with
 | none => exact ⟨hs,hd,ho,hc.tail⟩
 | some d =>
  have hdn : d < n:=hdst
  refine ⟨by simp [Act.put,hs],hd,fun t ht => ?_, ?_⟩
  ·simp only [put,look]
   rw [if_neg (fun e => by subst e; exact absurd hdn (Nat.not_lt.2 ht))]
   exact ho t ht
  ·simp only [put,Act.put,Array.toList_setIfInBounds]
   rw [elist_put env v hdn]
   exact hc.setSlot (by simp [hs]; exact hdn)
theorem wanted_of {o : Oper} {b : Bool} (hs : SRel F G n env H a w) (hg : agd ops env o = some b) : Region.wanted o (yielded ops a.tmps) = b:=by
 unfold agd at hg
 unfold Region.wanted
 cases hgd : o.guard with
 | none => rw [hgd] at hg; simp only [Option.some.injEq] at hg; exact hg
 | some p =>
  obtain ⟨j,want⟩:=p
  rw [hgd] at hg
  simp only at hg ⊢
  cases hd : (ops[j]?).bind (·.dst) with
  | none => rw [hd] at hg; cases hg
  | some d =>
   rw [hd] at hg
   simp only at hg
   split at hg
   ·rename_i b' hl
    have hdn : d < n:=by
     by_cases hdn : d < n
     ·exact hdn
     ·rw [hs.out d (Nat.le_of_not_lt hdn)] at hl; cases hl
    obtain ⟨x,hx⟩ : ∃ x,a.tmps[d]? = some x:=⟨_,Array.getElem?_eq_getElem (by rw [hs.size]; exact hdn)⟩
    have hr:=hs.c.l.rel d (look env d) x (elist_get env hdn) (by rw [Array.getElem?_toList]; exact hx)
    rw [hl] at hr
    have hv : a.tmps[d]? = some (.bool b'):=by rw [hx]; cases hr; rfl
    simp only [Option.some.injEq] at hg
    unfold yielded
    rw [hd]
    simp only [Option.bind_some,hv]
    rw [<- hg]
    cases b' <;> cases want <;> rfl
   ·rename_i vs hl
    have hdn : d < n:=by
     by_cases hdn : d < n
     ·exact hdn
     ·rw [hs.out d (Nat.le_of_not_lt hdn)] at hl; cases hl
    obtain ⟨x,hx⟩ : ∃ x,a.tmps[d]? = some x:=⟨_,Array.getElem?_eq_getElem (by rw [hs.size]; exact hdn)⟩
    have hr:=hs.c.l.rel d (look env d) x (elist_get env hdn) (by rw [Array.getElem?_toList]; exact hx)
    rw [hl] at hr
    simp only [Option.some.injEq] at hg
    subst hg
    unfold yielded
    rw [hd]
    simp only [Option.bind_some,hx]
    cases hr
    rfl
   ·cases hg
theorem ares_no_defer {o : Oper} {vals : List AV} {R : AV -> Heap -> Prop} (ha : ares P h o vals H R) : ∀ c,o.op ≠ .defer c:=fun c hc => by
 unfold ares at ha
 rw [hc] at ha
 exact ha
theorem aop_step {ro : Option Nat} {nn : Nat} {o : Oper} {K : Env -> Heap -> Prop} (hs : SRel F G n env H a w) (ha : aop P n h ops o K env H) (Q : Exit -> Act -> World -> Prop) :
  if Region.wanted o (yielded ops a.tmps) then o.wpIn (fen ro) nn P a w (After F G w n K) Q else After F G w n K (a.put o.dst Go.undef) w:=by
 unfold aop at ha
 split at ha
 ·rename_i hg
  rw [wanted_of hs hg,if_pos rfl]
  obtain ⟨hdst,ha⟩:=ha
  obtain ⟨hev,hout⟩:=evs_ok (P:=P) (w:=w) (F:=F) (G:=G) (H:=H) (a:=a) (opTy o) (taking h o) hs.size o.op.operands.toList env [] [] hs.c rfl hs.out
  simp only [List.nil_append] at hev
  generalize evs P (opTy o) (taking h o) o.op.operands.toList env = r at *
  have hlen : r.1.length = (o.op.operands.toList.map a.eval).length:=by
   have:=hev.l.len
   simp only [List.length_append,elist_length,Array.length_toList,hs.size] at this
   omega
  obtain ⟨_,hB⟩:=hev.l.split hlen
  have hA:=(hev.split hlen).addD
  have hcb : ∀ b,tcnt b (elist n r.2) a.tmps.toList <= 1:=fun b => by
   have:=hev.cnt b
   rw [tcnt_append _ _ _ _ _ hlen] at this
   omega
  have hres:=ares_ok h o a.eval (fun _ => rfl) r.1 hA ha
  have back : ∀ u w',KOut (fun b => (F b \/ 0 < tcnt b (elist n r.2) a.tmps.toList) \/ isD w b) G w (fun v H' => K (put o.dst v r.2) H') u w' -> After F G w n K (a.put o.dst u) w':=by
   rintro u w' ⟨v,H',G',hK,hc,he⟩
   have hj:=CRel.join (F:=F) hB hcb (fun b hb => Or.inl (Or.inl hb)) (fun b hb => Or.inl (Or.inr hb)) he hc
   have hdk : DOk F w' a.defers:=hs.defers.keep fun b hb => (he.cells b (Or.inr hb)).trans hb
   exact ⟨_,H',G',hK,srel_put hs.size hdk hout hj o.dst hdst,he.mono fun b hb => Or.inl (Or.inl hb)⟩
  refine ⟨fun _ _ => trivial, ?_⟩
  rw [Oper.semAt_eq _ _ _ (ares_no_defer ha)]
  generalize (execOp a.eval o).run P w = res at hres
  cases res with
  | ok nx w' =>
   cases nx <;> simp only [OpRes] at hres
   case value u => exact back u w' hres
   case skip => exact back _ w' hres
   case enter f args =>
    show _ /\ CallsIn (fen ro) (nn - 1) P f args w' _
    refine ⟨fun hx => Bool.noConfusion hx, ?_⟩
    refine CallsIn.mono (show CallsIn (fen ro) (nn - 1) P f args w' _ from (callsIn_wide (n:=nn - 1)).2 hres) fun e w'' he => ?_
    obtain ⟨u,rfl,hk⟩:=he
    exact back u w'' hk
   case round l f tmps assign body =>
    show _ /\ RoundIn (fen ro) (nn - 1) P l f tmps assign body w' _
    refine ⟨fun hx => Bool.noConfusion hx, ?_⟩
    refine RoundIn.mono (show RoundIn (fen ro) (nn - 1) P l f tmps assign body w' _ from ⟨trivial,fun c cs _ => hres.2 c cs (room_wide _)⟩) fun e w'' he => ?_
    obtain ⟨u,rfl,hk⟩:=he
    exact back u w'' hk
  | halt x w' => exact hres.elim
 ·rename_i hg
  rw [wanted_of hs hg]
  obtain ⟨hdst,ha⟩:=ha
  refine ⟨_,H,G,ha,srel_put hs.size hs.defers hs.out ?_ o.dst hdst,.refl F G w⟩
  have htk : toks (.tup []) Go.undef = []:=rfl
  refine ⟨.cons (.tup [] #[] rfl (fun c hc => by simp at hc) (fun i c v hc => by simp at hc)) (tok_nil_all htk F G w) hs.c.l,hs.c.h,fun b => ?_⟩
  rw [tcnt_cons,htk]
  simpa using hs.c.cnt b
 ·exact ha.elim
theorem arun_list {ro : Option Nat} {nn : Nat} (Q : Exit -> Act -> World -> Prop) : ∀ (l : List Oper) (K : Env -> Heap -> Prop) (G : Gh) (env : Env) (H : Heap) (a : Act) (w : World),SRel F G n env H a w -> arun P n h ops l K env H ->
  (∀ a' w',After F G w n K a' w' -> Q .normal a' w') -> wpListIn (fen ro) nn P ops Q l a w
 | [],K,G,env,H,a,w,hs,ha,hQ => hQ a w ⟨env,H,G,ha,hs,.refl F G w⟩
 | o :: l,K,G,env,H,a,w,hs,ha,hQ => by
  have hst:=aop_step (ro:=ro) (nn:=nn) (K:=arun P n h ops l K) hs ha Q
  have next : ∀ a' w',After F G w n (arun P n h ops l K) a' w' -> wpListIn (fen ro) nn P ops Q l a' w':=by
   rintro a' w' ⟨env',H',G',hK,hs',he⟩
   refine arun_list Q l K G' env' H' a' w' hs' hK fun a'' w'' => ?_
   rintro ⟨env2,H2,G2,hK2,hs2,he2⟩
   exact hQ a'' w'' ⟨env2,H2,G2,hK2,hs2,he.trans he2⟩
  unfold wpListIn
  split
  ·rename_i hw
   rw [if_pos hw] at hst
   exact Oper.wpIn_mono next hst
  ·rename_i hw
   rw [if_neg hw] at hst
   exact ⟨fun _ _ => trivial,next _ _ hst⟩
theorem arun_region {ro : Option Nat} {nn : Nat} {id : Nat} (K : Env -> Heap -> Prop) (Q : Exit -> Act -> World -> Prop) (hs : SRel F G n env H a w) (ha : arun P n h ops ops.toList K env H) (hQ : ∀ a' w',After F G w n K a' w' -> Q .normal a' w') :
  (Code.region id ops false).wpIn (fen ro) nn P Q a w :=
 wpIn_region_list (arun_list Q ops.toList K G env H a w hs ha hQ)
end
end Go.AI
