/- The code of a function, walked at the abstract side. -/
import Derived.Test.YtofajkggflobkaaGreatDoorAiXb
import Derived.RangeFuncNested
import Derived.Test.YtofajkggflobkaaGreatDoorAiVc
set_option linter.unusedSimpArgs false
set_option linter.unusedVariables false
namespace Go.AI
def frzSlot (ag : Bool) (v : AV) (H : Heap) : Option (AV × Heap) :=
 match v with
 | .msl ob off len sz => match H[ob]? with
  | some (some cs) => if off + len * sz <= cs.length /\ (ag = true \/ sz = 1) then some (.sl none (chunk ag sz len ((cs.drop off).map borrow1)),H.set ob none) else none
  | _ => none
 | _ => none
def frz1 (z : Tmp × Option Nat × Bool) (e : Env) (H : Heap) : Env × Heap :=
 match z.2.1 with
 | none => match frzSlot z.2.2 (look e z.1) H with
  | some (v,H') => ((z.1,v) :: e,H')
  | none => (e,H)
 | some k => match look e z.1 with
  | .ptr o off => match H[o]? with
   | some (some cs) => match cs[off + k]? with
    | some c => match frzSlot z.2.2 c H with
     | some (v,H') => match H'[o]? with
      | some (some _) => (e,H'.set o (some (cs.set (off + k) v)))
      | _ => (e,H)
     | none => (e,H)
    | none => (e,H)
   | _ => (e,H)
  | _ => (e,H)
def frzs : List (Tmp × Option Nat × Bool) -> Env -> Heap -> Env × Heap
 | [],e,H => (e,H)
 | z :: zs,e,H => frzs zs (frz1 z e H).1 (frz1 z e H).2
def Hint.lv (h : Hint) (id : Nat) : List Tmp:=(h.live.lookup id).getD []
def Hint.ct (h : Hint) (id : Nat) : Option Nat:=h.gc.lookup id
def Hint.da (h : Hint) (id : Nat) : Bool:=h.dy.contains id
def Hint.mv (h : Hint) (id : Nat) : List Nat:=h.dy.filterMap fun x => if x / 1000 = id + 1 then some (x % 1000) else none
def ordI (l : List Nat) (n : Nat) : List Nat:=l ++ (List.range n).filter fun i => !l.contains i
def Hint.ord (h : Hint) (id : Nat) (ops : Array Oper) : List Oper:=match h.mv id with
 | [] => ops.toList
 | l => (ordI l ops.size).filterMap fun i => ops[i]?
def Hint.dn (h : Hint) (id : Nat) : Bool:=h.da id || !(h.mv id).isEmpty
theorem Hint.dn_no {h : Hint} {id : Nat} (hd : h.dn id = false) (ops : Array Oper) : h.da id = false /\ h.ord id ops = ops.toList:=by
 simp only [Hint.dn,Bool.or_eq_false_iff,Bool.not_eq_false',List.isEmpty_iff] at hd
 refine ⟨hd.1, ?_⟩
 unfold Hint.ord
 rw [hd.2]
def Hint.at (h : Hint) (id : Nat) : List (Tmp × Option Nat × Bool):=(h.fz.lookup id).getD []
section
variable {F : Nat -> Prop} {G : Gh} {w : World} {H : Heap} {n : Nat} {env : Env} {a : Act}
theorem frzSlot_ok {ag : Bool} {v v' : AV} {H' : Heap} (hf : frzSlot ag v H = some (v',H')) {vals : List AV} {us : List Value} (h : CRel F G vals H us w) {u : Value} (hv : VRel G w v u) :
  ∃ ob b es,H' = H.set ob none /\ v' = .sl none es /\ (∃ cs,H[ob]? = some (some cs)) /\ CRel F (G.setKind b .imm) vals H' us w /\ Ext F G w (G.setKind b .imm) w /\ VRel (G.setKind b .imm) w v' u /\ (∃ o f l s,v = .msl o f l s):=by
 unfold frzSlot at hf
 split at hf
 ·rename_i ob off len sz
  split at hf
  ·rename_i cs hob
   split at hf
   ·rename_i hc
    cases hf
    have hb : ∃ b,G.obs[ob]? = some b:=by
     have:=h.h.len
     exact ⟨_,List.getElem?_eq_getElem (by rw [this]; exact (List.getElem?_eq_some_iff.1 hob).1)⟩
    obtain ⟨b,hb⟩:=hb
    obtain ⟨h1,h2⟩:=h.freeze hob hb (hv.msl_cells hb)
    exact ⟨ob,b,_,rfl,rfl,⟨cs,hob⟩,h1,h2,VRel.frozen h hob hb hv hc.1 ag hc.2,_,_,_,_,rfl⟩
   ·cases hf
  ·cases hf
 ·cases hf
theorem frz1_ok (z : Tmp × Option Nat × Bool) (hs : SRel F G n env H a w) : ∃ G',SRel F G' n (frz1 z env H).1 (frz1 z env H).2 a w /\ Ext F G w G' w:=by
 have same : ∃ G',SRel F G' n env H a w /\ Ext F G w G' w:=⟨G,hs,.refl F G w⟩
 obtain ⟨t,k,ag⟩:=z
 have slot : ∀ v,look env t = v -> v ≠ .undef -> t < n /\ ∃ u,a.tmps[t]? = some u /\ VRel G w v u:=fun v hv hne => by
  have hdn : t < n:=by
   by_cases hdn : t < n
   ·exact hdn
   ·rw [hs.out t (Nat.le_of_not_lt hdn)] at hv; exact absurd hv.symm hne
  obtain ⟨x,hx⟩ : ∃ x,a.tmps[t]? = some x:=⟨_,Array.getElem?_eq_getElem (by rw [hs.size]; exact hdn)⟩
  have hr:=hs.c.l.rel t (look env t) x (elist_get env hdn) (by rw [Array.getElem?_toList]; exact hx)
  rw [hv] at hr
  exact ⟨hdn,x,hx,hr⟩
 unfold frz1
 cases k with
 | none =>
  dsimp only
  split
  ·rename_i v' H' hf
   obtain ⟨hdn,u,hu,hvr⟩:=slot (look env t) rfl (by intro e; rw [e] at hf; simp [frzSlot] at hf)
   obtain ⟨ob,b,es,rfl,rfl,_,h1,h2,h3,_⟩:=frzSlot_ok hf hs.c hvr
   refine ⟨_, ?_,h2⟩
   have hput:=srel_put (v:=.sl none es) (u:=u) hs.size hs.defers hs.out ⟨.cons h3 (tok_nil_all (toks_owned rfl u) _ _ _) h1.l,h1.h,fun x => by rw [tcnt_cons,toks_owned rfl u]; simpa using h1.cnt x⟩ (some t) hdn
   have ea : a.put (some t) u = a:=by
    obtain ⟨tm,df⟩:=a
    simp only [Act.put,Act.mk.injEq,and_true]
    apply Array.ext'
    rw [Array.toList_setIfInBounds]
    exact set_same (by rw [Array.getElem?_toList]; exact hu)
   rw [ea] at hput
   exact hput
  ·exact same
 | some k =>
  dsimp only
  split
  ·rename_i o off hlk
   split
   ·rename_i cs hob
    split
    ·rename_i c hc
     split
     ·rename_i v' H' hf
      split
      ·rename_i cs' hob'
       obtain ⟨hdn,u,hu,hvr⟩:=slot _ hlk (by intro e; cases e)
       have hlen:=hs.c.h.len
       have hb : ∃ b,G.obs[o]? = some b:=⟨_,List.getElem?_eq_getElem (by rw [hlen]; exact (List.getElem?_eq_some_iff.1 hob).1)⟩
       obtain ⟨b,hb⟩:=hb
       have hcell : ∃ (C : Array Value) (E : TypeId),w.heap[b]? = some (.cells C E (0,0)):=by
        cases hvr with
        | ptr _ _ b2 h2 hc2 => rw [hb] at h2; cases h2; exact hc2
       obtain ⟨C0,E0,hcell⟩:=hcell
       obtain ⟨g1,C,E,g2,g3,g4⟩:=(hs.c.h.obj o cs b hob hb).of_cells hcell
       have hlt : off + k < C.size:=Nat.lt_of_lt_of_le (List.getElem?_eq_some_iff.1 hc).1 g3
       obtain ⟨s1,s2,s3⟩:=g4 _ _ _ hc (Array.getElem?_eq_getElem hlt)
       obtain ⟨ob,b',es,rfl,rfl,_,h1,h2,h3,⟨o5,f5,l5,z5,hmsl⟩⟩:=frzSlot_ok hf hs.c s2
       have hne : ob ≠ o:=by
        rintro rfl
        rw [List.getElem?_set_self (by exact (List.getElem?_eq_some_iff.1 hob).1)] at hob'
        cases hob'
       have hob2 : (H.set ob none)[o]? = some (some cs):=by rw [List.getElem?_set_ne hne]; exact hob
       have hb2 : (G.setKind b' .imm).obs[o]? = some b:=hb
       have hrow':=h1.h.obj o cs b hob2 hb2
       obtain ⟨r1,C2,E2,r2,r3,r4⟩:=hrow'.of_cells g2
       have hCC : C2 = C:=by rw [g2] at r2; cases r2; rfl
       subst hCC
       have hset:=h1.setObj hob2 hb2 r2 (C':=C2) rfl (cs':=cs.set (off + k) (.sl none es)) (by simpa using r3) (fun i c2 y hc2 hy => ?_) (vs:=elist n env) (us':=a.tmps.toList) h1.l (fun x => ?_)
       ·rw [setRow_self w b C2 E2 _ r2] at hset
        exact ⟨_,⟨hs.size,hs.defers,hs.out,hset.1⟩,h2.trans hset.2⟩
       ·rw [List.getElem?_set] at hc2
        split at hc2
        ·rename_i he
         subst he
         rw [if_pos (List.getElem?_eq_some_iff.1 hc).1] at hc2
         cases hc2
         have : y = C2[off + k]:=by rw [Array.getElem?_eq_getElem hlt] at hy; cases hy; rfl
         subst this
         exact ⟨rfl,h3,TokOk.of_none rfl⟩
        ·exact r4 i c2 y hc2 hy
       ·have hle : (((cs.set (off + k) (.sl none es)).zip C2.toList).filterMap tok).count x <= ((cs.zip C2.toList).filterMap tok).count x:=by
         subst hmsl
         clear hrow' hcell
         clear h3 h1 h2 s2 s3 r4 g4 g3 r3 hob2 hf hob hob'
         generalize hL : C2.toList = L
         clear hL
         generalize off + k = j at hc ⊢
         induction cs generalizing j L with
         | nil => simp
         | cons d cs ih =>
          cases L with
          | nil => simp
          | cons y L =>
           cases j with
           | zero =>
            simp only [List.getElem?_cons_zero,Option.some.injEq] at hc
            subst hc
            simp only [List.set_cons_zero,List.zip_cons_cons,List.filterMap_cons]
            simp [tok]
           | succ j =>
            simp only [List.getElem?_cons_succ] at hc
            have:=ih L j hc
            simp only [List.set_cons_succ,List.zip_cons_cons,List.filterMap_cons]
            split
            ·exact this
            ·simp only [List.count_cons]; omega
        omega
      ·exact same
     ·exact same
    ·exact same
   ·exact same
  ·exact same
theorem frzs_ok : ∀ (zs : List (Tmp × Option Nat × Bool)) {G : Gh} {env : Env} {H : Heap},SRel F G n env H a w -> ∃ G',SRel F G' n (frzs zs env H).1 (frzs zs env H).2 a w /\ Ext F G w G' w
 | [],G,_,_,hs => ⟨G,hs,.refl F G w⟩
 | z :: zs,G,env,H,hs => by
  obtain ⟨G1,h1,e1⟩:=frz1_ok z hs
  obtain ⟨G2,h2,e2⟩:=frzs_ok zs h1
  exact ⟨G2,h2,e1.trans e2⟩
end
def around (ar : Option Nat) (H : Heap) : Prop :=
 match ar with
 | none => True
 | some o => ∃ cs,H[o]? = some (some cs)
def awp (P : Program) (n : Nat) (h : Hint) : Option Nat -> Code -> (Exit -> Env -> Heap -> Prop) -> Env -> Heap -> Prop
 | _,.skip,Q => Q .normal
 | _,.region id ops _,Q => fun e H => arun P n h ops (h.ord id ops) (fun e H => (h.da id = true -> dynAll P h ops e) /\ Q .normal (frzs (h.at id) (clean (h.lv id) e) H).1 (gcut (h.ct id) (frzs (h.at id) (clean (h.lv id) e) H).1 (frzs (h.at id) (clean (h.lv id) e) H).2)) e H
 | ar,.seq a b,Q => awp P n h ar a fun ex e H => match ex with
   | .normal => awp P n h ar b Q e H
   | ex => Q ex e H
 | ar,.cond c a b,Q => fun e H => match evo P none e c with
   | .bool t => if t = true then awp P n h ar a Q e H else awp P n h ar b Q e H
   | _ => False
 | ar,.block id c,Q => awp P n h ar c fun ex e H => match ex with
   | .exit j => if j = id then Q .normal e H else Q (.exit j) e H
   | ex => Q ex e H
 | ar,.loop c,Q => fun e H => ∃ (I : Env -> Heap -> Prop) (μ : Env -> Heap -> Nat),I e H /\ ∀ e H,I e H -> awp P n h ar c (fun ex e' H' => match ex with
   | .normal => I e' H' /\ μ e' H' < μ e H
   | ex => Q ex e' H') e H
 | ar,.rangeFunc g ps assign body,Q => fun e H => around ar H /\ ∃ (tag : Nat) (f : FuncId) (first captured : List AV),evo P none e g = .fn (.func f) first captured /\
   ACall P f (first.map AV.borrow ++ [.yld H.length ⟨tag,ps,assign,body⟩] ++ captured.map AV.borrow) (H ++ [some (loopc 0 (frameVals n e))]) fun _ H2 => ∃ st av,
    H2[H.length]? = some (some (loopc st av)) /\
     ((st = 0 /\ Q .normal e (H2.set H.length none)) \/ (st = -2 /\ Q .ret e (H2.set H.length none)) \/ ∃ k : Nat,st = (k : Int) + 1 /\ Q (.exit k) e (H2.set H.length none))
 | _,.exit id,Q => Q (.exit id)
 | _,.ret,Q => Q .ret
 | _,_,_ => fun _ _ => False
def drawsOk (h : Hint) : Code -> Bool
 | .region id ops draw => ((h.mv id).isEmpty && (!draw || drawOk h ops || (h.da id && drawOkD h ops))) || (draw && drawOkO h ops (ordI (h.mv id) ops.size) && !(h.mv id).isEmpty)
 | .seq a b => drawsOk h a && drawsOk h b
 | .cond _ a b => drawsOk h a && drawsOk h b
 | .block _ c => drawsOk h c
 | .loop c => drawsOk h c
 | .rangeFunc _ _ a b => drawsOk h a && drawsOk h b
 | _ => true
theorem exists_least {p : Nat -> Prop} (h : ∃ m,p m) : ∃ m,p m /\ ∀ k,p k -> m <= k:=by
 obtain ⟨m,hm⟩:=h
 induction m using Nat.strongRecOn with
 | _ m ih =>
  by_cases h0 : ∃ k,k < m /\ p k
  ·obtain ⟨k,hk,hp⟩:=h0
   exact ih k hk hp
  ·exact ⟨m,hm,fun k hp => Nat.le_of_not_lt fun hlt => h0 ⟨k,hlt,hp⟩⟩
theorem wpIn_loop_rel {F : Fence} {n : Nat} {P : Program} {c : Code} {Q : Exit -> Act -> World -> Prop} {a : Act} {w : World} (J : Nat -> Act -> World -> Prop) (h0 : ∃ m,J m a w)
  (round : ∀ m a w,J m a w -> c.wpIn F n P (Exit.then (fun a' w' => ∃ m',m' < m /\ J m' a' w') Q) a w) : (Code.loop c).wpIn F n P Q a w:=by
 have hl : ∀ a w,∃ m,(∃ m,J m a w) -> J m a w /\ ∀ k,J k a w -> m <= k:=fun a w => by
  by_cases he : ∃ m,J m a w
  ·obtain ⟨m,h1,h2⟩:=exists_least he
   exact ⟨m,fun _ => ⟨h1,h2⟩⟩
  ·exact ⟨0,fun h => absurd h he⟩
 refine wpIn_loop (fun a w => ∃ m,J m a w) (fun a w => Classical.choose (hl a w)) h0 fun a w hI => ?_
 obtain ⟨h1,h2⟩:=Classical.choose_spec (hl a w) hI
 refine wpIn_mono (round _ a w h1) (fun e a' w' hq => ?_)
 cases e with
 | normal =>
  obtain ⟨m',hm,hJ⟩:=hq
  refine ⟨⟨m',hJ⟩, ?_⟩
  obtain ⟨_,h4⟩:=Classical.choose_spec (hl a' w') ⟨m',hJ⟩
  exact Nat.lt_of_le_of_lt (h4 m' hJ) hm
 | _ => exact hq
def Left (F : Nat -> Prop) (G : Gh) (w : World) (n : Nat) (Q : Exit -> Env -> Heap -> Prop) (ex : Exit) (a' : Act) (w' : World) : Prop:=After F G w n (Q ex) a' w'
theorem borrow0_idem (a : AV) : borrow0 (borrow0 a) = borrow0 a:=by
 cases a <;> first | rfl | skip
 case agg cs => simp only [borrow0,List.map_map]; congr 1; exact List.map_congr_left fun c _ => borrow1_idem c
theorem borrow_idem (a : AV) : a.borrow.borrow = a.borrow:=by
 cases a <;> first | rfl | skip
 case agg cs => exact borrow0_idem (.agg cs)
 case tup vs => simp only [AV.borrow,List.map_map]; congr 1; exact List.map_congr_left fun c _ => borrow0_idem c
def Around (G0 : Gh) (w0 : World) (ro ar : Option Nat) : Prop :=
 match ro,ar with
 | none,none => True
 | some l,some o => G0.obs[o]? = some l /\ (∃ L,G0.kind l = .loop L) /\ l < w0.heap.size
 | _,_ => False
theorem Around.loop {F : Nat -> Prop} {G0 G : Gh} {w0 w : World} {ro ar : Option Nat} {H : Heap} {vs : List AV} {us : List Value} (h : Around G0 w0 ro ar) (he : Ext F G0 w0 G w) (hc : CRel F G vs H us w) (ha : around ar H) :
  ∀ l,ro = some l -> ∃ r : Loop,w.heap[l]? = some (.loop r):=by
 intro l hl
 subst hl
 cases ar with
 | none => exact h.elim
 | some o =>
  obtain ⟨h1,⟨L,h2⟩,h3⟩:=h
  obtain ⟨cs,hcs⟩:=ha
  have hk:=he.keeps.sp l h3 (by rw [h2]; rfl)
  have hi:=(hc.h.obj o cs l hcs (he.keeps.obs o l h1)).is
  rw [hk.2,h2] at hi
  obtain ⟨s,pe,t,D,st,vals,g1,_⟩:=hi
  exact ⟨_,g1⟩
theorem awp_sound {P : Program} {n : Nat} {h : Hint} (hm : P.follows .mixedOrders = true) : ∀ (c : Code) (ro ar : Option Nat) (F : Nat -> Prop) (G0 : Gh) (w0 : World) (h0 : h.gc = [] \/ G0.obs = []) (har : Around G0 w0 ro ar) (hd : drawsOk h c = true)
  (Q : Exit -> Env -> Heap -> Prop) (QQ : Exit -> Act -> World -> Prop) (G : Gh) (env : Env) (H : Heap) (a : Act) (w : World),
  SRel F G n env H a w -> Ext F G0 w0 G w -> awp P n h ar c Q env H -> (∀ ex a' w',Left F G0 w0 n Q ex a' w' -> QQ ex a' w') -> c.wpIn (fen ro) 0 P QQ a w
 | .skip,ro,ar,F,G0,w0,h0,har,_,Q,QQ,G,env,H,a,w,hs,hx,ha,hQ => wpIn_skip (hQ _ _ _ ⟨env,H,G,ha,hs,hx⟩)
 | .exit id,ro,ar,F,G0,w0,h0,har,_,Q,QQ,G,env,H,a,w,hs,hx,ha,hQ => wpIn_exit (hQ _ _ _ ⟨env,H,G,ha,hs,hx⟩)
 | .ret,ro,ar,F,G0,w0,h0,har,_,Q,QQ,G,env,H,a,w,hs,hx,ha,hQ => wpIn_ret (hQ _ _ _ ⟨env,H,G,ha,hs,hx⟩)
 | .region id ops draw,ro,ar,F,G0,w0,h0,har,hd,Q,QQ,G,env,H,a,w,hs,hx,ha,hQ => by
  have hK : Resp fun e H => (h.da id = true -> dynAll P h ops e) /\ Q .normal (frzs (h.at id) (clean (h.lv id) e) H).1 (gcut (h.ct id) (frzs (h.at id) (clean (h.lv id) e) H).1 (frzs (h.at id) (clean (h.lv id) e) H).2):=fun e e' H he hq => by
   refine ⟨fun hy => dynAll_resp he (hq.1 hy), ?_⟩
   show Q .normal (frzs (h.at id) (clean (h.lv id) e') H).1 (gcut (h.ct id) (frzs (h.at id) (clean (h.lv id) e') H).1 (frzs (h.at id) (clean (h.lv id) e') H).2)
   rw [<- clean_congr (h.lv id) he]; exact hq.2
  have hnext : ∀ a' w',After F G w n (fun e H => (h.da id = true -> dynAll P h ops e) /\ Q .normal (frzs (h.at id) (clean (h.lv id) e) H).1 (gcut (h.ct id) (frzs (h.at id) (clean (h.lv id) e) H).1 (frzs (h.at id) (clean (h.lv id) e) H).2)) a' w' -> QQ .normal a' w':=by
   rintro a' w' ⟨env',H',G',hK',hs',he⟩
   obtain ⟨G2,h2,e2⟩:=frzs_ok (h.at id) (hs'.forget (look_clean (h.lv id) env'))
   obtain ⟨G3,h3,e3⟩:=gcut_ok (h.ct id) h2 ((hx.trans he).trans e2) (h0.imp (fun hg => by unfold Hint.ct; rw [hg]; rfl) (fun hg => hg))
   exact hQ _ _ _ ⟨_,_,G3,hK'.2,h3,e3⟩
  have ho0 : (h.mv id).isEmpty = true -> h.ord id ops = ops.toList:=fun he => by
   unfold Hint.ord
   rw [List.isEmpty_iff.1 he]
  have ho1 : (h.mv id).isEmpty = false -> h.ord id ops = (ordI (h.mv id) ops.size).filterMap fun i => ops[i]?:=fun he => by
   unfold Hint.ord
   cases hmv : h.mv id with
   | nil => rw [hmv] at he; cases he
   | cons a l => rfl
  simp only [awp] at ha
  cases draw with
  | false =>
   simp only [drawsOk,Bool.not_false,Bool.true_or,Bool.and_true,Bool.false_and,Bool.or_false] at hd
   rw [ho0 hd] at ha
   exact arun_region _ _ hs ha hnext
  | true =>
   simp only [drawsOk,Bool.not_true,Bool.false_or,Bool.true_and,Bool.or_eq_true,Bool.and_eq_true,Bool.not_eq_true'] at hd
   rcases hd with ⟨he,hd | ⟨hy,hd⟩⟩ | ⟨hd,he⟩
   ·rw [ho0 he] at ha
    exact adraw_region _ hm hK hd hs ha hnext
   ·rw [ho0 he] at ha
    exact adraw_regionD _ hm (fun e H hk => hk.1 hy) hK hd hs ha hnext
   ·rw [ho1 he] at ha
    exact adraw_regionO _ _ hm hK hd hs ha hnext
 | .seq x y,ro,ar,F,G0,w0,h0,har,hd,Q,QQ,G,env,H,a,w,hs,hx,ha,hQ => by
  simp only [drawsOk,Bool.and_eq_true] at hd
  refine wpIn_seq (awp_sound hm x ro ar F G0 w0 h0 har hd.1 _ _ G env H a w hs hx ha fun ex a' w' hl => ?_)
  obtain ⟨env',H',G',hK,hs',he⟩:=hl
  cases ex with
  | normal =>
   exact awp_sound hm y ro ar F G0 w0 h0 har hd.2 Q QQ G' env' H' a' w' hs' he hK hQ
  | _ => exact hQ _ _ _ ⟨env',H',G',hK,hs',he⟩
 | .cond c x y,ro,ar,F,G0,w0,h0,har,hd,Q,QQ,G,env,H,a,w,hs,hx,ha,hQ => by
  simp only [drawsOk,Bool.and_eq_true] at hd
  simp only [awp] at ha
  split at ha
  ·rename_i t ht
   have hev : a.eval c = .bool t:=by
    obtain ⟨h1,_⟩:=ev1_ok (P:=P) (n:=n) (pre:=[]) (upre:=[]) none false c hs.c rfl hs.size hs.out
    have hr:=h1.l.rel 0 _ _ rfl rfl
    simp only [ev1,ht,AV.borrow,borrow0] at hr
    generalize a.eval c = u at hr
    cases hr; rfl
   refine wpIn_cond hev ?_
   cases t with
   | true => exact awp_sound hm x ro ar F G0 w0 h0 har hd.1 Q QQ G env H a w hs hx (by simpa using ha) hQ
   | false => exact awp_sound hm y ro ar F G0 w0 h0 har hd.2 Q QQ G env H a w hs hx (by simpa using ha) hQ
  ·exact ha.elim
 | .block id c,ro,ar,F,G0,w0,h0,har,hd,Q,QQ,G,env,H,a,w,hs,hx,ha,hQ => by
  refine wpIn_block (awp_sound hm c ro ar F G0 w0 h0 har hd _ _ G env H a w hs hx ha fun ex a' w' hl => ?_)
  obtain ⟨env',H',G',hK,hs',he⟩:=hl
  cases ex with
  | exit j =>
   simp only [Exit.inBlock] at hK ⊢
   split
   ·rename_i hj
    rw [if_pos hj] at hK
    exact hQ _ _ _ ⟨env',H',G',hK,hs',he⟩
   ·rename_i hj
    rw [if_neg hj] at hK
    exact hQ _ _ _ ⟨env',H',G',hK,hs',he⟩
  | _ => exact hQ _ _ _ ⟨env',H',G',hK,hs',he⟩
 | .loop c,ro,ar,F,G0,w0,h0,har,hd,Q,QQ,G,env,H,a,w,hs,hx,ha,hQ => by
  obtain ⟨I,μ,hI,hround⟩:=ha
  refine wpIn_loop_rel (fun m a' w' => ∃ env' H' G',I env' H' /\ μ env' H' = m /\ SRel F G' n env' H' a' w' /\ Ext F G0 w0 G' w') ⟨_,env,H,G,hI,rfl,hs,hx⟩ fun m a' w' hJ => ?_
  obtain ⟨env',H',G',hI',hμ,hs',he⟩:=hJ
  refine awp_sound hm c ro ar F G0 w0 h0 har hd _ _ G' env' H' a' w' hs' he (hround env' H' hI') fun ex a2 w2 hl => ?_
  obtain ⟨env2,H2,G2,hK,hs2,he2⟩:=hl
  cases ex with
  | normal => exact ⟨_,hμ ▸ hK.2,env2,H2,G2,hK.1,rfl,hs2,he2⟩
  | _ => exact hQ _ _ _ ⟨env2,H2,G2,hK,hs2,he2⟩
 | .rangeFunc g ps assign body,ro,ar,F,G0,w0,h0,har,hd,Q,QQ,G,env,H,a,w,hs,hx,ha,hQ => by
  simp only [drawsOk,Bool.and_eq_true] at hd
  obtain ⟨haround,tag,f,first,captured,hg,hcal,hcall⟩:=ha
  have hlen:=hs.c.h.len
  have hev : a.eval g = a.eval g:=rfl
  obtain ⟨h1,_⟩:=ev1_ok (P:=P) (n:=n) (pre:=[]) (upre:=[]) none false g hs.c rfl hs.size hs.out
  simp only [ev1,hg,List.nil_append] at h1
  have hb1 : (AV.fn (.func f) first captured).borrow = .fn (.func f) first captured:=rfl
  rw [hb1] at h1
  have main : ∀ (fn : FuncId) (D : Nat) (Gm : Gh) (wm : World) (mark : List Deferred),SRel F Gm n env H { a with defers:=mark ++ a.defers } wm -> Ext F G w Gm wm ->
    CRel F Gm (.fn (.func f) first captured :: elist n env) H (a.eval g :: a.tmps.toList) wm ->
    ∃ (d : Deferred) (w₁' : World) (us : Array Value) (w₂ : World),
     (resolve a.eval (rangeCall g wm.heap.size) 0).run P (wm.alloc (.loop { state:=.ready,pending:=none,fn,tmps:=a.tmps,params:=ps,assign,body,defers:=D })) = .ok d w₁' /\
     (invoke d.target d.args).run P w₁' = .ok (.enter f us) w₂ /\
     CallsIn (fen ro) 0 P f us w₂ (rangePost (fen ro) 0 P wm.heap.size QQ { a with defers:=mark ++ a.defers }):=by
   intro fn D Gm wm mark hsm hem hcm
   have he:=ext_newK (G:=Gm) hcm.h.fore (.loop { state:=.ready,pending:=none,fn,tmps:=a.tmps,params:=ps,assign,body,defers:=D }) (.loop ⟨tag,ps,assign,body⟩)
   have hold : ∀ b,b < wm.heap.size -> (Gm.newK wm.heap.size (.loop ⟨tag,ps,assign,body⟩)).kind b = Gm.kind b /\ (wm.alloc (.loop { state:=.ready,pending:=none,fn,tmps:=a.tmps,params:=ps,assign,body,defers:=D })).heap[b]? = wm.heap[b]?:=fun b hb =>
    ⟨Gm.newK_kind_ne _ (Nat.ne_of_lt hb),heap_alloc_lt _ hb⟩
   have hkn : (Gm.newK wm.heap.size (.loop ⟨tag,ps,assign,body⟩)).kind wm.heap.size = .loop ⟨tag,ps,assign,body⟩:=Gm.kind_set _ _
   have hmlen:=hcm.h.len
   have hobn : (Gm.newK wm.heap.size (.loop ⟨tag,ps,assign,body⟩)).obs[H.length]? = some wm.heap.size:=by
    show (Gm.obs ++ [wm.heap.size])[H.length]? = _
    rw [List.getElem?_append_right (by omega),hmlen,Nat.sub_self]; rfl
   have hyv : toks (.yld H.length ⟨tag,ps,assign,body⟩) (.func (.yield wm.heap.size) #[] #[]) = []:=toks_owned rfl _
   have hvr : VRel (Gm.newK wm.heap.size (.loop ⟨tag,ps,assign,body⟩)) (wm.alloc (.loop { state:=.ready,pending:=none,fn,tmps:=a.tmps,params:=ps,assign,body,defers:=D })) (.yld H.length ⟨tag,ps,assign,body⟩) (.func (.yield wm.heap.size) #[] #[]) :=
    .yld _ _ _ hobn (by rw [size_alloc]; omega) hkn
   have hlE : LRel F (Gm.newK wm.heap.size (.loop ⟨tag,ps,assign,body⟩)) (elist n env) a.tmps.toList (wm.alloc (.loop { state:=.ready,pending:=none,fn,tmps:=a.tmps,params:=ps,assign,body,defers:=D })) :=
    ⟨hsm.c.l.len,fun i a' u q1 q2 => (hsm.c.l.rel i a' u q1 q2).keep he.keeps,fun i a' u q1 q2 p hp => (hsm.c.l.tok i a' u q1 q2 p hp).keep fun b hb => by
     obtain ⟨t1,_,C,E,t3⟩:=(hsm.c.l.tok i a' u q1 q2 p hp).of_tok hb
     exact ⟨t1,hold b (Array.getElem?_eq_some_iff.1 t3).1⟩⟩
   have hnew:=hcm.newG (.loop ⟨tag,ps,assign,body⟩) (.loop { state:=.ready,pending:=none,fn,tmps:=a.tmps,params:=ps,assign,body,defers:=D }) (loopc 0 (frameVals n env))
    (vs:=.fn (.func f) first captured :: .yld H.length ⟨tag,ps,assign,body⟩ :: elist n env) (us':=a.eval g :: .func (.yield wm.heap.size) #[] #[] :: a.tmps.toList)
    ⟨fun hF => absurd (hcm.h.fore _ hF) (Nat.lt_irrefl _),by
     rw [hkn]
     refine ⟨.ready,none,a.tmps,(fn,D),0,frameVals n env,heap_alloc_new _ _,rfl,rfl,by simp [frameVals,elist_length]; exact hs.size.symm,fun i a' u q1 q2 => ?_⟩
     simp only [frameVals,List.getElem?_map] at q1
     cases hc : (elist n env)[i]? with
     | none => rw [hc] at q1; cases q1
     | some c =>
      rw [hc] at q1; cases q1
      exact ⟨borrow_idem c,((hsm.c.l.rel i c u hc (by rw [Array.getElem?_toList]; exact q2)).borrow).keep he.keeps⟩⟩
    (.cons ((hcm.l.rel 0 _ _ rfl rfl).keep he.keeps) (tok_nil_all (toks_fn _ _ _ _) F _ _) (.cons hvr (tok_nil_all hyv F _ _) hlE))
    (fun b => by rw [tcnt_cons,tcnt_cons,tcnt_cons,hyv,toks_fn]; simp [btoks])
   have hsp:=hnew.split (A:=[.fn (.func f) first captured,.yld H.length ⟨tag,ps,assign,body⟩]) (ua:=[a.eval g,.func (.yield wm.heap.size) #[] #[]]) rfl
   have hcD:=hsp.addD
   obtain ⟨d,us,hd1,hd2,hcr⟩:=call_parts (uargs:=#[.func (.yield wm.heap.size) #[] #[]]) hcD hcal
   refine ⟨d,_,us,_, ?_,hd2, ?_⟩
   ·simpa [resolve,Act.eval,rangeCall] using hd1
   ·have hC:=hcall _ _ _ _ hcr
    rw [Array.toArray_toList] at hC
    refine CallsIn.mono (show CallsIn (fen ro) 0 P f us _ _ from (callsIn_wide (n:=0)).2 hC) fun e w' hen => ?_
    obtain ⟨u,rfl,v,H',G',⟨st,av,hst,hor⟩,hcr',hext⟩:=hen
    have hcb : ∀ b,tcnt b (elist n env) a.tmps.toList <= 1:=fun b => by
     have : tcnt b (elist n env) a.tmps.toList + hcnt Gm H wm b <= 1:=hsm.c.cnt b
     omega
    have hj:=CRel.join (F:=F) hlE hcb (fun b hb => .inl (.inl hb)) (fun b hb => .inl (.inr hb)) hext hcr'
    have hE : CRel F G' (elist n env) H' a.tmps.toList w':=hj.rest
    have hob':=hext.keeps.obs _ _ hobn
    obtain ⟨hl',hkk'⟩:=hext.keeps.sp wm.heap.size (by rw [size_alloc]; omega) (by rw [hkn]; rfl)
    have hk' : G'.kind wm.heap.size = .loop ⟨tag,ps,assign,body⟩:=hkk'.trans hkn
    obtain ⟨r,r1,r2,_⟩:=hE.setLoop hst hob' hk' (s':=.exhausted) (p':=none) rfl
    obtain ⟨r',r1',r2',_,_,_,_,_,hset,hexs⟩:=hE.setLoop hst hob' hk' (s':=.exhausted) (p':=r.pending) rfl
    rw [r1] at r1'; cases r1'
    have hnb : r.state ≠ .busy:=fun hb => by
     rw [hb] at r2
     have : st = -1:=by cases r2; rfl
     rcases hor with ⟨h,_⟩ | ⟨h,_⟩ | ⟨k,h,_⟩ <;> omega
    have hfin : ∀ ex,Q ex env (H'.set H.length none) -> QQ ex { a with defers:=mark ++ a.defers } (w'.putObj wm.heap.size (.loop { r with state:=.exhausted })):=fun ex hq => by
     refine hQ _ _ _ ⟨env,_,G',hq,⟨hs.size, ?_,hs.out, ?_⟩,hx.trans (hem.trans (he.trans ((hext.mono fun b hb => .inl (.inl hb)).trans hexs)))⟩
     ·refine hsm.defers.keep fun b hb => ?_
      have hb1 : isD (wm.alloc (.loop { state:=.ready,pending:=none,fn,tmps:=a.tmps,params:=ps,assign,body,defers:=D })) b:=by
       unfold isD at hb ⊢
       rw [heap_alloc_lt _ (Array.getElem?_eq_some_iff.1 hb).1]; exact hb
      have hb2 : isD w' b:=(hext.cells b (.inr hb1)).trans hb1
      unfold isD at hb2 ⊢
      rw [World.putObj_heap_other (fun e => by subst e; rw [r1] at hb2; cases hb2)]; exact hb2
     ·have:=hset.drop H.length
      rw [List.set_set] at this
      exact this
    refine ⟨_,_,run_endLoop (P:=P) r1 hnb, ?_⟩
    generalize w'.putObj wm.heap.size (.loop { r with state:=.exhausted }) = w5 at hfin ⊢
    rcases hor with ⟨h,hq⟩ | ⟨h,hq⟩ | ⟨k,h,hq⟩
    ·subst h
     rw [(loopSt_ready r2).2]
     exact hfin _ hq
    ·subst h
     rw [(loopSt_ret r2).2]
     exact wpIn_ret (hfin _ hq)
    ·subst h
     rw [(loopSt_exit r2).2]
     exact wpIn_exit (hfin _ hq)
  refine wpIn_rangeFunc fun fn _ => ?_
  cases ro with
  | none =>
   have hca:=hs.c.alloc (.deferred (some [])) .imm
   have hea:=ext_alloc (F:=F) (G:=G) (w:=w) (.deferred (some [])) .imm hs.c.h.fore G.obs (fun _ _ h => h)
   have hdf : DOk F (w.alloc (.deferred (some []))) ([{ target:=.collected w.heap.size,args:=#[] }] ++ a.defers):=by
    obtain ⟨bs,b1,b2,b3⟩:=hs.defers
    have hlt : ∀ b ∈ bs,b < w.heap.size:=fun b hb => (Array.getElem?_eq_some_iff.1 (b3 b hb).2).1
    refine ⟨w.heap.size :: bs,by rw [b1]; rfl,List.nodup_cons.2 ⟨fun hm => absurd (hlt _ hm) (Nat.lt_irrefl _),b2⟩,fun b hb => ?_⟩
    rcases List.mem_cons.1 hb with rfl | hb
    ·exact ⟨fun hF => absurd (hs.c.h.fore _ hF) (Nat.lt_irrefl _),heap_alloc_new _ _⟩
    ·refine ⟨(b3 b hb).1, ?_⟩
     have:=(b3 b hb).2
     unfold isD at this ⊢
     rw [heap_alloc_lt _ (hlt b hb)]; exact this
   obtain ⟨d,w1',us,w2,m1,m2,m3⟩:=main fn w.heap.size (G.setKind w.heap.size .imm) (w.alloc (.deferred (some []))) [{ target:=.collected w.heap.size,args:=#[] }] ⟨hs.size,hdf,hs.out,hca⟩ hea (h1.alloc (.deferred (some [])) .imm)
   rw [size_alloc] at m1 m3
   exact ⟨_,_,_,d,w1',f,us,w2,run_enterLoop_outer (P:=P) fn a.tmps ps assign body,m1,fun _ _ => trivial,m2,fun hx => Bool.noConfusion hx,m3⟩
  | some l0 =>
   obtain ⟨r0,hr0⟩:=har.loop hx hs.c haround l0 rfl
   obtain ⟨d,w1',us,w2,m1,m2,m3⟩:=main fn r0.defers G w [] hs (.refl F G w) h1
   exact ⟨_,_,_,d,w1',f,us,w2,run_enterLoop_inner (P:=P) hr0 fn a.tmps ps assign body,m1,fun _ _ => trivial,m2,fun hx => Bool.noConfusion hx,m3⟩
 | .scope _,_,_,_,_,_,_,_,_,_,_,_,_,_,_,_,_,_,ha,_ => ha.elim
 | .label _,_,_,_,_,_,_,_,_,_,_,_,_,_,_,_,_,_,ha,_ => ha.elim
 | .goto _,_,_,_,_,_,_,_,_,_,_,_,_,_,_,_,_,_,ha,_ => ha.elim
 | .refuse _,_,_,_,_,_,_,_,_,_,_,_,_,_,_,_,_,_,ha,_ => ha.elim
theorem ycall_of_awp {P : Program} {n : Nat} {h : Hint} {o tag : Nat} {ps : Array Tmp} {assign body : Code} (hm : P.follows .mixedOrders = true) (hgc : h.gc = []) (hd : drawsOk h assign = true /\ drawsOk h body = true) (hps : ∀ p ∈ ps.toList,p < n) :
  ∀ (ys : List AV) (H1 : Heap) (R : AV -> Heap -> Prop) (av : List AV),H1[o]? = some (some (loopc 0 av)) -> av.length = n -> ps.toList.length = ys.length ->
   awp P n h (some o) assign (fun ex e2 H2 => ex = .normal /\ ∃ av2,H2[o]? = some (some (loopc 0 av2)) /\
    awp P n h (some o) body (fun ex e3 H3 => ∃ av3,H3[o]? = some (some (loopc (-1) av3)) /\ match ex with
     | .normal => R (.bool true) (H3.set o (some (loopc 0 av3)))
     | .ret => R (.bool false) (H3.set o (some (loopc (-2) av3)))
     | .exit k => R (.bool false) (H3.set o (some (loopc ((k : Int) + 1) av3)))
     | _ => False) e2 (H2.set o (some (loopc (-1) av2)))) (roundEnv av ps.toList ys (argsFrom 0 av)) H1 ->
   YCall P o ⟨tag,ps,assign,body⟩ ys H1 R:=by
 intro ys H1 R av hH1 hfl hpl hawp F1 G1 w1 us b hc hb hk
 obtain ⟨r,g1,g2,g4,g5,g6,g7,g8,_⟩:=hc.setLoop hH1 hb hk (s':=.ready) (p':=none) rfl
 obtain ⟨gr,gp⟩:=loopSt_ready g2
 obtain ⟨rs,rp,rf,rt,rps,ra,rb,rd⟩:=r
 simp only at g4 g5 g6 g7 g8 gr gp
 have g4:=g4.symm; have g5:=g5.symm; have g6:=g6.symm; have gr:=gr.symm; have gp:=gp.symm
 subst g4 g5 g6 gr gp
 have hul:=hc.l.len
 refine ⟨_,g1,by rw [<- hul,<- hpl]; simp,roundIn_of_wpIn trivial ?_⟩
 have hbl : b < w1.heap.size:=(Array.getElem?_eq_some_iff.1 g1).1
 have hframe : CRel F1 G1 (ys ++ elist n (argsFrom 0 av)) H1 (us ++ rt.toList) w1:=by
  rw [elist_args _ (Nat.le_of_eq hfl),hfl,Nat.sub_self,List.replicate_zero,List.append_nil]
  have htl : ∀ b',tcnt b' av rt.toList = 0:=fun b' => by
   by_cases h0 : 0 < tcnt b' av rt.toList
   ·obtain ⟨i,a',u',q1,q2,p,q3,q4⟩:=tcnt_pos _ _ h0
    have hbo:=(g8 i a' u' q1 (by rw [<- Array.getElem?_toList]; exact q2)).1
    have : toks a' u' = []:=by rw [<- hbo]; exact toks_borrow _ _
    have hmem : b' ∈ toks a' u':=List.mem_filterMap.2 ⟨p,q3,q4⟩
    rw [this] at hmem; cases hmem
   ·omega
  refine ⟨hc.l.append ⟨by simpa using g7,fun i a' u' q1 q2 => (g8 i a' u' q1 (by rw [<- Array.getElem?_toList]; exact q2)).2,fun i a' u' q1 q2 => ?_⟩,hc.h,fun b' => ?_⟩
  ·have hbo:=(g8 i a' u' q1 (by rw [<- Array.getElem?_toList]; exact q2)).1
   exact tok_nil_all (by rw [<- hbo]; exact toks_borrow _ _) F1 G1 w1
  ·rw [tcnt_append _ _ _ _ _ hul,htl]
   exact hc.cnt b'
 have hrt : rt.size = n:=by rw [<- g7,hfl]
 obtain ⟨hc2,hsz,hout⟩:=round_frame (vals:=av) ps.toList ys us (argsFrom 0 av) rt hframe hul hrt hps (fun t ht => by
  rw [look_argsFrom,if_pos (Nat.zero_le _),List.getElem?_eq_none (by rw [Nat.sub_zero,hfl]; exact ht)]; rfl) hpl
 have hfold : ((ps.zip us.toArray).foldl (fun tmps (t,a) => tmps.setIfInBounds t a) rt) = ((ps.toList.zip us).foldl (fun (t : Array Value) (x : Tmp × Value) => t.setIfInBounds x.1 x.2) rt):=by
  rw [<- Array.foldl_toList,Array.toList_zip]
 simp only [hfold]
 have hs1 : SRel F1 G1 n (roundEnv av ps.toList ys (argsFrom 0 av)) H1 { tmps:=(ps.toList.zip us).foldl (fun (t : Array Value) (x : Tmp × Value) => t.setIfInBounds x.1 x.2) rt,defers:=[] } w1 :=
  ⟨hsz,.nil F1 w1,hout,hc2⟩
 have har1 : Around G1 w1 (some b) (some o):=⟨hb,⟨_,hk⟩,hbl⟩
 refine awp_sound hm assign (some b) (some o) F1 G1 w1 (.inl hgc) har1 hd.1 _ _ G1 _ H1 _ w1 hs1 (.refl F1 G1 w1) hawp fun ex a2 w2 hl => ?_
 obtain ⟨e2,H2,G2,⟨rfl,av2,hH2,hbody⟩,hs2,he2⟩:=hl
 have hob2 : G2.obs[o]? = some b:=he2.keeps.obs _ _ hb
 obtain ⟨hbl2,hkk2⟩:=he2.keeps.sp b hbl (by rw [hk]; rfl)
 have hk2 : G2.kind b = .loop ⟨tag,ps,assign,body⟩:=hkk2.trans hk
 obtain ⟨r2,j1,j2,j4,j5,j6,j7,j8,j9,j10⟩:=hs2.c.setLoop hH2 hob2 hk2 (s':=.busy) (p':=none) rfl
 obtain ⟨jr,jp⟩:=loopSt_ready j2
 have hbegin:=run_beginRound (P:=P) j1 jr
 rw [show ({ r2 with state:=.busy } : Loop) = { r2 with state:=.busy,pending:=none } by rw [<- jp]] at hbegin
 refine ⟨_,hbegin, ?_⟩
 have hdef3 : DOk F1 (w2.putObj b (.loop { r2 with state:=.busy,pending:=none })) a2.defers:=hs2.defers.keep fun b' hb' => by
  unfold isD at hb' ⊢
  rw [World.putObj_heap_other (fun e => by subst e; rw [j1] at hb'; cases hb')]; exact hb'
 generalize w2.putObj b (.loop { r2 with state:=.busy,pending:=none }) = w3 at j9 j10 hdef3 ⊢
 have he3:=he2.trans j10
 ·have hs3 : SRel F1 G2 n e2 (H2.set o (some (loopc (-1) av2))) a2 w3:=⟨hs2.size,hdef3,hs2.out,j9⟩
  refine awp_sound hm body (some b) (some o) F1 G1 w1 (.inl hgc) har1 hd.2 _ _ G2 e2 _ a2 w3 hs3 he3 hbody fun ex a4 w4 hl => ?_
  obtain ⟨e4,H4,G4,⟨av3,hH4,hR⟩,hs4,he4⟩:=hl
  have hob4 : G4.obs[o]? = some b:=he4.keeps.obs _ _ hb
  obtain ⟨hbl4,hkk4⟩:=he4.keeps.sp b hbl (by rw [hk]; rfl)
  have hk4 : G4.kind b = .loop ⟨tag,ps,assign,body⟩:=hkk4.trans hk
  have fin : ∀ (jump : Option Code) (s' : LoopState) (st' : Int) (Q' : Prop),s' = (if jump.isNone then .ready else .done) -> loopSt s' jump = some st' -> R (.bool jump.isNone) (H4.set o (some (loopc st' av3))) ->
    ∃ v w',(Instr.endRound b jump).run P w4 = .ok v w' /\ ∃ u,Ending.returned v = .returned u /\ KOut F1 G1 w1 R u w':=by
   intro jump s' st' _ hs' hst hR'
   obtain ⟨r4,i1,i2,i4,i5,i6,i7,i8,i9,i10⟩:=hs4.c.setLoop hH4 hob4 hk4 (s':=s') (p':=jump) hst
   refine ⟨_,_,run_endRound (P:=P) jump i1,_,rfl,.bool jump.isNone,_,G4,hR', ?_, ?_⟩
   ·rw [<- hs']
    exact i9.plain (.bool _) (toks_owned rfl _)
   ·rw [<- hs']
    exact he4.trans i10
  cases ex with
  | normal => exact fin none .ready 0 True rfl rfl hR
  | ret => exact fin (some .ret) .done (-2) True rfl rfl hR
  | exit k => exact fin (some (.exit k)) .done _ True rfl rfl hR
  | _ => exact hR.elim
end Go.AI
