/- Loops over functions: entered, a round, left. -/
import Derived.Test.YtofajkggflobkaaGreatDoorMw
import Derived.Test.YtofajkggflobkaaGreatDoorAiHb
set_option linter.unusedSimpArgs false
set_option linter.unusedVariables false
namespace Go.AI
def argsFrom (k : Nat) : List AV -> Env
 | [] => []
 | v :: vs => (k,v) :: argsFrom (k + 1) vs
section
variable {P : Program} {F : Nat -> Prop} {G : Gh} {w : World} {H : Heap} {n : Nat}
theorem look_argsFrom : ∀ (vs : List AV) (k t : Nat),look (argsFrom k vs) t = if k <= t then (vs[t - k]?).getD .undef else .undef
 | [],k,t => by simp [argsFrom,look]
 | v :: vs,k,t => by
  simp only [argsFrom,look]
  by_cases h : k = t
  ·subst h; simp
  ·rw [if_neg h,look_argsFrom vs (k + 1) t]
   by_cases hk : k <= t
   ·rw [if_pos (by omega),if_pos hk,show t - k = (t - (k + 1)) + 1 by omega]
    simp
   ·rw [if_neg (by omega),if_neg hk]
theorem elist_args (vs : List AV) (h : vs.length <= n) : elist n (argsFrom 0 vs) = vs ++ List.replicate (n - vs.length) .undef:=by
 apply List.ext_getElem?
 intro i
 by_cases hi : i < n
 ·rw [elist_get _ hi,look_argsFrom,if_pos (Nat.zero_le _),Nat.sub_zero]
  by_cases hv : i < vs.length
  ·rw [List.getElem?_append_left hv,List.getElem?_eq_getElem hv]; rfl
  ·rw [List.getElem?_append_right (by omega),List.getElem?_eq_none (by omega),List.getElem?_replicate,if_pos (by omega)]; rfl
 ·rw [List.getElem?_eq_none (by rw [elist_length]; omega),List.getElem?_eq_none (by simp; omega)]
theorem call_parts {f : FuncId} {first captured args : List AV} {fv : Value} {uargs : Array Value} (hc : CRel F G (.fn (.func f) first captured :: args) H (fv :: uargs.toList) w) (hcal : callable P f = true) :
  ∃ (d : Deferred) (us : Array Value),(Deferred.ofValue fv uargs).run P w = .ok d w /\ (invoke d.target d.args).run P w = .ok (.enter f us) w /\
   CRel F G (first.map AV.borrow ++ args ++ captured.map AV.borrow) H us.toList w:=by
 have hx:=hc.l.rel 0 _ _ rfl rfl
 obtain ⟨_,_,hargs⟩:=hc.l.uncons
 cases hx with
 | fn _ _ _ fi ca h1 h2 h3 h4 =>
  obtain ⟨l1,t1⟩:=map_borrow_LRel (F:=F) (G:=G) (w:=w) (first:=first) (fi:=fi.toList) (by simpa using h1) (fun i c v a b => h3 i c v a (by simpa using b))
  obtain ⟨l2,t2⟩:=map_borrow_LRel (F:=F) (G:=G) (w:=w) (first:=captured) (fi:=ca.toList) (by simpa using h2) (fun i c v a b => h4 i c v a (by simpa using b))
  have hcr : CRel F G (first.map AV.borrow ++ args ++ captured.map AV.borrow) H (fi.toList ++ uargs.toList ++ ca.toList) w:=by
   refine ⟨(l1.append hargs).append l2,hc.h,fun b => ?_⟩
   rw [tcnt_append _ _ _ _ _ (l1.append hargs).len,tcnt_append _ _ _ _ _ l1.len,t1,t2]
   have:=hc.cnt b
   rw [tcnt_cons] at this
   omega
  refine ⟨{ target:=.fn (.func f) ca,args:=fi ++ uargs },fi ++ uargs ++ ca,rfl, ?_,by simpa using hcr⟩
  unfold callable at hcal
  split at hcal
  ·rename_i fn hfn
   simp only [Bool.and_eq_true,Bool.not_eq_true',beq_eq_false_iff_ne,ne_eq] at hcal
   obtain ⟨g1,g2⟩:=hcal
   have g3 : fn.body.isNone = false:=by cases hb : fn.body <;> simp_all
   simp only [Sem.run_bind,Sem.run_pure,Result.andThen_ok,invoke,callFunc,run_program,hfn,Sem.run_ite,beq_eq_false_iff_ne.2 g1,g3,Bool.false_eq_true,if_false]
  ·cases hcal
def roundEnv (vals : List AV) : List Tmp -> List AV -> Env -> Env
 | p :: ps,y :: ys,e => roundEnv vals ps ys ((p,y) :: e)
 | _,_,e => e
def frameVals (n : Nat) (e : Env) : List AV:=(elist n e).map AV.borrow
theorem round_frame {vals : List AV} : ∀ (ps : List Tmp) (ys : List AV) (us : List Value) (e : Env) (tm : Array Value),CRel F G (ys ++ elist n e) H (us ++ tm.toList) w -> ys.length = us.length -> tm.size = n -> (∀ p ∈ ps,p < n) ->
  (∀ t,n <= t -> look e t = .undef) -> ps.length = ys.length ->
  CRel F G (elist n (roundEnv vals ps ys e)) H ((ps.zip us).foldl (fun (t : Array Value) (x : Tmp × Value) => t.setIfInBounds x.1 x.2) tm).toList w /\
   ((ps.zip us).foldl (fun (t : Array Value) (x : Tmp × Value) => t.setIfInBounds x.1 x.2) tm).size = n /\ ∀ t,n <= t -> look (roundEnv vals ps ys e) t = .undef
 | [],[],[],e,tm,h,_,hn,_,ho,_ => ⟨by simpa [roundEnv] using h,hn,ho⟩
 | p :: ps,y :: ys,u :: us,e,tm,h,hl,hn,hp,ho,hps => by
  have hpn:=hp p (by simp)
  have hl' : ys.length = us.length:=by simpa using hl
  have hset:=h.setSlot (v:=y) (L:=ys ++ elist n e) (u:=u) (tm:=us ++ tm.toList) (d:=us.length + p) (by
   have h1 : tm.toList.length = n:=by rw [Array.length_toList]; exact hn
   rw [List.length_append,h1]; exact Nat.add_lt_add_left hpn _)
  have e1 : (ys ++ elist n e).set (us.length + p) y = ys ++ elist n ((p,y) :: e):=by
   rw [elist_put e y hpn,List.set_append_right _ _ (by omega)]
   congr 2; omega
  have e2 : (us ++ tm.toList).set (us.length + p) u = us ++ (tm.setIfInBounds p u).toList:=by
   rw [List.set_append_right _ _ (by omega),Array.toList_setIfInBounds]
   congr 2; omega
  rw [e1,e2] at hset
  exact round_frame ps ys us ((p,y) :: e) (tm.setIfInBounds p u) hset hl' (by simpa using hn) (fun q hq => hp q (by simp [hq])) (fun t ht => by
   have hne : ¬ p = t:=fun e => by subst e; exact absurd hpn (Nat.not_lt.2 ht)
   simp only [look]
   rw [if_neg hne]
   exact ho t ht) (by simpa using hps)
 | [],_ :: _,_,_,_,_,_,_,_,_,h => by simp at h
 | _ :: _,[],_,_,_,_,_,_,_,_,h => by simp at h
 | _ :: _,_ :: _,[],_,_,_,h,_,_,_,_ => by simp at h
 | [],[],_ :: _,_,_,_,h,_,_,_,_ => by simp at h
theorem loopSt_ready {s : LoopState} {p : Option Code} (h : loopSt s p = some 0) : s = .ready /\ p = none:=by
 unfold loopSt at h
 split at h <;> first | exact ⟨rfl,rfl⟩ | (simp at h; try omega)
theorem loopSt_ret {s : LoopState} {p : Option Code} (h : loopSt s p = some (-2)) : s = .done /\ p = some .ret:=by
 unfold loopSt at h
 split at h <;> first | exact ⟨rfl,rfl⟩ | (simp at h; try omega)
theorem loopSt_exit {s : LoopState} {p : Option Code} {k : Nat} (h : loopSt s p = some ((k : Int) + 1)) : s = .done /\ p = some (.exit k):=by
 unfold loopSt at h
 split at h <;> first | (simp at h; omega) | skip
 ·rename_i j
  have : j = k:=by simp at h; omega
  subst this; exact ⟨rfl,rfl⟩
 ·simp at h
end
end Go.AI
