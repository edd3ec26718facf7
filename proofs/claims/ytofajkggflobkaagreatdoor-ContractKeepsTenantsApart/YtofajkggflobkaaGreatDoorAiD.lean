/- The abstract frame: slots by name; an operand's value taken out of it, with or without its right to append. -/
import Derived.Test.YtofajkggflobkaaGreatDoorAiC
set_option linter.unusedSimpArgs false
set_option linter.unusedVariables false
namespace Go.AI
abbrev Env:=List (Tmp × AV)
def look : Env -> Tmp -> AV
 | [],_ => .undef
 | (k,v) :: r,t => if k = t then v else look r t
def elist (n : Nat) (env : Env) : List AV:=(List.range n).map (look env)
def owned1 : AV -> Bool
 | .sl (some _) _ => true
 | _ => false
def AV.owned (a : AV) : Bool:=a.flat.any owned1
def const1 : Value -> AV
 | .int k n => .int k n
 | .bool b => .bool b
 | .string s => .str s
 | .pointer none => .nilp
 | .slice none 0 0 => .sl none []
 | .nilFunc => .nilf
 | .map none => .nilm
 | .nilIface => .nili
 | _ => .undef
def constAV (own : Option Nat) : Value -> AV
 | .slice none 0 0 => .sl own []
 | .agg cs => if (cs.toList.map const1).all AV.scalar then .agg (cs.toList.map const1) else .undef
 | v => const1 v
def nilOwn (P : Program) : Option TypeId -> Option Nat
 | some t => match P.underlying t with
  | some (.slice e) => some (P.cellsOf e)
  | _ => none
 | none => none
def evo (P : Program) (ty : Option TypeId) (env : Env) : Operand -> AV
 | .tmp t => look env t
 | .const v => constAV (nilOwn P ty) v
 | .global g => match glb.lookup g with
  | some cs => .cptr cs 0
  | none => .undef
 | .func f => .fn (.func f) [] []
def ev1 (P : Program) (ty : Option TypeId) (take : Bool) (x : Operand) (env : Env) : AV × Env :=
 match take with
 | true => (evo P ty env x,match (evo P ty env x).owned,x with
  | true,.tmp t => (t,(look env t).borrow) :: env
  | _,_ => env)
 | false => ((evo P ty env x).borrow,env)
def evs (P : Program) (ty : Option TypeId) (take : Bool) : List Operand -> Env -> List AV × Env
 | [],env => ([],env)
 | x :: xs,env => ((ev1 P ty take x env).1 :: (evs P ty take xs (ev1 P ty take x env).2).1,(evs P ty take xs (ev1 P ty take x env).2).2)
theorem elist_length (n : Nat) (env : Env) : (elist n env).length = n:=by simp [elist]
theorem elist_get {n t : Nat} (env : Env) (h : t < n) : (elist n env)[t]? = some (look env t):=by simp [elist,h]
theorem elist_put {n t : Nat} (env : Env) (v : AV) (h : t < n) : elist n ((t,v) :: env) = (elist n env).set t v:=by
 apply List.ext_getElem?
 intro i
 by_cases hi : i < n
 ·rw [elist_get _ hi,List.getElem?_set,elist_length]
  by_cases ht : t = i
  ·subst ht; simp [look,h]
  ·simp [look,ht,elist_get _ hi]
 ·rw [List.getElem?_eq_none (by rw [elist_length]; omega),List.getElem?_eq_none (by simp [elist_length]; omega)]
theorem tok_borrow1 (a : AV) (v : Value) : tok (borrow1 a,v) = none:=by cases a <;> rfl
theorem cells_borrow0 (a : AV) : (borrow0 a).cells = a.cells.map borrow1:=by cases a <;> rfl
theorem flat_borrow (a : AV) : a.borrow.flat = a.flat.map borrow1:=by
 cases a with
 | tup vs =>
  simp only [AV.borrow,AV.flat,List.flatMap_map,List.map_flatMap]
  congr 1
  funext v
  exact cells_borrow0 v
 | _ => rfl
theorem toks_of {a : AV} {v : Value} (h : ∀ c ∈ a.flat,∀ u,tok (c,u) = none) : toks a v = []:=by
 unfold toks
 rw [List.filterMap_eq_nil_iff]
 intro p hp
 have:=(List.of_mem_zip (show (p.1,p.2) ∈ a.flat.zip (vflat v) from hp)).1
 exact h p.1 this p.2
theorem toks_borrow (a : AV) (v : Value) : toks a.borrow v = []:=toks_of fun c hc u => by
 rw [flat_borrow] at hc
 obtain ⟨d,_,rfl⟩:=List.mem_map.1 hc
 exact tok_borrow1 d u
theorem tok_owned1 {c : AV} (h : owned1 c = false) (u : Value) : tok (c,u) = none:=by
 cases c with
 | sl own es => cases own with
  | none => rfl
  | some n => cases h
 | _ => rfl
theorem toks_owned {a : AV} (h : a.owned = false) (v : Value) : toks a v = []:=toks_of fun c hc u => by
 refine tok_owned1 ?_ u
 have:=List.any_eq_false.1 h c hc
 simpa using this
theorem tok_nil_all {a : AV} {v : Value} (h : toks a v = []) (F : Nat -> Prop) (G : Gh) (w : World) : ∀ p ∈ prs a v,TokOk F G w p:=fun p hp =>
 TokOk.of_none (List.filterMap_eq_nil_iff.1 h p hp)
theorem VRel.const1 (G : Gh) (w : World) (v : Value) : VRel G w (const1 v) v:=by
 unfold Go.AI.const1
 split <;> first | exact .int _ _ | exact .bool _ | exact .str _ | exact .nilp | exact .slnil _ | exact .nilf | exact .nilm | exact .nili | exact .undef _
theorem const1_owned1 (v : Value) : owned1 (const1 v) = false:=by
 unfold Go.AI.const1
 split <;> rfl
theorem VRel.const (G : Gh) (w : World) (own : Option Nat) (v : Value) : VRel G w (constAV own v) v:=by
 unfold constAV
 split
 ·exact .slnil _
 ·rename_i cs
  split
  ·rename_i hs
   refine .agg _ cs (by simp) (List.all_eq_true.1 hs) (fun i c u hi hu => ?_)
   rw [List.getElem?_map] at hi
   simp only [Array.getElem?_toList,hu,Option.map_some,Option.some.injEq] at hi
   subst hi
   exact VRel.const1 G w u
  ·exact .undef _
 ·exact VRel.const1 G w v
theorem toks_const (own : Option Nat) (v : Value) : toks (constAV own v) v = []:=by
 unfold constAV
 split
 ·simp [toks,prs,AV.flat,AV.cells,vflat,Value.cells,tok]
 ·split
  ·refine toks_of fun c hc u => ?_
   simp only [AV.flat,AV.cells] at hc
   obtain ⟨d,_,rfl⟩:=List.mem_map.1 hc
   exact tok_owned1 (const1_owned1 d) u
  ·exact toks_of fun c hc u => by simp only [AV.flat,AV.cells,List.mem_singleton] at hc; subst hc; rfl
 ·refine toks_of fun c hc u => ?_
  rename_i h1 h2
  have hc' : c = const1 v:=by
   revert hc
   unfold const1
   split <;> simp [AV.flat,AV.cells]
  subst hc'
  exact tok_owned1 (const1_owned1 v) u
theorem toks_undef (v : Value) : toks .undef v = []:=toks_of fun c hc u => by simp only [AV.flat,AV.cells,List.mem_singleton] at hc; subst hc; rfl
theorem toks_fn (f : Fn) (a b : List AV) (v : Value) : toks (.fn f a b) v = []:=toks_of fun c hc u => by simp only [AV.flat,AV.cells,List.mem_singleton] at hc; subst hc; rfl
theorem CRel.insert {F : Nat -> Prop} {G : Gh} {pre L L' : List AV} {H : Heap} {upre tm : List Value} {w : World} {v : AV} {u : Value} (h : CRel F G (pre ++ L) H (upre ++ tm) w) (hp : pre.length = upre.length)
  (hv : VRel G w v u) (ht : ∀ p ∈ prs v u,TokOk F G w p) (hl : LRel F G L' tm w) (hc : ∀ b,(toks v u).count b + tcnt b L' tm <= tcnt b L tm) :
  CRel F G (pre ++ (v :: L')) H (upre ++ (u :: tm)) w:=by
 refine ⟨(h.l.split hp).1.append (.cons hv ht hl),h.h,fun b => ?_⟩
 have h1:=h.cnt b
 have h2:=hc b
 rw [tcnt_append b pre upre _ _ hp] at h1 ⊢
 rw [tcnt_cons]
 omega
theorem LRel.set {F : Nat -> Prop} {G : Gh} {w : World} {vs : List AV} {us : List Value} (h : LRel F G vs us w) {t : Nat} {v : AV} {u : Value} (hu : us[t]? = some u) (hv : VRel G w v u)
  (ht : ∀ p ∈ prs v u,TokOk F G w p) : LRel F G (vs.set t v) us w:=by
 refine ⟨by simp [h.len],fun i a x h1 h2 => ?_,fun i a x h1 h2 => ?_⟩ <;> rw [List.getElem?_set] at h1 <;> split at h1
 ·rename_i hti
  subst hti
  split at h1
  ·cases h1; rw [hu] at h2; cases h2; exact hv
  ·cases h1
 ·exact h.rel i a x h1 h2
 ·rename_i hti
  subst hti
  split at h1
  ·cases h1; rw [hu] at h2; cases h2; exact ht
  ·cases h1
 ·exact h.tok i a x h1 h2
theorem set_same {us : List Value} {t : Nat} {u : Value} (h : us[t]? = some u) : us.set t u = us:=by
 apply List.ext_getElem?
 intro i
 rw [List.getElem?_set]
 split
 ·rename_i hti
  subst hti
  rw [h]
  simp [(List.getElem?_eq_some_iff.1 h).1]
 ·rfl
theorem ev1_ok {F : Nat -> Prop} {G : Gh} {P : Program} {n : Nat} {env : Env} {H : Heap} {w : World} {a : Act} {pre : List AV} {upre : List Value} (ty : Option TypeId) (take : Bool) (x : Operand)
  (h : CRel F G (pre ++ elist n env) H (upre ++ a.tmps.toList) w) (hp : pre.length = upre.length) (hn : a.tmps.size = n) (ho : ∀ t,n <= t -> look env t = .undef) :
  CRel F G (pre ++ ((ev1 P ty take x env).1 :: elist n (ev1 P ty take x env).2)) H (upre ++ (a.eval x :: a.tmps.toList)) w /\ ∀ t,n <= t -> look (ev1 P ty take x env).2 t = .undef:=by
 have hL:=(h.l.split hp).2
 have hv : VRel G w (evo P ty env x) (a.eval x) /\ (∀ p ∈ prs (evo P ty env x) (a.eval x),TokOk F G w p) /\ ((∃ t,x = .tmp t /\ t < n) \/ toks (evo P ty env x) (a.eval x) = []):=by
  cases x with
  | tmp t =>
   by_cases ht : t < n
   ·have hu : a.tmps.toList[t]? = some (a.eval (.tmp t)):=by
     simp [Act.eval,hn,ht]
    exact ⟨hL.rel t _ _ (elist_get env ht) hu,hL.tok t _ _ (elist_get env ht) hu,.inl ⟨t,rfl,ht⟩⟩
   ·have h0 : evo P ty env (.tmp t) = .undef:=ho t (Nat.le_of_not_lt ht)
    rw [h0]
    exact ⟨.undef _,tok_nil_all (toks_undef _) F G w,.inr (toks_undef _)⟩
  | const v => exact ⟨VRel.const G w _ v,tok_nil_all (toks_const _ v) F G w,.inr (toks_const _ v)⟩
  | global g =>
   simp only [evo]
   split
   ·rename_i cs hcs
    exact ⟨h.h.glob.vrel hcs,tok_nil_all (toks_owned rfl _) F G w,.inr (toks_owned rfl _)⟩
   ·exact ⟨.undef _,tok_nil_all (toks_undef _) F G w,.inr (toks_undef _)⟩
  | func f =>
   refine ⟨.fn _ [] [] #[] #[] rfl rfl (fun i c v hc => by simp at hc) (fun i c v hc => by simp at hc),tok_nil_all (toks_fn _ _ _ _) F G w,.inr (toks_fn _ _ _ _)⟩
 obtain ⟨hv1,hv2,hv3⟩:=hv
 have plain : ∀ (v : AV),VRel G w v (a.eval x) -> toks v (a.eval x) = [] ->
   CRel F G (pre ++ (v :: elist n env)) H (upre ++ (a.eval x :: a.tmps.toList)) w:=fun v g1 g2 =>
  h.insert hp g1 (tok_nil_all g2 F G w) hL fun b => by rw [g2]; simp
 cases take with
 | false => exact ⟨plain _ hv1.borrow (toks_borrow _ _),ho⟩
 | true =>
  simp only [ev1]
  split
  ·rename_i t hown
   have ht : t < n:=by
    by_cases ht : t < n
    ·exact ht
    ·rw [show evo P ty env (.tmp t) = .undef from ho t (Nat.le_of_not_lt ht)] at hown
     cases hown
   have hu : a.tmps.toList[t]? = some (a.eval (.tmp t)):=by simp [Act.eval,hn,ht]
   refine ⟨?_,fun t' ht' => ?_⟩
   ·rw [elist_put env _ ht]
    refine h.insert hp hv1 hv2 (hL.set hu hv1.borrow (tok_nil_all (toks_borrow _ _) F G w)) fun b => ?_
    have h1:=tcnt_set b (elist n env) a.tmps.toList t (look env t).borrow (look env t) (a.eval (.tmp t)) (a.eval (.tmp t)) (elist_get env ht) hu
    rw [set_same hu,toks_borrow] at h1
    simp only [List.count_nil] at h1
    simp only [evo]
    omega
   ·simp only [look]
    rw [if_neg (fun e => by subst e; exact absurd ht (Nat.not_lt.2 ht'))]
    exact ho t' ht'
  ·rename_i hne
   refine ⟨plain _ hv1 ?_,ho⟩
   rcases hv3 with ⟨t,rfl,ht⟩ | h3
   ·cases hown : (evo P ty env (.tmp t)).owned with
    | false => exact toks_owned hown _
    | true => exact absurd rfl (hne t hown)
   ·exact h3
theorem evs_ok {F : Nat -> Prop} {G : Gh} {P : Program} {n : Nat} {H : Heap} {w : World} {a : Act} (ty : Option TypeId) (take : Bool) (hn : a.tmps.size = n) : ∀ (xs : List Operand) (env : Env) (pre : List AV) (upre : List Value),
  CRel F G (pre ++ elist n env) H (upre ++ a.tmps.toList) w -> pre.length = upre.length -> (∀ t,n <= t -> look env t = .undef) ->
  CRel F G (pre ++ ((evs P ty take xs env).1 ++ elist n (evs P ty take xs env).2)) H (upre ++ (xs.map a.eval ++ a.tmps.toList)) w /\ ∀ t,n <= t -> look (evs P ty take xs env).2 t = .undef
 | [],env,pre,upre,h,_,ho => ⟨h,ho⟩
 | x :: xs,env,pre,upre,h,hp,ho => by
  obtain ⟨h1,ho1⟩:=ev1_ok (P:=P) ty take x h hp hn ho
  have h2:=evs_ok (P:=P) ty take hn xs (ev1 P ty take x env).2 (pre ++ [(ev1 P ty take x env).1]) (upre ++ [a.eval x]) (by simpa using h1) (by simp [hp]) ho1
  simp only [evs,List.map_cons]
  exact ⟨by simpa using h2.1,h2.2⟩
end Go.AI
