/- A region whose order is left open, walked in the order of the text; code; loops. -/
import Derived.Test.YtofajkggflobkaaGreatDoorAiV
set_option linter.unusedSimpArgs false
set_option linter.unusedVariables false
namespace Go.AI
def aAny (P : Program) (n : Nat) (h : Hint) (ops : Array Oper) (K : Env -> Heap -> Prop) : Nat -> Array Bool -> Env -> Heap -> Prop
 | 0,listed => fun e H => Region.ready .any ops listed = [] /\ K e H
 | fuel + 1,listed => fun e H => (Region.ready .any ops listed = [] -> K e H) /\
   ∀ i ∈ Region.ready .any ops listed,∃ o,ops[i]? = some o /\ aop P n h ops o (aAny P n h ops K fuel (listed.setIfInBounds i true)) e H
theorem getD_ft {listed : Array Bool} {k : Nat} (h : listed.getD k false = true) : listed.getD k true = true:=by
 rw [Array.getD_eq_getD_getElem?] at h ⊢
 cases hx : listed[k]? with
 | none => rfl
 | some b => rw [hx] at h; exact h
def reachB (ops : Array Oper) : Nat -> Nat -> Nat -> Bool
 | 0,_,_ => false
 | f + 1,j,i => match ops[j]? with
  | none => false
  | some oj => oj.after.any fun e => Region.binds .any e && (e.on == i || reachB ops f e.on i)
def Cl (ops : Array Oper) (listed : Array Bool) : Prop:=∀ (m : Nat) (om : Oper),ops[m]? = some om -> listed.getD m true = true -> ∀ e ∈ om.after,Region.binds .any e = true -> listed.getD e.on true = true
theorem reach_listed {ops : Array Oper} {listed : Array Bool} (hcl : Cl ops listed) {i : Nat} : ∀ (f j : Nat),reachB ops f j i = true -> (∀ oj,ops[j]? = some oj -> ∀ e ∈ oj.after,Region.binds .any e = true -> listed.getD e.on true = true) -> listed.getD i true = true
 | 0,j,h,_ => by cases h
 | f + 1,j,h,ha => by
  unfold reachB at h
  split at h
  ·cases h
  ·rename_i oj hj
   obtain ⟨e,he,hb⟩:=Array.any_eq_true'.1 h
   simp only [Bool.and_eq_true,Bool.or_eq_true,beq_iff_eq] at hb
   have hl:=ha oj hj e he hb.1
   rcases hb.2 with h1 | h1
   ·rw [<- h1]; exact hl
   ·exact reach_listed hcl f e.on h1 fun om hm e' he' hb' => hcl e.on om hm hl e' he' hb'
theorem Cl.add {ops : Array Oper} {listed : Array Bool} (hcl : Cl ops listed) {j : Nat} (hj : j ∈ Region.ready .any ops listed) : Cl ops (listed.setIfInBounds j true):=by
 have mono : ∀ k,listed.getD k true = true -> (listed.setIfInBounds j true).getD k true = true:=fun k hk => by
  by_cases hjk : j = k
  ·subst hjk
   rw [Array.getD_eq_getD_getElem?,Array.getElem?_setIfInBounds_self]
   split <;> rfl
  ·rw [getD_set_ne true hjk]; exact hk
 intro m om hm hl e he hb
 by_cases hjm : j = m
 ·subst hjm
  obtain ⟨_,oj,hoj,hall⟩:=mem_ready.1 hj
  rw [hm] at hoj; cases hoj
  refine mono _ ?_
  exact getD_ft (hall e he hb)
 ·rw [getD_set_ne true hjm] at hl
  exact mono _ (hcl m om hm hl e he hb)
def afree (h : Hint) (ops : Array Oper) (listed : Array Bool) (i : Nat) : Bool :=
 match ops[i]? with
 | none => false
 | some oi => (List.range ops.size).all fun j => j == i || listed.getD j true || match ops[j]? with
   | some oj => oj.after.any (fun e => Region.binds .any e && e.on == i) || indep h ops oi oj || reachB ops 9 j i
   | none => true
def alexFrom (h : Hint) (ops : Array Oper) : Nat -> Nat -> Array Bool -> Bool
 | 0,_,listed => (Region.ready .any ops listed).isEmpty
 | fuel + 1,k,listed => (Region.ready .any ops listed).contains k && afree h ops listed k && alexFrom h ops fuel (k + 1) (listed.setIfInBounds k true)
def drawOk (h : Hint) (ops : Array Oper) : Bool:=alexFrom h ops ops.size 0 (Array.replicate ops.size false)
def alexO (h : Hint) (ops : Array Oper) : List Nat -> Array Bool -> Bool
 | [],listed => (Region.ready .any ops listed).isEmpty
 | k :: r,listed => (Region.ready .any ops listed).contains k && afree h ops listed k && alexO h ops r (listed.setIfInBounds k true)
def drawOkO (h : Hint) (ops : Array Oper) (l : List Nat) : Bool:=l.length == ops.size && alexO h ops l (Array.replicate ops.size false)
section
variable {P : Program} {n : Nat} {h : Hint} {ops : Array Oper} {K : Env -> Heap -> Prop}
theorem aAny_resp (hK : Resp K) : ∀ (fuel : Nat) (listed : Array Bool),Resp (aAny P n h ops K fuel listed)
 | 0,listed => fun e e' H he ha => ⟨ha.1,hK e e' H he ha.2⟩
 | fuel + 1,listed => fun e e' H he ha => ⟨fun hr => hK e e' H he (ha.1 hr),fun i hi =>
   let ⟨o,ho,h1⟩:=ha.2 i hi
   ⟨o,ho,aop_resp (aAny_resp hK fuel _) e e' H he h1⟩⟩
theorem aAny_first (hK : Resp K) {i : Nat} {oi : Oper} (hi : ops[i]? = some oi) : ∀ (fuel : Nat) (listed : Array Bool) (e : Env) (H : Heap),
  (∀ (j : Nat) (oj : Oper),ops[j]? = some oj -> j ≠ i -> listed.getD j true = false -> (∀ e ∈ oj.after,Region.binds .any e = true -> e.on ≠ i) -> reachB ops 9 j i = false -> indep h ops oi oj = true) -> Cl ops listed ->
  i ∈ Region.ready .any ops listed -> aop P n h ops oi (aAny P n h ops K fuel (listed.setIfInBounds i true)) e H -> aAny P n h ops K (fuel + 1) listed e H:=by
 intro fuel
 induction fuel with
 | zero =>
  intro listed e H hfree hcl hr ha
  refine ⟨fun h0 => (by rw [h0] at hr; cases hr),fun j hj => ?_⟩
  by_cases hji : j = i
  ·subst hji; exact ⟨oi,hi,ha⟩
  ·obtain ⟨hjun,oj,hoj,hall⟩:=mem_ready.1 hj
   have hnot : ∀ e ∈ oj.after,Region.binds .any e = true -> e.on ≠ i:=fun e he hb heq => by
    have h1:=hall e he hb
    have h0:=(mem_ready.1 hr).1
    rw [heq] at h1
    rcases Nat.lt_or_ge i listed.size with h' | h'
    ·simp [h'] at h0 h1; rw [h0] at h1; cases h1
    ·simp [Array.getElem?_eq_none h'] at h1
   have hnr : reachB ops 9 j i = false:=by
    cases hR : reachB ops 9 j i with
    | false => rfl
    | true =>
     have h1:=reach_listed hcl 9 j hR fun oj' hj' e he hb => by
      rw [hoj] at hj'; cases hj'
      exact getD_ft (hall e he hb)
     have h0:=(mem_ready.1 hr).1
     rw [h0] at h1; cases h1
   have hind:=hfree j oj hoj hji hjun hnot hnr
   have hx4 : cls h oi ≠ 4:=by
    have i6:=(indep_spec hind).2.2.2.2.2
    intro h4
    rcases i6 with i6 | i6
    ·rw [h4] at i6; simp [clsOk] at i6
    ·have:=isLd_cls i6.1; omega
   obtain ⟨v,H',_,h2⟩:=aop_out hx4 ha
   have:=ready_mono hj hji
   rw [h2.1] at this
   cases this
 | succ fuel ih =>
  intro listed e H hfree hcl hr ha
  refine ⟨fun h0 => (by rw [h0] at hr; cases hr),fun j hj => ?_⟩
  by_cases hji : j = i
  ·subst hji; exact ⟨oi,hi,ha⟩
  ·obtain ⟨hjun,oj,hoj,hall⟩:=mem_ready.1 hj
   have hnot : ∀ e ∈ oj.after,Region.binds .any e = true -> e.on ≠ i:=fun e he hb heq => by
    have h1:=hall e he hb
    have h0:=(mem_ready.1 hr).1
    rw [heq] at h1
    rcases Nat.lt_or_ge i listed.size with h' | h'
    ·simp [h'] at h0 h1; rw [h0] at h1; cases h1
    ·simp [Array.getElem?_eq_none h'] at h1
   have hnr : reachB ops 9 j i = false:=by
    cases hR : reachB ops 9 j i with
    | false => rfl
    | true =>
     have h1:=reach_listed hcl 9 j hR fun oj' hj' e he hb => by
      rw [hoj] at hj'; cases hj'
      exact getD_ft (hall e he hb)
     have h0:=(mem_ready.1 hr).1
     rw [h0] at h1; cases h1
   have hind:=hfree j oj hoj hji hjun hnot hnr
   have h1 : aop P n h ops oi (aop P n h ops oj (aAny P n h ops K fuel ((listed.setIfInBounds i true).setIfInBounds j true))) e H:=by
    refine aop_mono (fun e' H' h2 => ?_) ha
    obtain ⟨o,ho,h3⟩:=h2.2 j (ready_mono hj hji)
    rw [hoj] at ho
    cases ho
    exact h3
   have h2:=aop_swap hind (aAny_resp hK fuel _) h1
   have hfree' : ∀ (k : Nat) (ok : Oper),ops[k]? = some ok -> k ≠ i -> (listed.setIfInBounds j true).getD k true = false -> (∀ e ∈ ok.after,Region.binds .any e = true -> e.on ≠ i) -> reachB ops 9 k i = false -> indep h ops oi ok = true:=fun k ok hk hki hun hno hnr => by
    refine hfree k ok hk hki ?_ hno hnr
    by_cases hjk : j = k
    ·subst hjk; exact hjun
    ·rw [getD_set_ne true hjk] at hun; exact hun
   refine ⟨oj,hoj,aop_mono (fun e' H' h3 => ih (listed.setIfInBounds j true) e' H' hfree' (hcl.add hj) (ready_mono hr (Ne.symm hji)) ?_) h2⟩
   rw [Array.setIfInBounds_comm _ _ hji]
   exact h3
theorem afree_spec {i : Nat} {oi : Oper} {listed : Array Bool} (hi : ops[i]? = some oi) (hf : afree h ops listed i = true) (j : Nat) (oj : Oper)
  (hj : ops[j]? = some oj) (hne : j ≠ i) (hun : listed.getD j true = false) (hno : ∀ e ∈ oj.after,Region.binds .any e = true -> e.on ≠ i) (hnr : reachB ops 9 j i = false) : indep h ops oi oj = true:=by
 simp only [afree,hi,List.all_eq_true,List.mem_range] at hf
 have h1:=hf j (Array.getElem?_eq_some_iff.1 hj).1
 simp only [hj,Bool.or_eq_true,beq_iff_eq,hne,false_or,hun,Bool.false_eq_true,hnr,or_false] at h1
 rcases h1 with h1 | h1
 ·obtain ⟨e,he,hb⟩:=Array.any_eq_true'.1 h1
  simp only [Bool.and_eq_true,beq_iff_eq] at hb
  exact absurd hb.2 (hno e he hb.1)
 ·exact h1
theorem aAny_lex (hK : Resp K) : ∀ (l : List Oper) (k : Nat) (listed : Array Bool) (e : Env) (H : Heap),(∀ j,l[j]? = ops[k + j]?) -> alexFrom h ops l.length k listed = true -> Cl ops listed -> arun P n h ops l K e H ->
  aAny P n h ops K l.length listed e H
 | [],_,_,_,_,_,hB,_,ha => ⟨by simpa [alexFrom] using hB,ha⟩
 | o :: l,k,listed,e,H,hl,hB,hcl,ha => by
  have h0 : ops[k]? = some o:=by simpa using (hl 0).symm
  simp only [List.length_cons,alexFrom,Bool.and_eq_true] at hB
  obtain ⟨⟨hr,hf⟩,hB'⟩:=hB
  have hr' : k ∈ Region.ready .any ops listed:=by simpa using hr
  refine aAny_first hK h0 l.length listed e H (afree_spec h0 hf) hcl hr' ?_
  exact aop_mono (fun e' H' h1 => aAny_lex hK l (k + 1) _ e' H' (fun j => by have:=hl (j + 1); simpa [Nat.add_assoc,Nat.add_comm 1 j] using this) hB' (hcl.add hr') h1) ha
theorem aAny_ord (hK : Resp K) : ∀ (l : List Nat) (listed : Array Bool) (e : Env) (H : Heap),alexO h ops l listed = true -> Cl ops listed -> arun P n h ops (l.filterMap fun i => ops[i]?) K e H ->
  aAny P n h ops K l.length listed e H
 | [],_,_,_,hB,_,ha => ⟨by simpa [alexO] using hB,ha⟩
 | k :: l,listed,e,H,hB,hcl,ha => by
  simp only [alexO,Bool.and_eq_true] at hB
  obtain ⟨⟨hr,hf⟩,hB'⟩:=hB
  have hr' : k ∈ Region.ready .any ops listed:=by simpa using hr
  obtain ⟨_,o,h0,_⟩:=mem_ready.1 hr'
  rw [List.filterMap_cons,h0] at ha
  refine aAny_first hK h0 l.length listed e H (afree_spec h0 hf) hcl hr' ?_
  exact aop_mono (fun e' H' h1 => aAny_ord hK l _ e' H' hB' (hcl.add hr') h1) ha
theorem aAny_sound {ro : Option Nat} {nn : Nat} {F : Nat -> Prop} (Q : Exit -> Act -> World -> Prop) : ∀ (fuel : Nat) (listed : Array Bool) (G : Gh) (env : Env) (H : Heap) (a : Act) (w : World),SRel F G n env H a w -> aAny P n h ops K fuel listed env H ->
  (∀ a' w',After F G w n K a' w' -> Q .normal a' w') -> wpAnyIn (fen ro) nn P .any ops Q fuel listed a w
 | 0,listed,G,env,H,a,w,hs,ha,hQ => ⟨ha.1,hQ a w ⟨env,H,G,ha.2,hs,.refl F G w⟩⟩
 | fuel + 1,listed,G,env,H,a,w,hs,ha,hQ => by
  refine ⟨fun hr => hQ a w ⟨env,H,G,ha.1 hr,hs,.refl F G w⟩,fun i hi => ?_⟩
  obtain ⟨o,ho,h1⟩:=ha.2 i hi
  have hst:=aop_step (ro:=ro) (nn:=nn) hs h1 Q
  have next : ∀ a' w',After F G w n (aAny P n h ops K fuel (listed.setIfInBounds i true)) a' w' -> wpAnyIn (fen ro) nn P .any ops Q fuel (listed.setIfInBounds i true) a' w':=by
   rintro a' w' ⟨env',H',G',hK,hs',he⟩
   refine aAny_sound Q fuel _ G' env' H' a' w' hs' hK fun a'' w'' => ?_
   rintro ⟨env2,H2,G2,hK2,hs2,he2⟩
   exact hQ a'' w'' ⟨env2,H2,G2,hK2,hs2,he.trans he2⟩
  unfold wpOpIn
  rw [ho]
  simp only
  split
  ·rename_i hw
   rw [if_pos hw] at hst
   exact Oper.wpIn_mono next hst
  ·rename_i hw
   rw [if_neg hw] at hst
   exact ⟨fun _ _ => trivial,next _ _ hst⟩
theorem SRel.draw {F : Nat -> Prop} {G : Gh} {env : Env} {H : Heap} {a : Act} {w : World} (hs : SRel F G n env H a w) : SRel F G n env H a w.drew:=⟨hs.size,hs.defers,hs.out,hs.c.draw⟩
theorem adraw_region {ro : Option Nat} {nn : Nat} {F : Nat -> Prop} {G : Gh} {env : Env} {H : Heap} {a : Act} {w : World} {id : Nat} (Q : Exit -> Act -> World -> Prop) (hm : P.follows .mixedOrders = true) (hK : Resp K) (hd : drawOk h ops = true)
  (hs : SRel F G n env H a w) (ha : arun P n h ops ops.toList K env H) (hQ : ∀ a' w',After F G w n K a' w' -> Q .normal a' w') : (Code.region id ops true).wpIn (fen ro) nn P Q a w:=by
 refine wpIn_region_any hm ?_
 have h1:=aAny_lex (P:=P) (n:=n) (h:=h) (ops:=ops) hK ops.toList 0 (Array.replicate ops.size false) env H (by simp) (by simpa [drawOk] using hd) (fun m om hm hl => by
  have hlt:=(Array.getElem?_eq_some_iff.1 hm).1
  simp [Array.getD_eq_getD_getElem?,hlt] at hl) ha
 rw [Array.length_toList] at h1
 refine aAny_sound (F:=F) Q ops.size _ G env H a w.drew hs.draw h1 fun a' w' => ?_
 rintro ⟨env',H',G',hK',hs',he⟩
 exact hQ a' w' ⟨env',H',G',hK',hs',ext_draw.trans he⟩
theorem adraw_regionO {ro : Option Nat} {nn : Nat} {F : Nat -> Prop} {G : Gh} {env : Env} {H : Heap} {a : Act} {w : World} {id : Nat} (l : List Nat) (Q : Exit -> Act -> World -> Prop) (hm : P.follows .mixedOrders = true) (hK : Resp K) (hd : drawOkO h ops l = true)
  (hs : SRel F G n env H a w) (ha : arun P n h ops (l.filterMap fun i => ops[i]?) K env H) (hQ : ∀ a' w',After F G w n K a' w' -> Q .normal a' w') : (Code.region id ops true).wpIn (fen ro) nn P Q a w:=by
 refine wpIn_region_any hm ?_
 simp only [drawOkO,Bool.and_eq_true,beq_iff_eq] at hd
 have h1:=aAny_ord (P:=P) (n:=n) (h:=h) (ops:=ops) hK l (Array.replicate ops.size false) env H hd.2 (fun m om hm hl => by
  have hlt:=(Array.getElem?_eq_some_iff.1 hm).1
  simp [Array.getD_eq_getD_getElem?,hlt] at hl) ha
 rw [hd.1] at h1
 refine aAny_sound (F:=F) Q ops.size _ G env H a w.drew hs.draw h1 fun a' w' => ?_
 rintro ⟨env',H',G',hK',hs',he⟩
 exact hQ a' w' ⟨env',H',G',hK',hs',ext_draw.trans he⟩
def clean (live : List Tmp) (e : Env) : Env:=live.map fun t => (t,look e t)
theorem look_clean (live : List Tmp) (e : Env) (t : Tmp) : look (clean live e) t = look e t \/ look (clean live e) t = .undef:=by
 induction live with
 | nil => exact .inr rfl
 | cons x l ih =>
  simp only [clean,List.map_cons,look]
  split
  ·rename_i hx; subst hx; exact .inl rfl
  ·exact ih
theorem clean_congr (live : List Tmp) {e e' : Env} (he : ∀ t,look e t = look e' t) : clean live e = clean live e':=by
 simp [clean,he]
theorem tcnt_forget (b : Nat) : ∀ (vs vs' : List AV) (us : List Value),vs.length = vs'.length -> (∀ i : Nat,vs'[i]? = vs[i]? \/ vs'[i]? = some .undef) -> tcnt b vs' us <= tcnt b vs us
 | [],[],us,_,_ => Nat.le_refl _
 | [],_ :: _,_,h,_ => by simp at h
 | _ :: _,[],_,h,_ => by simp at h
 | v :: vs,v' :: vs',[],_,_ => by simp [tcnt]
 | v :: vs,v' :: vs',u :: us,hl,h => by
  rw [tcnt_cons,tcnt_cons]
  have ih:=tcnt_forget b vs vs' us (by simpa using hl) (fun i => by simpa using h (i + 1))
  have h0:=h 0
  simp only [List.getElem?_cons_zero,Option.some.injEq] at h0
  rcases h0 with rfl | rfl
  ·omega
  ·rw [toks_undef]; simp only [List.count_nil]; omega
theorem SRel.forget {F : Nat -> Prop} {G : Gh} {env env' : Env} {H : Heap} {a : Act} {w : World} (hs : SRel F G n env H a w) (he : ∀ t,look env' t = look env t \/ look env' t = .undef) : SRel F G n env' H a w:=by
 have hlook : ∀ i : Nat,(elist n env')[i]? = (elist n env)[i]? \/ (elist n env')[i]? = some .undef:=by
  intro i
  by_cases hi : i < n
  ·rw [elist_get _ hi,elist_get _ hi]
   rcases he i with h1 | h1
   ·exact .inl (by rw [h1])
   ·exact .inr (by rw [h1])
  ·exact .inl (by rw [List.getElem?_eq_none (by rw [elist_length]; omega),List.getElem?_eq_none (by rw [elist_length]; omega)])
 refine ⟨hs.size,hs.defers,fun t ht => ?_,⟨by rw [elist_length]; simp [hs.size],fun i x u h1 h2 => ?_,fun i x u h1 h2 => ?_⟩,hs.c.h,fun b => ?_⟩
 ·rcases he t with h1 | h1
  ·rw [h1]; exact hs.out t ht
  ·exact h1
 ·rcases hlook i with h3 | h3
  ·rw [h3] at h1; exact hs.c.l.rel i x u h1 h2
  ·rw [h3] at h1; cases h1; exact .undef u
 ·rcases hlook i with h3 | h3
  ·rw [h3] at h1; exact hs.c.l.tok i x u h1 h2
  ·rw [h3] at h1; cases h1; exact tok_nil_all (toks_undef u) F G w
 ·have h1:=tcnt_forget b (elist n env) (elist n env') a.tmps.toList (by simp [elist_length]) hlook
  have h2:=hs.c.cnt b
  omega
end
end Go.AI
