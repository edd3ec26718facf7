/- What the frame at a region's end tells of the frames before. -/
import Derived.Test.YtofajkggflobkaaGreatDoorAiVb
import Derived.Test.YtofajkggflobkaaGreatDoorAiW
set_option linter.unusedSimpArgs false
set_option linter.unusedVariables false
namespace Go.AI
section
variable {P : Program} {n : Nat} {h : Hint} {ops : Array Oper} {K : Env -> Heap -> Prop}
theorem aAny_end (hno : ∀ (i : Nat) (o : Oper),ops[i]? = some o -> cls h o ≠ 4) : ∀ (fuel : Nat) (listed : Array Bool) (e : Env) (H : Heap),aAny P n h ops K fuel listed e H ->
  ∃ e' H',K e' H' /\ ∀ (t : Tmp) (a b : Nat),(∀ (k : Nat) (ok : Oper),ops[k]? = some ok -> listed.getD k true = false -> ok.dst ≠ some t) -> look e' t = .ptr a b -> look e t = .ptr a b
 | 0,listed,e,H,ha => ⟨e,H,ha.2,fun _ _ _ _ h => h⟩
 | fuel + 1,listed,e,H,ha => by
  cases hr : Region.ready .any ops listed with
  | nil => exact ⟨e,H,ha.1 hr,fun _ _ _ _ h => h⟩
  | cons i r =>
   have hi : i ∈ Region.ready .any ops listed:=by rw [hr]; simp
   obtain ⟨o,ho,h1⟩:=ha.2 i hi
   obtain ⟨v,H1,_,h2⟩:=aop_out (hno i o ho) h1
   obtain ⟨e',H',hk,hl⟩:=aAny_end hno fuel _ _ _ h2
   refine ⟨e',H',hk,fun t a b hw hp => upd_ptr (hw i o ho (mem_ready.1 hi).1) (hl t a b (fun k ok hk hun => ?_) hp)⟩
   refine hw k ok hk ?_
   by_cases hik : i = k
   ·subst hik; exact (mem_ready.1 hi).1
   ·rw [getD_set_ne true hik] at hun; exact hun
def adrT (h : Hint) (o : Oper) : Option (Tmp × Bool) :=
 match o.op,o.guard with
 | .store _ (.tmp a) _,none => some (a,true)
 | .load _ (.tmp a),none => if isLd h o = true then some (a,false) else none
 | _,_ => none
theorem adrT_spec {o : Oper} {a : Tmp} {s : Bool} (ho : adrT h o = some (a,s)) : ∃ k,adrOf P h o = some (a,k,s):=by
 unfold adrT at ho
 unfold adrOf
 split at ho
 ·rename_i h1 h2
  cases ho
  rw [h1,h2]; exact ⟨_,rfl⟩
 ·rename_i h1 h2
  split at ho
  ·rename_i h3
   cases ho
   rw [h1,h2]; exact ⟨_,by simp only [h3,if_true]; rfl⟩
  ·cases ho
 ·cases ho
def fixB (ops : Array Oper) (i : Nat) (a : Tmp) : Bool:=(List.range ops.size).all fun k => match ops[k]? with
 | some ok => !(ok.dst == some a) || reachB ops 9 i k
 | none => true
def dynS (h : Hint) (ops : Array Oper) (i : Nat) (oi : Oper) (j : Nat) (oj : Oper) : Bool :=
 decide (i < j) && (indepS h ops oi oj && match adrT h oi,adrT h oj with
  | some (a,s),some (b,s') => (s || s') && fixB ops i a && fixB ops j b
  | _,_ => false)
def no4 (h : Hint) (ops : Array Oper) : Bool:=ops.toList.all fun o => !(cls h o == 4)
def dynPairs (h : Hint) (ops : Array Oper) : List (Oper × Oper):=(List.range ops.size).flatMap fun i => (List.range ops.size).filterMap fun j => match ops[i]?,ops[j]? with
 | some oi,some oj => if (!(i == j) && !(indep h ops oi oj) && dynS h ops i oi j oj && !(reachB ops 9 j i)) = true then some (oi,oj) else none
 | _,_ => none
def dynAll (P : Program) (h : Hint) (ops : Array Oper) (e : Env) : Prop:=∀ p ∈ dynPairs h ops,apartAt P h p.1 p.2 e
theorem dyn_pair {i j : Nat} {oi oj : Oper} (hi : ops[i]? = some oi) (hj : ops[j]? = some oj) (hne : i ≠ j) (h1 : indep h ops oi oj = false) (h2 : dynS h ops i oi j oj = true) (h3 : reachB ops 9 j i = false) : (oi,oj) ∈ dynPairs h ops:=by
 refine List.mem_flatMap.2 ⟨i,List.mem_range.2 (Array.getElem?_eq_some_iff.1 hi).1,List.mem_filterMap.2 ⟨j,List.mem_range.2 (Array.getElem?_eq_some_iff.1 hj).1, ?_⟩⟩
 rw [hi,hj]
 simp [hne,h1,h2,h3]
theorem fix_spec {i k : Nat} {a : Tmp} {ok : Oper} (hf : fixB ops i a = true) (hk : ops[k]? = some ok) (hd : ok.dst = some a) : reachB ops 9 i k = true:=by
 have:=List.all_eq_true.1 hf k (List.mem_range.2 (Array.getElem?_eq_some_iff.1 hk).1)
 simp only [hk,hd] at this
 simpa using this
theorem apart_now (hn4 : no4 h ops = true) (hKD : ∀ e H,K e H -> dynAll P h ops e) {i j : Nat} {oi oj : Oper} (hoi : ops[i]? = some oi) (hoj : ops[j]? = some oj) (hne : i ≠ j) {listed : Array Bool} (hcl : Cl ops listed)
  (hi : i ∈ Region.ready .any ops listed) (hj : j ∈ Region.ready .any ops listed) (h1 : indep h ops oi oj = false) (h2 : dynS h ops i oi j oj = true) (h3 : reachB ops 9 j i = false) {fuel : Nat} {e : Env} {H : Heap}
  (ha : aop P n h ops oi (aop P n h ops oj (aAny P n h ops K fuel ((listed.setIfInBounds i true).setIfInBounds j true))) e H) : apartAt P h oi oj e:=by
 have hno : ∀ (i : Nat) (o : Oper),ops[i]? = some o -> cls h o ≠ 4:=fun i o ho h4 => by
  have:=List.all_eq_true.1 hn4 o (by rw [<- Array.getElem?_toList] at ho; exact List.mem_of_getElem? ho)
  simp [h4] at this
 obtain ⟨v,H1,_,ha1⟩:=aop_out (hno i oi hoi) ha
 obtain ⟨u,H2,_,ha2⟩:=aop_out (hno j oj hoj) ha1
 obtain ⟨e',H',hk,hl⟩:=aAny_end hno fuel _ _ _ ha2
 have hap:=hKD e' H' hk _ (dyn_pair hoi hoj hne h1 h2 h3)
 have quiet : ∀ {m : Nat} {a : Tmp},m ∈ Region.ready .any ops listed -> fixB ops m a = true -> ∀ (k : Nat) (ok : Oper),ops[k]? = some ok -> listed.getD k true = false -> ok.dst ≠ some a:=fun {m a} hm hf k ok hk hun hd => by
  obtain ⟨_,om,hom,hall⟩:=mem_ready.1 hm
  have:=reach_listed hcl 9 m (fix_spec hf hk hd) fun oj' hj' e he hb => by
   rw [hom] at hj'; cases hj'
   exact getD_ft (hall e he hb)
  rw [this] at hun; cases hun
 have now : ∀ {m : Nat} {a : Tmp} {x y : Nat},m ∈ Region.ready .any ops listed -> fixB ops m a = true -> look e' a = .ptr x y -> look e a = .ptr x y:=fun {m a x y} hm hf hp => by
  have q:=quiet hm hf
  refine upd_ptr (q i oi hoi (mem_ready.1 hi).1) (upd_ptr (q j oj hoj (mem_ready.1 hj).1) (hl a x y (fun k ok hk hun => q k ok hk ?_) hp))
  by_cases hjk : j = k
  ·subst hjk; exact (mem_ready.1 hj).1
  ·rw [getD_set_ne true hjk] at hun
   by_cases hik : i = k
   ·subst hik; exact (mem_ready.1 hi).1
   ·rw [getD_set_ne true hik] at hun; exact hun
 simp only [dynS,Bool.and_eq_true] at h2
 replace h2:=h2.2
 obtain ⟨_,h2⟩:=h2
 split at h2
 ·rename_i a s b s' ha' hb'
  simp only [Bool.and_eq_true] at h2
  obtain ⟨⟨_,fa⟩,fb⟩:=h2
  obtain ⟨k,hka⟩:=adrT_spec (P:=P) ha'
  obtain ⟨l,hlb⟩:=adrT_spec (P:=P) hb'
  unfold apartAt at hap ⊢
  simp only [hka,hlb] at hap ⊢
  refine ⟨hap.1, ?_⟩
  have hap:=hap.2
  split at hap
  ·rename_i o1 f1 o2 f2 e1 e2
   rw [now hi fa e1,now hj fb e2]
   exact hap
  ·exact hap.elim
 ·cases h2
theorem aAny_firstD (hn4 : no4 h ops = true) (hKD : ∀ e H,K e H -> dynAll P h ops e) (hK : Resp K) {i : Nat} {oi : Oper} (hi : ops[i]? = some oi) : ∀ (fuel : Nat) (listed : Array Bool) (e : Env) (H : Heap),
  (∀ (j : Nat) (oj : Oper),ops[j]? = some oj -> j ≠ i -> listed.getD j true = false -> (∀ e ∈ oj.after,Region.binds .any e = true -> e.on ≠ i) -> reachB ops 9 j i = false -> indep h ops oi oj = true \/ dynS h ops i oi j oj = true) -> Cl ops listed ->
  i ∈ Region.ready .any ops listed -> aop P n h ops oi (aAny P n h ops K fuel (listed.setIfInBounds i true)) e H -> aAny P n h ops K (fuel + 1) listed e H:=by
 intro fuel
 induction fuel with
 | zero =>
  intro listed e H hfree hcl hr ha
  refine ⟨fun h0 => (by rw [h0] at hr; cases hr),fun j hj => ?_⟩
  by_cases hji : j = i
  ·subst hji; exact ⟨oi,hi,ha⟩
  ·obtain ⟨hjun,oj,hoj,hall⟩:=mem_ready.1 hj
   have hnot : ∀ e ∈ oj.after,Region.binds .any e = true -> e.on ≠ i:=fun e he hb heq => by
    have h1:=hall e he hb
    have h0:=(mem_ready.1 hr).1
    rw [heq] at h1
    rcases Nat.lt_or_ge i listed.size with h' | h'
    ·simp [h'] at h0 h1; rw [h0] at h1; cases h1
    ·simp [Array.getElem?_eq_none h'] at h1
   have hnr : reachB ops 9 j i = false:=by
    cases hR : reachB ops 9 j i with
    | false => rfl
    | true =>
     have h1:=reach_listed hcl 9 j hR fun oj' hj' e he hb => by
      rw [hoj] at hj'; cases hj'
      exact getD_ft (hall e he hb)
     have h0:=(mem_ready.1 hr).1
     rw [h0] at h1; cases h1
   have hind:=hfree j oj hoj hji hjun hnot hnr
   have hx4 : cls h oi ≠ 4:=fun h4 => by
    have:=List.all_eq_true.1 hn4 oi (by rw [<- Array.getElem?_toList] at hi; exact List.mem_of_getElem? hi)
    simp [h4] at this
   obtain ⟨v,H',_,h2⟩:=aop_out hx4 ha
   have:=ready_mono hj hji
   rw [h2.1] at this
   cases this
 | succ fuel ih =>
  intro listed e H hfree hcl hr ha
  refine ⟨fun h0 => (by rw [h0] at hr; cases hr),fun j hj => ?_⟩
  by_cases hji : j = i
  ·subst hji; exact ⟨oi,hi,ha⟩
  ·obtain ⟨hjun,oj,hoj,hall⟩:=mem_ready.1 hj
   have hnot : ∀ e ∈ oj.after,Region.binds .any e = true -> e.on ≠ i:=fun e he hb heq => by
    have h1:=hall e he hb
    have h0:=(mem_ready.1 hr).1
    rw [heq] at h1
    rcases Nat.lt_or_ge i listed.size with h' | h'
    ·simp [h'] at h0 h1; rw [h0] at h1; cases h1
    ·simp [Array.getElem?_eq_none h'] at h1
   have hnr : reachB ops 9 j i = false:=by
    cases hR : reachB ops 9 j i with
    | false => rfl
    | true =>
     have h1:=reach_listed hcl 9 j hR fun oj' hj' e he hb => by
      rw [hoj] at hj'; cases hj'
      exact getD_ft (hall e he hb)
     have h0:=(mem_ready.1 hr).1
     rw [h0] at h1; cases h1
   have hind:=hfree j oj hoj hji hjun hnot hnr
   have h1 : aop P n h ops oi (aop P n h ops oj (aAny P n h ops K fuel ((listed.setIfInBounds i true).setIfInBounds j true))) e H:=by
    refine aop_mono (fun e' H' h2 => ?_) ha
    obtain ⟨o,ho,h3⟩:=h2.2 j (ready_mono hj hji)
    rw [hoj] at ho
    cases ho
    exact h3
   have h2 : aop P n h ops oj (aop P n h ops oi (aAny P n h ops K fuel ((listed.setIfInBounds i true).setIfInBounds j true))) e H:=by
    cases hb : indep h ops oi oj with
    | true => exact aop_swap hb (aAny_resp hK fuel _) h1
    | false =>
     have hdy:=hind.resolve_left (by rw [hb]; simp)
     have hap:=apart_now hn4 hKD hi hoj (Ne.symm hji) hcl hr hj hb hdy hnr h1
     have hs : indepS h ops oi oj = true:=by
      simp only [dynS,Bool.and_eq_true] at hdy
      replace hdy:=hdy.2
      exact hdy.1
     exact aop_swapAt hs hap (aAny_resp hK fuel _) h1
   have hfree' : ∀ (k : Nat) (ok : Oper),ops[k]? = some ok -> k ≠ i -> (listed.setIfInBounds j true).getD k true = false -> (∀ e ∈ ok.after,Region.binds .any e = true -> e.on ≠ i) -> reachB ops 9 k i = false -> indep h ops oi ok = true \/ dynS h ops i oi k ok = true:=fun k ok hk hki hun hno hnr => by
    refine hfree k ok hk hki ?_ hno hnr
    by_cases hjk : j = k
    ·subst hjk; exact hjun
    ·rw [getD_set_ne true hjk] at hun; exact hun
   refine ⟨oj,hoj,aop_mono (fun e' H' h3 => ih (listed.setIfInBounds j true) e' H' hfree' (hcl.add hj) (ready_mono hr (Ne.symm hji)) ?_) h2⟩
   rw [Array.setIfInBounds_comm _ _ hji]
   exact h3
def afreeD (h : Hint) (ops : Array Oper) (listed : Array Bool) (i : Nat) : Bool :=
 match ops[i]? with
 | none => false
 | some oi => (List.range ops.size).all fun j => j == i || listed.getD j true || match ops[j]? with
   | some oj => oj.after.any (fun e => Region.binds .any e && e.on == i) || indep h ops oi oj || reachB ops 9 j i || dynS h ops i oi j oj
   | none => true
def alexFromD (h : Hint) (ops : Array Oper) : Nat -> Nat -> Array Bool -> Bool
 | 0,_,listed => (Region.ready .any ops listed).isEmpty
 | fuel + 1,k,listed => (Region.ready .any ops listed).contains k && afreeD h ops listed k && alexFromD h ops fuel (k + 1) (listed.setIfInBounds k true)
def drawOkD (h : Hint) (ops : Array Oper) : Bool:=no4 h ops && alexFromD h ops ops.size 0 (Array.replicate ops.size false)
theorem afreeD_spec {i : Nat} {oi : Oper} {listed : Array Bool} (hi : ops[i]? = some oi) (hf : afreeD h ops listed i = true) (j : Nat) (oj : Oper)
  (hj : ops[j]? = some oj) (hne : j ≠ i) (hun : listed.getD j true = false) (hno : ∀ e ∈ oj.after,Region.binds .any e = true -> e.on ≠ i) (hnr : reachB ops 9 j i = false) : indep h ops oi oj = true \/ dynS h ops i oi j oj = true:=by
 simp only [afreeD,hi,List.all_eq_true,List.mem_range] at hf
 have h1:=hf j (Array.getElem?_eq_some_iff.1 hj).1
 simp only [hj,Bool.or_eq_true,beq_iff_eq,hne,false_or,hun,Bool.false_eq_true,hnr,or_false] at h1
 rcases h1 with (h1 | h1) | h1
 ·obtain ⟨e,he,hb⟩:=Array.any_eq_true'.1 h1
  simp only [Bool.and_eq_true,beq_iff_eq] at hb
  exact absurd hb.2 (hno e he hb.1)
 ·exact .inl h1
 ·exact .inr h1
theorem aAny_lexD (hn4 : no4 h ops = true) (hKD : ∀ e H,K e H -> dynAll P h ops e) (hK : Resp K) : ∀ (l : List Oper) (k : Nat) (listed : Array Bool) (e : Env) (H : Heap),(∀ j,l[j]? = ops[k + j]?) -> alexFromD h ops l.length k listed = true -> Cl ops listed -> arun P n h ops l K e H ->
  aAny P n h ops K l.length listed e H
 | [],_,_,_,_,_,hB,_,ha => ⟨by simpa [alexFromD] using hB,ha⟩
 | o :: l,k,listed,e,H,hl,hB,hcl,ha => by
  have h0 : ops[k]? = some o:=by simpa using (hl 0).symm
  simp only [List.length_cons,alexFromD,Bool.and_eq_true] at hB
  obtain ⟨⟨hr,hf⟩,hB'⟩:=hB
  have hr' : k ∈ Region.ready .any ops listed:=by simpa using hr
  refine aAny_firstD hn4 hKD hK h0 l.length listed e H (afreeD_spec h0 hf) hcl hr' ?_
  exact aop_mono (fun e' H' h1 => aAny_lexD hn4 hKD hK l (k + 1) _ e' H' (fun j => by have:=hl (j + 1); simpa [Nat.add_assoc,Nat.add_comm 1 j] using this) hB' (hcl.add hr') h1) ha
theorem adraw_regionD {ro : Option Nat} {nn : Nat} {F : Nat -> Prop} {G : Gh} {env : Env} {H : Heap} {a : Act} {w : World} {id : Nat} (Q : Exit -> Act -> World -> Prop) (hm : P.follows .mixedOrders = true) (hKD : ∀ e H,K e H -> dynAll P h ops e) (hK : Resp K) (hd : drawOkD h ops = true)
  (hs : SRel F G n env H a w) (ha : arun P n h ops ops.toList K env H) (hQ : ∀ a' w',After F G w n K a' w' -> Q .normal a' w') : (Code.region id ops true).wpIn (fen ro) nn P Q a w:=by
 refine wpIn_region_any hm ?_
 simp only [drawOkD,Bool.and_eq_true] at hd
 have h1:=aAny_lexD (P:=P) (n:=n) (h:=h) (ops:=ops) hd.1 hKD hK ops.toList 0 (Array.replicate ops.size false) env H (by simp) (by simpa using hd.2) (fun m om hm hl => by
  have hlt:=(Array.getElem?_eq_some_iff.1 hm).1
  simp [Array.getD_eq_getD_getElem?,hlt] at hl) ha
 rw [Array.length_toList] at h1
 refine aAny_sound (F:=F) Q ops.size _ G env H a w.drew hs.draw h1 fun a' w' => ?_
 rintro ⟨env',H',G',hK',hs',he⟩
 exact hQ a' w' ⟨env',H',G',hK',hs',ext_draw.trans he⟩
theorem dynAll_resp {e e' : Env} (he : ∀ t,look e t = look e' t) (hd : dynAll P h ops e) : dynAll P h ops e':=fun p hp => by
 have h1:=hd p hp
 unfold apartAt at h1 ⊢
 simp only [he] at h1
 exact h1
end
end Go.AI
