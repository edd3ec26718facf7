/- Stores and plain loads by their addresses. -/
import Derived.Test.YtofajkggflobkaaGreatDoorAiV
import Derived.Test.YtofajkggflobkaaGreatDoorLd
import Derived.Test.YtofajkggflobkaaGreatDoorLa
import Derived.RangeFuncNested
namespace Go.AI
section
variable {P : Program} {n : Nat} {h : Hint} {ops : Array Oper}
theorem agd_none {o : Oper} {e : Env} (hg : o.guard = none) : agd ops e o = some true:=by simp [agd,hg]
theorem Out.store {o : Oper} {t : TypeId} {a : Tmp} {x : Operand} {e : Env} {H H' : Heap} {v : AV} (hop : o.op = .store t (.tmp a) x) (hg : o.guard = none) (ho : Out P n h ops o e H v H') :
  ∃ (ob off : Nat) (cs xs : List AV),look e a = .ptr ob off /\ H[ob]? = some (some cs) /\ xs.length = P.cellsOf t /\ off + xs.length <= cs.length /\ v = .undef /\ H' = H.set ob (some (splice cs off xs)) /\
   ∀ (H2 : Heap) (cs2 : List AV),H2[ob]? = some (some cs2) -> off + xs.length <= cs2.length -> Out P n h ops o e H2 .undef (H2.set ob (some (splice cs2 off xs))):=by
 have hc : cls h o = 3:=by simp [cls,hop]
 unfold Out at ho
 rw [agd_none hg] at ho
 obtain ⟨hd,hf⟩:=ho
 have hr:=hf.again (fun v' H'' => v' = v /\ H'' = H') ⟨rfl,rfl⟩
 have hv : ∃ v2,(evs P (opTy o) (taking h o) o.op.operands.toList e).1 = [look e a,v2]:=by
  have ht : taking h o = true:=by simp [taking,hop]
  rw [ht,hop]
  exact ⟨_,rfl⟩
 obtain ⟨v2,hv⟩:=hv
 rw [hv] at hr
 unfold ares at hr
 rw [hop] at hr
 cases hl : look e a with
 | ptr ob off =>
  rw [hl] at hr
  dsimp only at hr
  cases hob : H[ob]? with
  | none => rw [hob] at hr; exact hr.elim
  | some q =>
   cases q with
   | none => rw [hob] at hr; exact hr.elim
   | some cs =>
    rw [hob] at hr
    obtain ⟨g1,g2,g3,g4,rfl,rfl⟩:=hr
    refine ⟨ob,off,cs,v2.cells,rfl,hob,g2,by omega,rfl,rfl,fun H2 cs2 k1 k2 => ?_⟩
    unfold Out
    rw [agd_none hg]
    refine ⟨hd, ?_⟩
    refine Fact.any hc fun R' hr' => ?_
    rw [hv,hl]
    simp only [ares,hop,k1]
    exact ⟨g1,g2,g3,by omega,hr'⟩
 | _ => rw [hl] at hr; exact hr.elim
theorem Out.pload {o : Oper} {t : TypeId} {a : Tmp} {e : Env} {H H' : Heap} {v : AV} {ob off : Nat} (hop : o.op = .load t (.tmp a)) (hld : isLd h o = true) (hg : o.guard = none) (hl : look e a = .ptr ob off) (ho : Out P n h ops o e H v H') :
  ∃ (cs : List AV) (x : AV),H[ob]? = some (some cs) /\ ldv P t cs off = some x /\ v = x.borrow /\ H' = H /\
   ∀ (H2 : Heap) (cs2 : List AV),H2[ob]? = some (some cs2) -> ldv P t cs2 off = some x -> Out P n h ops o e H2 v H2:=by
 have hc:=isLd_cls hld
 have htk : o.dst.any h.tk.contains = false:=by simpa [isLd,hop] using hld
 unfold Out at ho
 rw [agd_none hg] at ho
 obtain ⟨hd,hf⟩:=ho
 have hr:=hf.again (fun v' H'' => v' = v /\ H'' = H') ⟨rfl,rfl⟩
 have hv : (evs P (opTy o) (taking h o) o.op.operands.toList e).1 = [.ptr ob off]:=by
  have ht : taking h o = false:=by simp [taking,hop]
  rw [ht,hop]
  show [(look e a).borrow] = _
  rw [hl]; rfl
 rw [hv] at hr
 unfold ares at hr
 rw [hop] at hr
 dsimp only at hr
 cases hob : H[ob]? with
 | none => rw [hob] at hr; exact hr.elim
 | some q =>
  cases q with
  | none => rw [hob] at hr; exact hr.elim
  | some cs =>
   rw [hob] at hr
   dsimp only at hr
   cases hx : ldv P t cs off with
   | none => rw [hx] at hr; exact hr.elim
   | some x =>
    rw [hx,htk] at hr
    obtain ⟨rfl,rfl⟩:=hr
    refine ⟨cs,x,rfl,hx,rfl,rfl,fun H2 cs2 k1 k2 => ?_⟩
    have ha : ares P h o [.ptr ob off] H2 fun v' H'' => v' = x.borrow /\ H'' = H2:=by
     simp only [ares,hop,k1,k2,htk]
     first | exact ⟨rfl,rfl⟩ | exact ⟨trivial,trivial⟩
    obtain ⟨v',H'',⟨rfl,rfl⟩,hf2⟩:=ares_fact (by omega) ha
    unfold Out
    rw [agd_none hg]
    refine ⟨hd, ?_⟩
    rw [hv]
    exact hf2
def adrOf (P : Program) (h : Hint) (o : Oper) : Option (Tmp × Nat × Bool) :=
 match o.op,o.guard with
 | .store t (.tmp a) _,none => some (a,P.cellsOf t,true)
 | .load t (.tmp a),none => if isLd h o = true then some (a,ldLen P t,false) else none
 | _,_ => none
theorem adrOf_spec {o : Oper} {a : Tmp} {k : Nat} {s : Bool} (ho : adrOf P h o = some (a,k,s)) : o.guard = none /\
  ((s = true /\ ∃ t x,o.op = .store t (.tmp a) x /\ k = P.cellsOf t) \/ (s = false /\ ∃ t,o.op = .load t (.tmp a) /\ isLd h o = true /\ k = ldLen P t)):=by
 unfold adrOf at ho
 split at ho
 ·rename_i h1 h2
  cases ho
  exact ⟨h2,.inl ⟨rfl,_,_,h1,rfl⟩⟩
 ·rename_i h1 h2
  split at ho
  ·rename_i h3
   cases ho
   exact ⟨h2,.inr ⟨rfl,_,h1,h3,rfl⟩⟩
  ·cases ho
 ·cases ho
def apartAt (P : Program) (h : Hint) (x y : Oper) (e : Env) : Prop :=
 match adrOf P h x,adrOf P h y with
 | some (a,k,s),some (b,l,s') => (s = true \/ s' = true) /\ match look e a,look e b with
  | .ptr o1 f1,.ptr o2 f2 => o1 ≠ o2 \/ f1 + k <= f2 \/ f2 + l <= f1
  | _,_ => False
 | _,_ => False
theorem Out.swapAt {x y : Oper} {e e' : Env} {H H1 H2 : Heap} {v u : AV} (hx : Out P n h ops x e H v H1) (hy : Out P n h ops y e' H1 u H2) (hd : apartAt P h x y e) (hyl : ∀ b k s,adrOf P h y = some (b,k,s) -> look e' b = look e b) :
  ∃ H1',Out P n h ops y e' H u H1' /\ Out P n h ops x e H1' v H2:=by
 unfold apartAt at hd
 cases hax : adrOf P h x with
 | none => rw [hax] at hd; exact hd.elim
 | some px =>
  obtain ⟨a,k,s⟩:=px
  cases hay : adrOf P h y with
  | none => rw [hax,hay] at hd; exact hd.elim
  | some py =>
   obtain ⟨b,l,s'⟩:=py
   rw [hax,hay] at hd
   obtain ⟨hss,hd⟩:=hd
   have hlb:=hyl b l s' hay
   cases hla : look e a <;> rw [hla] at hd <;> first | exact hd.elim | skip
   rename_i o1 f1
   cases hlb' : look e b <;> rw [hlb'] at hd <;> first | exact hd.elim | skip
   rename_i o2 f2
   rw [hlb'] at hlb
   obtain ⟨gx,hx'⟩:=adrOf_spec hax
   obtain ⟨gy,hy'⟩:=adrOf_spec hay
   rcases hx' with ⟨rfl,t,z,ox,rfl⟩ | ⟨rfl,t,ox,ldx,rfl⟩
   ·obtain ⟨ob,off,cs,xs,e1,e2,e3,e4,rfl,rfl,again⟩:=hx.store ox gx
    rw [hla] at e1; cases e1
    have hlt:=(List.getElem?_eq_some_iff.1 e2).1
    rcases hy' with ⟨rfl,t',z',oy,rfl⟩ | ⟨rfl,t',oy,ldy,rfl⟩
    ·-- two stores
     obtain ⟨ob',off',cs',ys,k1,k2,k3,k4,rfl,rfl,again'⟩:=hy.store oy gy
     rw [hlb] at k1; cases k1
     by_cases hoo : o1 = o2
     ·subst hoo
      rw [List.getElem?_set_self hlt] at k2
      cases k2
      have hdis : f1 + xs.length <= f2 \/ f2 + ys.length <= f1:=by rw [e3,k3]; exact hd.resolve_left (fun hne => hne rfl)
      have hle : f2 + ys.length <= cs.length:=by rw [splice_len e4] at k4; exact k4
      refine ⟨_,again' H cs e2 hle, ?_⟩
      have:=again (H.set o1 (some (splice cs f2 ys))) (splice cs f2 ys) (List.getElem?_set_self hlt) (by rw [splice_len hle]; exact e4)
      rw [List.set_set] at this ⊢
      rw [splice_comm hdis e4 hle]
      exact this
     ·rw [List.getElem?_set_ne hoo] at k2
      refine ⟨_,again' H cs' k2 k4, ?_⟩
      have:=again (H.set o2 (some (splice cs' f2 ys))) cs (by rw [List.getElem?_set_ne (Ne.symm hoo)]; exact e2) e4
      rw [List.set_comm _ _ hoo]
      exact this
    ·-- a store,a load behind it
     obtain ⟨cs',w,k1,k2,rfl,rfl,again'⟩:=hy.pload oy ldy gy hlb
     by_cases hoo : o1 = o2
     ·subst hoo
      rw [List.getElem?_set_self hlt] at k1
      cases k1
      have hdis : f2 + ldLen P t' <= f1 \/ f1 + xs.length <= f2:=by rw [e3]; exact (hd.resolve_left (fun hne => hne rfl)).symm
      rw [ldv_splice hdis e4] at k2
      exact ⟨H,again' H cs e2 k2,hx⟩
     ·rw [List.getElem?_set_ne hoo] at k1
      exact ⟨H,again' H cs' k1 k2,hx⟩
   ·obtain ⟨cs,w,e1,e2,rfl,rfl,again⟩:=hx.pload ox ldx gx hla
    rcases hy' with ⟨rfl,t',z',oy,rfl⟩ | ⟨rfl,t',oy,ldy,rfl⟩
    ·-- a load,a store behind it
     obtain ⟨ob',off',cs',ys,k1,k2,k3,k4,rfl,rfl,again'⟩:=hy.store oy gy
     rw [hlb] at k1; cases k1
     have hlt:=(List.getElem?_eq_some_iff.1 k2).1
     refine ⟨_,hy, ?_⟩
     by_cases hoo : o1 = o2
     ·subst hoo
      rw [e1] at k2; cases k2
      have hdis : f1 + ldLen P t <= f2 \/ f2 + ys.length <= f1:=by rw [k3]; exact hd.resolve_left (fun hne => hne rfl)
      exact again _ (splice cs f2 ys) (List.getElem?_set_self hlt) (by rw [ldv_splice hdis k4]; exact e2)
     ·exact again _ cs (by rw [List.getElem?_set_ne (Ne.symm hoo)]; exact e1) e2
    ·rcases hss with h | h <;> cases h
end
end Go.AI
namespace Go.AI
section
variable {P : Program} {n : Nat} {h : Hint} {ops : Array Oper}
def indepS (h : Hint) (ops : Array Oper) (x y : Oper) : Bool :=
 x.apart ops y && (takesT h x).all (fun t => !(y.looksAt ops).contains t) && (takesT h y).all (fun t => !(x.looksAt ops).contains t)
theorem indepS_spec {x y : Oper} (hi : indepS h ops x y = true) : (∀ d,x.dst = some d -> d ∉ y.looksAt ops) /\ (∀ d,x.dst = some d -> y.dst ≠ some d) /\ (∀ d,y.dst = some d -> d ∉ x.looksAt ops) /\
  (∀ t ∈ takesT h x,t ∉ y.looksAt ops) /\ (∀ t ∈ takesT h y,t ∉ x.looksAt ops):=by
 simp only [indepS,Bool.and_eq_true] at hi
 obtain ⟨⟨h1,h2⟩,h3⟩:=hi
 obtain ⟨g1,g2,g3⟩:=Oper.apart_spec h1
 exact ⟨g1,g2,g3,fun t ht => by simpa using List.all_eq_true.1 h2 t ht,fun t ht => by simpa using List.all_eq_true.1 h3 t ht⟩
theorem adrOf_cls {o : Oper} {q : Tmp × Nat × Bool} (ho : adrOf P h o = some q) : cls h o ≠ 4:=by
 obtain ⟨a,k,s⟩:=q
 obtain ⟨_,h1⟩:=adrOf_spec ho
 rcases h1 with ⟨_,t,x,hop,_⟩ | ⟨_,t,hop,hl,_⟩
 ·simp [cls,hop]
 ·have:=isLd_cls hl; omega
theorem aop_swapAt {x y : Oper} {K : Env -> Heap -> Prop} {e : Env} {H : Heap} (hi : indepS h ops x y = true) (hd : apartAt P h x y e) (hK : Resp K) (ha : aop P n h ops x (aop P n h ops y K) e H) : aop P n h ops y (aop P n h ops x K) e H:=by
 obtain ⟨i1,i2,i3,i4,i5⟩:=indepS_spec hi
 have hx4 : cls h x ≠ 4:=by
  unfold apartAt at hd
  cases hax : adrOf P h x with
  | none => rw [hax] at hd; exact hd.elim
  | some q => exact adrOf_cls hax
 have hy4 : cls h y ≠ 4:=by
  unfold apartAt at hd
  cases hay : adrOf P h y with
  | none => rw [hay] at hd; cases hax : adrOf P h x <;> rw [hax] at hd <;> exact hd.elim
  | some q => exact adrOf_cls hay
 obtain ⟨v,H1,hx,hya⟩:=aop_out hx4 ha
 obtain ⟨u,H2,hy,hk⟩:=aop_out hy4 hya
 have hye : ∀ t ∈ y.looksAt ops,look (upd P h ops x e v) t = look e t:=fun t ht => upd_look (fun hd => i1 t hd ht) (fun hm => i4 t hm ht)
 have hy':=hy.env hye
 obtain ⟨H1',hy2,hx2⟩:=hx.swapAt hy' hd fun _ _ _ _ => rfl
 have hxe : ∀ t ∈ x.looksAt ops,look e t = look (upd P h ops y e u) t:=fun t ht => (upd_look (fun hd => i3 t hd ht) (fun hm => i5 t hm ht)).symm
 have hx3:=hx2.env hxe
 refine out_aop hy2 (out_aop hx3 (hK _ _ _ (fun t => ?_) hk))
 by_cases hyd : y.dst = some t
 ·have hxd : x.dst ≠ some t:=fun hd => i2 t hd hyd
  have hxt : t ∉ takesT h x:=fun hm => i3 t hyd (takesT_looks hm)
  rw [upd_look (o:=x) (e:=upd P h ops y e u) hxd hxt]
  exact upd_congr hye (.inl hyd)
 ·by_cases hyt : t ∈ takesT h y
  ·have hxd : x.dst ≠ some t:=fun hd => i1 t hd (takesT_looks hyt)
   have hxt : t ∉ takesT h x:=fun hm => i4 t hm (takesT_looks hyt)
   rw [upd_look (o:=x) (e:=upd P h ops y e u) hxd hxt]
   exact upd_congr hye (.inr (upd_look hxd hxt))
  ·rw [upd_look (o:=y) hyd hyt]
   refine upd_congr hxe ?_
   by_cases hxd : x.dst = some t
   ·exact .inl hxd
   ·exact .inr (upd_look hyd hyt).symm
theorem borrow_ptr_inv {v : AV} {a b : Nat} (h : v.borrow = .ptr a b) : v = .ptr a b:=by
 cases v <;> first | exact h | cases h
theorem ev1_ptr {ty : Option TypeId} {take : Bool} {x : Operand} {e : Env} {t : Tmp} {a b : Nat} (h2 : look (ev1 P ty take x e).2 t = .ptr a b) : look e t = .ptr a b:=by
 cases take with
 | false => exact h2
 | true =>
  simp only [ev1] at h2
  split at h2
  ·simp only [look] at h2
   split at h2
   ·rename_i ht; subst ht; exact borrow_ptr_inv h2
   ·exact h2
  ·exact h2
theorem evs_ptr {ty : Option TypeId} {take : Bool} {t : Tmp} {a b : Nat} : ∀ {xs : List Operand} {e : Env},look (evs P ty take xs e).2 t = .ptr a b -> look e t = .ptr a b
 | [],e,h2 => h2
 | x :: xs,e,h2 => ev1_ptr (evs_ptr (xs:=xs) h2)
theorem upd_ptr {o : Oper} {e : Env} {v : AV} {t : Tmp} (h1 : o.dst ≠ some t) {a b : Nat} (h2 : look (upd P h ops o e v) t = .ptr a b) : look e t = .ptr a b:=by
 unfold upd at h2
 split at h2 <;> rw [look_put,if_neg h1] at h2
 ·exact evs_ptr h2
 ·exact h2
end
end Go.AI
namespace Go.AI
def aAny (P : Program) (n : Nat) (h : Hint) (ops : Array Oper) (K : Env -> Heap -> Prop) : Nat -> Array Bool -> Env -> Heap -> Prop
 | 0,listed => fun e H => Region.ready .any ops listed = [] /\ K e H
 | fuel + 1,listed => fun e H => (Region.ready .any ops listed = [] -> K e H) /\
   ∀ i ∈ Region.ready .any ops listed,∃ o,ops[i]? = some o /\ aop P n h ops o (aAny P n h ops K fuel (listed.setIfInBounds i true)) e H
theorem getD_ft {listed : Array Bool} {k : Nat} (h : listed.getD k false = true) : listed.getD k true = true:=by
 rw [Array.getD_eq_getD_getElem?] at h ⊢
 cases hx : listed[k]? with
 | none => rfl
 | some b => rw [hx] at h; exact h
def reachB (ops : Array Oper) : Nat -> Nat -> Nat -> Bool
 | 0,_,_ => false
 | f + 1,j,i => match ops[j]? with
  | none => false
  | some oj => oj.after.any fun e => Region.binds .any e && (e.on == i || reachB ops f e.on i)
def Cl (ops : Array Oper) (listed : Array Bool) : Prop:=∀ (m : Nat) (om : Oper),ops[m]? = some om -> listed.getD m true = true -> ∀ e ∈ om.after,Region.binds .any e = true -> listed.getD e.on true = true
theorem reach_listed {ops : Array Oper} {listed : Array Bool} (hcl : Cl ops listed) {i : Nat} : ∀ (f j : Nat),reachB ops f j i = true -> (∀ oj,ops[j]? = some oj -> ∀ e ∈ oj.after,Region.binds .any e = true -> listed.getD e.on true = true) -> listed.getD i true = true
 | 0,j,h,_ => by cases h
 | f + 1,j,h,ha => by
  unfold reachB at h
  split at h
  ·cases h
  ·rename_i oj hj
   obtain ⟨e,he,hb⟩:=Array.any_eq_true'.1 h
   simp only [Bool.and_eq_true,Bool.or_eq_true,beq_iff_eq] at hb
   have hl:=ha oj hj e he hb.1
   rcases hb.2 with h1 | h1
   ·rw [<- h1]; exact hl
   ·exact reach_listed hcl f e.on h1 fun om hm e' he' hb' => hcl e.on om hm hl e' he' hb'
theorem Cl.add {ops : Array Oper} {listed : Array Bool} (hcl : Cl ops listed) {j : Nat} (hj : j ∈ Region.ready .any ops listed) : Cl ops (listed.setIfInBounds j true):=by
 have mono : ∀ k,listed.getD k true = true -> (listed.setIfInBounds j true).getD k true = true:=fun k hk => by
  by_cases hjk : j = k
  ·subst hjk
   rw [Array.getD_eq_getD_getElem?,Array.getElem?_setIfInBounds_self]
   split <;> rfl
  ·rw [getD_set_ne true hjk]; exact hk
 intro m om hm hl e he hb
 by_cases hjm : j = m
 ·subst hjm
  obtain ⟨_,oj,hoj,hall⟩:=mem_ready.1 hj
  rw [hm] at hoj; cases hoj
  refine mono _ ?_
  exact getD_ft (hall e he hb)
 ·rw [getD_set_ne true hjm] at hl
  exact mono _ (hcl m om hm hl e he hb)
def afree (h : Hint) (ops : Array Oper) (listed : Array Bool) (i : Nat) : Bool :=
 match ops[i]? with
 | none => false
 | some oi => (List.range ops.size).all fun j => j == i || listed.getD j true || match ops[j]? with
   | some oj => oj.after.any (fun e => Region.binds .any e && e.on == i) || indep h ops oi oj || reachB ops 9 j i
   | none => true
def alexFrom (h : Hint) (ops : Array Oper) : Nat -> Nat -> Array Bool -> Bool
 | 0,_,listed => (Region.ready .any ops listed).isEmpty
 | fuel + 1,k,listed => (Region.ready .any ops listed).contains k && afree h ops listed k && alexFrom h ops fuel (k + 1) (listed.setIfInBounds k true)
def drawOk (h : Hint) (ops : Array Oper) : Bool:=alexFrom h ops ops.size 0 (Array.replicate ops.size false)
def alexO (h : Hint) (ops : Array Oper) : List Nat -> Array Bool -> Bool
 | [],listed => (Region.ready .any ops listed).isEmpty
 | k :: r,listed => (Region.ready .any ops listed).contains k && afree h ops listed k && alexO h ops r (listed.setIfInBounds k true)
def drawOkO (h : Hint) (ops : Array Oper) (l : List Nat) : Bool:=l.length == ops.size && alexO h ops l (Array.replicate ops.size false)
section
variable {P : Program} {n : Nat} {h : Hint} {ops : Array Oper} {K : Env -> Heap -> Prop}
theorem aAny_resp (hK : Resp K) : ∀ (fuel : Nat) (listed : Array Bool),Resp (aAny P n h ops K fuel listed)
 | 0,listed => fun e e' H he ha => ⟨ha.1,hK e e' H he ha.2⟩
 | fuel + 1,listed => fun e e' H he ha => ⟨fun hr => hK e e' H he (ha.1 hr),fun i hi =>
   let ⟨o,ho,h1⟩:=ha.2 i hi
   ⟨o,ho,aop_resp (aAny_resp hK fuel _) e e' H he h1⟩⟩
theorem aAny_first (hK : Resp K) {i : Nat} {oi : Oper} (hi : ops[i]? = some oi) : ∀ (fuel : Nat) (listed : Array Bool) (e : Env) (H : Heap),
  (∀ (j : Nat) (oj : Oper),ops[j]? = some oj -> j ≠ i -> listed.getD j true = false -> (∀ e ∈ oj.after,Region.binds .any e = true -> e.on ≠ i) -> reachB ops 9 j i = false -> indep h ops oi oj = true) -> Cl ops listed ->
  i ∈ Region.ready .any ops listed -> aop P n h ops oi (aAny P n h ops K fuel (listed.setIfInBounds i true)) e H -> aAny P n h ops K (fuel + 1) listed e H:=by
 intro fuel
 induction fuel with
 | zero =>
  intro listed e H hfree hcl hr ha
  refine ⟨fun h0 => (by rw [h0] at hr; cases hr),fun j hj => ?_⟩
  by_cases hji : j = i
  ·subst hji; exact ⟨oi,hi,ha⟩
  ·obtain ⟨hjun,oj,hoj,hall⟩:=mem_ready.1 hj
   have hnot : ∀ e ∈ oj.after,Region.binds .any e = true -> e.on ≠ i:=fun e he hb heq => by
    have h1:=hall e he hb
    have h0:=(mem_ready.1 hr).1
    rw [heq] at h1
    rcases Nat.lt_or_ge i listed.size with h' | h'
    ·simp [h'] at h0 h1; rw [h0] at h1; cases h1
    ·simp [Array.getElem?_eq_none h'] at h1
   have hnr : reachB ops 9 j i = false:=by
    cases hR : reachB ops 9 j i with
    | false => rfl
    | true =>
     have h1:=reach_listed hcl 9 j hR fun oj' hj' e he hb => by
      rw [hoj] at hj'; cases hj'
      exact getD_ft (hall e he hb)
     have h0:=(mem_ready.1 hr).1
     rw [h0] at h1; cases h1
   have hind:=hfree j oj hoj hji hjun hnot hnr
   have hx4 : cls h oi ≠ 4:=by
    have i6:=(indep_spec hind).2.2.2.2.2
    intro h4
    rcases i6 with i6 | i6
    ·rw [h4] at i6; simp [clsOk] at i6
    ·have:=isLd_cls i6.1; omega
   obtain ⟨v,H',_,h2⟩:=aop_out hx4 ha
   have:=ready_mono hj hji
   rw [h2.1] at this
   cases this
 | succ fuel ih =>
  intro listed e H hfree hcl hr ha
  refine ⟨fun h0 => (by rw [h0] at hr; cases hr),fun j hj => ?_⟩
  by_cases hji : j = i
  ·subst hji; exact ⟨oi,hi,ha⟩
  ·obtain ⟨hjun,oj,hoj,hall⟩:=mem_ready.1 hj
   have hnot : ∀ e ∈ oj.after,Region.binds .any e = true -> e.on ≠ i:=fun e he hb heq => by
    have h1:=hall e he hb
    have h0:=(mem_ready.1 hr).1
    rw [heq] at h1
    rcases Nat.lt_or_ge i listed.size with h' | h'
    ·simp [h'] at h0 h1; rw [h0] at h1; cases h1
    ·simp [Array.getElem?_eq_none h'] at h1
   have hnr : reachB ops 9 j i = false:=by
    cases hR : reachB ops 9 j i with
    | false => rfl
    | true =>
     have h1:=reach_listed hcl 9 j hR fun oj' hj' e he hb => by
      rw [hoj] at hj'; cases hj'
      exact getD_ft (hall e he hb)
     have h0:=(mem_ready.1 hr).1
     rw [h0] at h1; cases h1
   have hind:=hfree j oj hoj hji hjun hnot hnr
   have h1 : aop P n h ops oi (aop P n h ops oj (aAny P n h ops K fuel ((listed.setIfInBounds i true).setIfInBounds j true))) e H:=by
    refine aop_mono (fun e' H' h2 => ?_) ha
    obtain ⟨o,ho,h3⟩:=h2.2 j (ready_mono hj hji)
    rw [hoj] at ho
    cases ho
    exact h3
   have h2:=aop_swap hind (aAny_resp hK fuel _) h1
   have hfree' : ∀ (k : Nat) (ok : Oper),ops[k]? = some ok -> k ≠ i -> (listed.setIfInBounds j true).getD k true = false -> (∀ e ∈ ok.after,Region.binds .any e = true -> e.on ≠ i) -> reachB ops 9 k i = false -> indep h ops oi ok = true:=fun k ok hk hki hun hno hnr => by
    refine hfree k ok hk hki ?_ hno hnr
    by_cases hjk : j = k
    ·subst hjk; exact hjun
    ·rw [getD_set_ne true hjk] at hun; exact hun
   refine ⟨oj,hoj,aop_mono (fun e' H' h3 => ih (listed.setIfInBounds j true) e' H' hfree' (hcl.add hj) (ready_mono hr (Ne.symm hji)) ?_) h2⟩
   rw [Array.setIfInBounds_comm _ _ hji]
   exact h3
theorem afree_spec {i : Nat} {oi : Oper} {listed : Array Bool} (hi : ops[i]? = some oi) (hf : afree h ops listed i = true) (j : Nat) (oj : Oper)
  (hj : ops[j]? = some oj) (hne : j ≠ i) (hun : listed.getD j true = false) (hno : ∀ e ∈ oj.after,Region.binds .any e = true -> e.on ≠ i) (hnr : reachB ops 9 j i = false) : indep h ops oi oj = true:=by
 simp only [afree,hi,List.all_eq_true,List.mem_range] at hf
 have h1:=hf j (Array.getElem?_eq_some_iff.1 hj).1
 simp only [hj,Bool.or_eq_true,beq_iff_eq,hne,false_or,hun,Bool.false_eq_true,hnr,or_false] at h1
 rcases h1 with h1 | h1
 ·obtain ⟨e,he,hb⟩:=Array.any_eq_true'.1 h1
  simp only [Bool.and_eq_true,beq_iff_eq] at hb
  exact absurd hb.2 (hno e he hb.1)
 ·exact h1
theorem aAny_lex (hK : Resp K) : ∀ (l : List Oper) (k : Nat) (listed : Array Bool) (e : Env) (H : Heap),(∀ j,l[j]? = ops[k + j]?) -> alexFrom h ops l.length k listed = true -> Cl ops listed -> arun P n h ops l K e H ->
  aAny P n h ops K l.length listed e H
 | [],_,_,_,_,_,hB,_,ha => ⟨by simpa [alexFrom] using hB,ha⟩
 | o :: l,k,listed,e,H,hl,hB,hcl,ha => by
  have h0 : ops[k]? = some o:=by simpa using (hl 0).symm
  simp only [List.length_cons,alexFrom,Bool.and_eq_true] at hB
  obtain ⟨⟨hr,hf⟩,hB'⟩:=hB
  have hr' : k ∈ Region.ready .any ops listed:=by simpa using hr
  refine aAny_first hK h0 l.length listed e H (afree_spec h0 hf) hcl hr' ?_
  exact aop_mono (fun e' H' h1 => aAny_lex hK l (k + 1) _ e' H' (fun j => by have:=hl (j + 1); simpa [Nat.add_assoc,Nat.add_comm 1 j] using this) hB' (hcl.add hr') h1) ha
theorem aAny_ord (hK : Resp K) : ∀ (l : List Nat) (listed : Array Bool) (e : Env) (H : Heap),alexO h ops l listed = true -> Cl ops listed -> arun P n h ops (l.filterMap fun i => ops[i]?) K e H ->
  aAny P n h ops K l.length listed e H
 | [],_,_,_,hB,_,ha => ⟨by simpa [alexO] using hB,ha⟩
 | k :: l,listed,e,H,hB,hcl,ha => by
  simp only [alexO,Bool.and_eq_true] at hB
  obtain ⟨⟨hr,hf⟩,hB'⟩:=hB
  have hr' : k ∈ Region.ready .any ops listed:=by simpa using hr
  obtain ⟨_,o,h0,_⟩:=mem_ready.1 hr'
  rw [List.filterMap_cons,h0] at ha
  refine aAny_first hK h0 l.length listed e H (afree_spec h0 hf) hcl hr' ?_
  exact aop_mono (fun e' H' h1 => aAny_ord hK l _ e' H' hB' (hcl.add hr') h1) ha
theorem aAny_sound {ro : Option Nat} {nn : Nat} {F : Nat -> Prop} (Q : Exit -> Act -> World -> Prop) : ∀ (fuel : Nat) (listed : Array Bool) (G : Gh) (env : Env) (H : Heap) (a : Act) (w : World),SRel F G n env H a w -> aAny P n h ops K fuel listed env H ->
  (∀ a' w',After F G w n K a' w' -> Q .normal a' w') -> wpAnyIn (fen ro) nn P .any ops Q fuel listed a w
 | 0,listed,G,env,H,a,w,hs,ha,hQ => ⟨ha.1,hQ a w ⟨env,H,G,ha.2,hs,.refl F G w⟩⟩
 | fuel + 1,listed,G,env,H,a,w,hs,ha,hQ => by
  refine ⟨fun hr => hQ a w ⟨env,H,G,ha.1 hr,hs,.refl F G w⟩,fun i hi => ?_⟩
  obtain ⟨o,ho,h1⟩:=ha.2 i hi
  have hst:=aop_step (ro:=ro) (nn:=nn) hs h1 Q
  have next : ∀ a' w',After F G w n (aAny P n h ops K fuel (listed.setIfInBounds i true)) a' w' -> wpAnyIn (fen ro) nn P .any ops Q fuel (listed.setIfInBounds i true) a' w':=by
   rintro a' w' ⟨env',H',G',hK,hs',he⟩
   refine aAny_sound Q fuel _ G' env' H' a' w' hs' hK fun a'' w'' => ?_
   rintro ⟨env2,H2,G2,hK2,hs2,he2⟩
   exact hQ a'' w'' ⟨env2,H2,G2,hK2,hs2,he.trans he2⟩
  unfold wpOpIn
  rw [ho]
  simp only
  split
  ·rename_i hw
   rw [if_pos hw] at hst
   exact Oper.wpIn_mono next hst
  ·rename_i hw
   rw [if_neg hw] at hst
   exact ⟨fun _ _ => trivial,next _ _ hst⟩
theorem SRel.draw {F : Nat -> Prop} {G : Gh} {env : Env} {H : Heap} {a : Act} {w : World} (hs : SRel F G n env H a w) : SRel F G n env H a w.drew:=⟨hs.size,hs.defers,hs.out,hs.c.draw⟩
theorem adraw_region {ro : Option Nat} {nn : Nat} {F : Nat -> Prop} {G : Gh} {env : Env} {H : Heap} {a : Act} {w : World} {id : Nat} (Q : Exit -> Act -> World -> Prop) (hm : P.follows .mixedOrders = true) (hK : Resp K) (hd : drawOk h ops = true)
  (hs : SRel F G n env H a w) (ha : arun P n h ops ops.toList K env H) (hQ : ∀ a' w',After F G w n K a' w' -> Q .normal a' w') : (Code.region id ops true).wpIn (fen ro) nn P Q a w:=by
 refine wpIn_region_any hm ?_
 have h1:=aAny_lex (P:=P) (n:=n) (h:=h) (ops:=ops) hK ops.toList 0 (Array.replicate ops.size false) env H (by simp) (by simpa [drawOk] using hd) (fun m om hm hl => by
  have hlt:=(Array.getElem?_eq_some_iff.1 hm).1
  simp [Array.getD_eq_getD_getElem?,hlt] at hl) ha
 rw [Array.length_toList] at h1
 refine aAny_sound (F:=F) Q ops.size _ G env H a w.drew hs.draw h1 fun a' w' => ?_
 rintro ⟨env',H',G',hK',hs',he⟩
 exact hQ a' w' ⟨env',H',G',hK',hs',ext_draw.trans he⟩
theorem adraw_regionO {ro : Option Nat} {nn : Nat} {F : Nat -> Prop} {G : Gh} {env : Env} {H : Heap} {a : Act} {w : World} {id : Nat} (l : List Nat) (Q : Exit -> Act -> World -> Prop) (hm : P.follows .mixedOrders = true) (hK : Resp K) (hd : drawOkO h ops l = true)
  (hs : SRel F G n env H a w) (ha : arun P n h ops (l.filterMap fun i => ops[i]?) K env H) (hQ : ∀ a' w',After F G w n K a' w' -> Q .normal a' w') : (Code.region id ops true).wpIn (fen ro) nn P Q a w:=by
 refine wpIn_region_any hm ?_
 simp only [drawOkO,Bool.and_eq_true,beq_iff_eq] at hd
 have h1:=aAny_ord (P:=P) (n:=n) (h:=h) (ops:=ops) hK l (Array.replicate ops.size false) env H hd.2 (fun m om hm hl => by
  have hlt:=(Array.getElem?_eq_some_iff.1 hm).1
  simp [Array.getD_eq_getD_getElem?,hlt] at hl) ha
 rw [hd.1] at h1
 refine aAny_sound (F:=F) Q ops.size _ G env H a w.drew hs.draw h1 fun a' w' => ?_
 rintro ⟨env',H',G',hK',hs',he⟩
 exact hQ a' w' ⟨env',H',G',hK',hs',ext_draw.trans he⟩
def clean (live : List Tmp) (e : Env) : Env:=live.map fun t => (t,look e t)
theorem look_clean (live : List Tmp) (e : Env) (t : Tmp) : look (clean live e) t = look e t \/ look (clean live e) t = .undef:=by
 induction live with
 | nil => exact .inr rfl
 | cons x l ih =>
  simp only [clean,List.map_cons,look]
  split
  ·rename_i hx; subst hx; exact .inl rfl
  ·exact ih
theorem clean_congr (live : List Tmp) {e e' : Env} (he : ∀ t,look e t = look e' t) : clean live e = clean live e':=by
 simp [clean,he]
theorem tcnt_forget (b : Nat) : ∀ (vs vs' : List AV) (us : List Value),vs.length = vs'.length -> (∀ i : Nat,vs'[i]? = vs[i]? \/ vs'[i]? = some .undef) -> tcnt b vs' us <= tcnt b vs us
 | [],[],us,_,_ => Nat.le_refl _
 | [],_ :: _,_,h,_ => by simp at h
 | _ :: _,[],_,h,_ => by simp at h
 | v :: vs,v' :: vs',[],_,_ => by simp [tcnt]
 | v :: vs,v' :: vs',u :: us,hl,h => by
  rw [tcnt_cons,tcnt_cons]
  have ih:=tcnt_forget b vs vs' us (by simpa using hl) (fun i => by simpa using h (i + 1))
  have h0:=h 0
  simp only [List.getElem?_cons_zero,Option.some.injEq] at h0
  rcases h0 with rfl | rfl
  ·omega
  ·rw [toks_undef]; simp only [List.count_nil]; omega
theorem SRel.forget {F : Nat -> Prop} {G : Gh} {env env' : Env} {H : Heap} {a : Act} {w : World} (hs : SRel F G n env H a w) (he : ∀ t,look env' t = look env t \/ look env' t = .undef) : SRel F G n env' H a w:=by
 have hlook : ∀ i : Nat,(elist n env')[i]? = (elist n env)[i]? \/ (elist n env')[i]? = some .undef:=by
  intro i
  by_cases hi : i < n
  ·rw [elist_get _ hi,elist_get _ hi]
   rcases he i with h1 | h1
   ·exact .inl (by rw [h1])
   ·exact .inr (by rw [h1])
  ·exact .inl (by rw [List.getElem?_eq_none (by rw [elist_length]; omega),List.getElem?_eq_none (by rw [elist_length]; omega)])
 refine ⟨hs.size,hs.defers,fun t ht => ?_,⟨by rw [elist_length]; simp [hs.size],fun i x u h1 h2 => ?_,fun i x u h1 h2 => ?_⟩,hs.c.h,fun b => ?_⟩
 ·rcases he t with h1 | h1
  ·rw [h1]; exact hs.out t ht
  ·exact h1
 ·rcases hlook i with h3 | h3
  ·rw [h3] at h1; exact hs.c.l.rel i x u h1 h2
  ·rw [h3] at h1; cases h1; exact .undef u
 ·rcases hlook i with h3 | h3
  ·rw [h3] at h1; exact hs.c.l.tok i x u h1 h2
  ·rw [h3] at h1; cases h1; exact tok_nil_all (toks_undef u) F G w
 ·have h1:=tcnt_forget b (elist n env) (elist n env') a.tmps.toList (by simp [elist_length]) hlook
  have h2:=hs.c.cnt b
  omega
end
end Go.AI
namespace Go.AI
section
variable {P : Program} {n : Nat} {h : Hint} {ops : Array Oper} {K : Env -> Heap -> Prop}
theorem aAny_end (hno : ∀ (i : Nat) (o : Oper),ops[i]? = some o -> cls h o ≠ 4) : ∀ (fuel : Nat) (listed : Array Bool) (e : Env) (H : Heap),aAny P n h ops K fuel listed e H ->
  ∃ e' H',K e' H' /\ ∀ (t : Tmp) (a b : Nat),(∀ (k : Nat) (ok : Oper),ops[k]? = some ok -> listed.getD k true = false -> ok.dst ≠ some t) -> look e' t = .ptr a b -> look e t = .ptr a b
 | 0,listed,e,H,ha => ⟨e,H,ha.2,fun _ _ _ _ h => h⟩
 | fuel + 1,listed,e,H,ha => by
  cases hr : Region.ready .any ops listed with
  | nil => exact ⟨e,H,ha.1 hr,fun _ _ _ _ h => h⟩
  | cons i r =>
   have hi : i ∈ Region.ready .any ops listed:=by rw [hr]; simp
   obtain ⟨o,ho,h1⟩:=ha.2 i hi
   obtain ⟨v,H1,_,h2⟩:=aop_out (hno i o ho) h1
   obtain ⟨e',H',hk,hl⟩:=aAny_end hno fuel _ _ _ h2
   refine ⟨e',H',hk,fun t a b hw hp => upd_ptr (hw i o ho (mem_ready.1 hi).1) (hl t a b (fun k ok hk hun => ?_) hp)⟩
   refine hw k ok hk ?_
   by_cases hik : i = k
   ·subst hik; exact (mem_ready.1 hi).1
   ·rw [getD_set_ne true hik] at hun; exact hun
def adrT (h : Hint) (o : Oper) : Option (Tmp × Bool) :=
 match o.op,o.guard with
 | .store _ (.tmp a) _,none => some (a,true)
 | .load _ (.tmp a),none => if isLd h o = true then some (a,false) else none
 | _,_ => none
theorem adrT_spec {o : Oper} {a : Tmp} {s : Bool} (ho : adrT h o = some (a,s)) : ∃ k,adrOf P h o = some (a,k,s):=by
 unfold adrT at ho
 unfold adrOf
 split at ho
 ·rename_i h1 h2
  cases ho
  first | (rw [h1,h2]; exact ⟨_,rfl⟩) | exact ⟨_,rfl⟩
 ·rename_i h1 h2
  split at ho
  ·rename_i h3
   cases ho
   first | (rw [h1,h2]; exact ⟨_,by simp only [h3,if_true]; rfl⟩) | exact ⟨_,by simp only [h3,if_true]; rfl⟩
  ·cases ho
 ·cases ho
def fixB (ops : Array Oper) (i : Nat) (a : Tmp) : Bool:=(List.range ops.size).all fun k => match ops[k]? with
 | some ok => !(ok.dst == some a) || reachB ops 9 i k
 | none => true
def dynS (h : Hint) (ops : Array Oper) (i : Nat) (oi : Oper) (j : Nat) (oj : Oper) : Bool :=
 decide (i < j) && (indepS h ops oi oj && match adrT h oi,adrT h oj with
  | some (a,s),some (b,s') => (s || s') && fixB ops i a && fixB ops j b
  | _,_ => false)
def no4 (h : Hint) (ops : Array Oper) : Bool:=ops.toList.all fun o => !(cls h o == 4)
def dynPairs (h : Hint) (ops : Array Oper) : List (Oper × Oper):=(List.range ops.size).flatMap fun i => (List.range ops.size).filterMap fun j => match ops[i]?,ops[j]? with
 | some oi,some oj => if (!(i == j) && !(indep h ops oi oj) && dynS h ops i oi j oj && !(reachB ops 9 j i)) = true then some (oi,oj) else none
 | _,_ => none
def dynAll (P : Program) (h : Hint) (ops : Array Oper) (e : Env) : Prop:=∀ p ∈ dynPairs h ops,apartAt P h p.1 p.2 e
theorem dyn_pair {i j : Nat} {oi oj : Oper} (hi : ops[i]? = some oi) (hj : ops[j]? = some oj) (hne : i ≠ j) (h1 : indep h ops oi oj = false) (h2 : dynS h ops i oi j oj = true) (h3 : reachB ops 9 j i = false) : (oi,oj) ∈ dynPairs h ops:=by
 refine List.mem_flatMap.2 ⟨i,List.mem_range.2 (Array.getElem?_eq_some_iff.1 hi).1,List.mem_filterMap.2 ⟨j,List.mem_range.2 (Array.getElem?_eq_some_iff.1 hj).1, ?_⟩⟩
 rw [hi,hj]
 simp [hne,h1,h2,h3]
theorem fix_spec {i k : Nat} {a : Tmp} {ok : Oper} (hf : fixB ops i a = true) (hk : ops[k]? = some ok) (hd : ok.dst = some a) : reachB ops 9 i k = true:=by
 have:=List.all_eq_true.1 hf k (List.mem_range.2 (Array.getElem?_eq_some_iff.1 hk).1)
 simp only [hk,hd] at this
 simpa using this
theorem apart_now (hn4 : no4 h ops = true) (hKD : ∀ e H,K e H -> dynAll P h ops e) {i j : Nat} {oi oj : Oper} (hoi : ops[i]? = some oi) (hoj : ops[j]? = some oj) (hne : i ≠ j) {listed : Array Bool} (hcl : Cl ops listed)
  (hi : i ∈ Region.ready .any ops listed) (hj : j ∈ Region.ready .any ops listed) (h1 : indep h ops oi oj = false) (h2 : dynS h ops i oi j oj = true) (h3 : reachB ops 9 j i = false) {fuel : Nat} {e : Env} {H : Heap}
  (ha : aop P n h ops oi (aop P n h ops oj (aAny P n h ops K fuel ((listed.setIfInBounds i true).setIfInBounds j true))) e H) : apartAt P h oi oj e:=by
 have hno : ∀ (i : Nat) (o : Oper),ops[i]? = some o -> cls h o ≠ 4:=fun i o ho h4 => by
  have:=List.all_eq_true.1 hn4 o (by rw [<- Array.getElem?_toList] at ho; exact List.mem_of_getElem? ho)
  simp [h4] at this
 obtain ⟨v,H1,_,ha1⟩:=aop_out (hno i oi hoi) ha
 obtain ⟨u,H2,_,ha2⟩:=aop_out (hno j oj hoj) ha1
 obtain ⟨e',H',hk,hl⟩:=aAny_end hno fuel _ _ _ ha2
 have hap:=hKD e' H' hk _ (dyn_pair hoi hoj hne h1 h2 h3)
 have quiet : ∀ {m : Nat} {a : Tmp},m ∈ Region.ready .any ops listed -> fixB ops m a = true -> ∀ (k : Nat) (ok : Oper),ops[k]? = some ok -> listed.getD k true = false -> ok.dst ≠ some a:=fun {m a} hm hf k ok hk hun hd => by
  obtain ⟨_,om,hom,hall⟩:=mem_ready.1 hm
  have:=reach_listed hcl 9 m (fix_spec hf hk hd) fun oj' hj' e he hb => by
   rw [hom] at hj'; cases hj'
   exact getD_ft (hall e he hb)
  rw [this] at hun; cases hun
 have now : ∀ {m : Nat} {a : Tmp} {x y : Nat},m ∈ Region.ready .any ops listed -> fixB ops m a = true -> look e' a = .ptr x y -> look e a = .ptr x y:=fun {m a x y} hm hf hp => by
  have q:=quiet hm hf
  refine upd_ptr (q i oi hoi (mem_ready.1 hi).1) (upd_ptr (q j oj hoj (mem_ready.1 hj).1) (hl a x y (fun k ok hk hun => q k ok hk ?_) hp))
  by_cases hjk : j = k
  ·subst hjk; exact (mem_ready.1 hj).1
  ·rw [getD_set_ne true hjk] at hun
   by_cases hik : i = k
   ·subst hik; exact (mem_ready.1 hi).1
   ·rw [getD_set_ne true hik] at hun; exact hun
 simp only [dynS,Bool.and_eq_true] at h2
 replace h2:=h2.2
 obtain ⟨_,h2⟩:=h2
 split at h2
 ·rename_i a s b s' ha' hb'
  simp only [Bool.and_eq_true] at h2
  obtain ⟨⟨_,fa⟩,fb⟩:=h2
  obtain ⟨k,hka⟩:=adrT_spec (P:=P) ha'
  obtain ⟨l,hlb⟩:=adrT_spec (P:=P) hb'
  unfold apartAt at hap ⊢
  simp only [hka,hlb] at hap ⊢
  refine ⟨hap.1, ?_⟩
  have hap:=hap.2
  split at hap
  ·rename_i o1 f1 o2 f2 e1 e2
   rw [now hi fa e1,now hj fb e2]
   exact hap
  ·exact hap.elim
 ·cases h2
theorem aAny_firstD (hn4 : no4 h ops = true) (hKD : ∀ e H,K e H -> dynAll P h ops e) (hK : Resp K) {i : Nat} {oi : Oper} (hi : ops[i]? = some oi) : ∀ (fuel : Nat) (listed : Array Bool) (e : Env) (H : Heap),
  (∀ (j : Nat) (oj : Oper),ops[j]? = some oj -> j ≠ i -> listed.getD j true = false -> (∀ e ∈ oj.after,Region.binds .any e = true -> e.on ≠ i) -> reachB ops 9 j i = false -> indep h ops oi oj = true \/ dynS h ops i oi j oj = true) -> Cl ops listed ->
  i ∈ Region.ready .any ops listed -> aop P n h ops oi (aAny P n h ops K fuel (listed.setIfInBounds i true)) e H -> aAny P n h ops K (fuel + 1) listed e H:=by
 intro fuel
 induction fuel with
 | zero =>
  intro listed e H hfree hcl hr ha
  refine ⟨fun h0 => (by rw [h0] at hr; cases hr),fun j hj => ?_⟩
  by_cases hji : j = i
  ·subst hji; exact ⟨oi,hi,ha⟩
  ·obtain ⟨hjun,oj,hoj,hall⟩:=mem_ready.1 hj
   have hnot : ∀ e ∈ oj.after,Region.binds .any e = true -> e.on ≠ i:=fun e he hb heq => by
    have h1:=hall e he hb
    have h0:=(mem_ready.1 hr).1
    rw [heq] at h1
    rcases Nat.lt_or_ge i listed.size with h' | h'
    ·simp [h'] at h0 h1; rw [h0] at h1; cases h1
    ·simp [Array.getElem?_eq_none h'] at h1
   have hnr : reachB ops 9 j i = false:=by
    cases hR : reachB ops 9 j i with
    | false => rfl
    | true =>
     have h1:=reach_listed hcl 9 j hR fun oj' hj' e he hb => by
      rw [hoj] at hj'; cases hj'
      exact getD_ft (hall e he hb)
     have h0:=(mem_ready.1 hr).1
     rw [h0] at h1; cases h1
   have hind:=hfree j oj hoj hji hjun hnot hnr
   have hx4 : cls h oi ≠ 4:=fun h4 => by
    have:=List.all_eq_true.1 hn4 oi (by rw [<- Array.getElem?_toList] at hi; exact List.mem_of_getElem? hi)
    simp [h4] at this
   obtain ⟨v,H',_,h2⟩:=aop_out hx4 ha
   have:=ready_mono hj hji
   rw [h2.1] at this
   cases this
 | succ fuel ih =>
  intro listed e H hfree hcl hr ha
  refine ⟨fun h0 => (by rw [h0] at hr; cases hr),fun j hj => ?_⟩
  by_cases hji : j = i
  ·subst hji; exact ⟨oi,hi,ha⟩
  ·obtain ⟨hjun,oj,hoj,hall⟩:=mem_ready.1 hj
   have hnot : ∀ e ∈ oj.after,Region.binds .any e = true -> e.on ≠ i:=fun e he hb heq => by
    have h1:=hall e he hb
    have h0:=(mem_ready.1 hr).1
    rw [heq] at h1
    rcases Nat.lt_or_ge i listed.size with h' | h'
    ·simp [h'] at h0 h1; rw [h0] at h1; cases h1
    ·simp [Array.getElem?_eq_none h'] at h1
   have hnr : reachB ops 9 j i = false:=by
    cases hR : reachB ops 9 j i with
    | false => rfl
    | true =>
     have h1:=reach_listed hcl 9 j hR fun oj' hj' e he hb => by
      rw [hoj] at hj'; cases hj'
      exact getD_ft (hall e he hb)
     have h0:=(mem_ready.1 hr).1
     rw [h0] at h1; cases h1
   have hind:=hfree j oj hoj hji hjun hnot hnr
   have h1 : aop P n h ops oi (aop P n h ops oj (aAny P n h ops K fuel ((listed.setIfInBounds i true).setIfInBounds j true))) e H:=by
    refine aop_mono (fun e' H' h2 => ?_) ha
    obtain ⟨o,ho,h3⟩:=h2.2 j (ready_mono hj hji)
    rw [hoj] at ho
    cases ho
    exact h3
   have h2 : aop P n h ops oj (aop P n h ops oi (aAny P n h ops K fuel ((listed.setIfInBounds i true).setIfInBounds j true))) e H:=by
    cases hb : indep h ops oi oj with
    | true => exact aop_swap hb (aAny_resp hK fuel _) h1
    | false =>
     have hdy:=hind.resolve_left (by rw [hb]; simp)
     have hap:=apart_now hn4 hKD hi hoj (Ne.symm hji) hcl hr hj hb hdy hnr h1
     have hs : indepS h ops oi oj = true:=by
      simp only [dynS,Bool.and_eq_true] at hdy
      replace hdy:=hdy.2
      exact hdy.1
     exact aop_swapAt hs hap (aAny_resp hK fuel _) h1
   have hfree' : ∀ (k : Nat) (ok : Oper),ops[k]? = some ok -> k ≠ i -> (listed.setIfInBounds j true).getD k true = false -> (∀ e ∈ ok.after,Region.binds .any e = true -> e.on ≠ i) -> reachB ops 9 k i = false -> indep h ops oi ok = true \/ dynS h ops i oi k ok = true:=fun k ok hk hki hun hno hnr => by
    refine hfree k ok hk hki ?_ hno hnr
    by_cases hjk : j = k
    ·subst hjk; exact hjun
    ·rw [getD_set_ne true hjk] at hun; exact hun
   refine ⟨oj,hoj,aop_mono (fun e' H' h3 => ih (listed.setIfInBounds j true) e' H' hfree' (hcl.add hj) (ready_mono hr (Ne.symm hji)) ?_) h2⟩
   rw [Array.setIfInBounds_comm _ _ hji]
   exact h3
def afreeD (h : Hint) (ops : Array Oper) (listed : Array Bool) (i : Nat) : Bool :=
 match ops[i]? with
 | none => false
 | some oi => (List.range ops.size).all fun j => j == i || listed.getD j true || match ops[j]? with
   | some oj => oj.after.any (fun e => Region.binds .any e && e.on == i) || indep h ops oi oj || reachB ops 9 j i || dynS h ops i oi j oj
   | none => true
def alexFromD (h : Hint) (ops : Array Oper) : Nat -> Nat -> Array Bool -> Bool
 | 0,_,listed => (Region.ready .any ops listed).isEmpty
 | fuel + 1,k,listed => (Region.ready .any ops listed).contains k && afreeD h ops listed k && alexFromD h ops fuel (k + 1) (listed.setIfInBounds k true)
def drawOkD (h : Hint) (ops : Array Oper) : Bool:=no4 h ops && alexFromD h ops ops.size 0 (Array.replicate ops.size false)
theorem afreeD_spec {i : Nat} {oi : Oper} {listed : Array Bool} (hi : ops[i]? = some oi) (hf : afreeD h ops listed i = true) (j : Nat) (oj : Oper)
  (hj : ops[j]? = some oj) (hne : j ≠ i) (hun : listed.getD j true = false) (hno : ∀ e ∈ oj.after,Region.binds .any e = true -> e.on ≠ i) (hnr : reachB ops 9 j i = false) : indep h ops oi oj = true \/ dynS h ops i oi j oj = true:=by
 simp only [afreeD,hi,List.all_eq_true,List.mem_range] at hf
 have h1:=hf j (Array.getElem?_eq_some_iff.1 hj).1
 simp only [hj,Bool.or_eq_true,beq_iff_eq,hne,false_or,hun,Bool.false_eq_true,hnr,or_false] at h1
 rcases h1 with (h1 | h1) | h1
 ·obtain ⟨e,he,hb⟩:=Array.any_eq_true'.1 h1
  simp only [Bool.and_eq_true,beq_iff_eq] at hb
  exact absurd hb.2 (hno e he hb.1)
 ·exact .inl h1
 ·exact .inr h1
theorem aAny_lexD (hn4 : no4 h ops = true) (hKD : ∀ e H,K e H -> dynAll P h ops e) (hK : Resp K) : ∀ (l : List Oper) (k : Nat) (listed : Array Bool) (e : Env) (H : Heap),(∀ j,l[j]? = ops[k + j]?) -> alexFromD h ops l.length k listed = true -> Cl ops listed -> arun P n h ops l K e H ->
  aAny P n h ops K l.length listed e H
 | [],_,_,_,_,_,hB,_,ha => ⟨by simpa [alexFromD] using hB,ha⟩
 | o :: l,k,listed,e,H,hl,hB,hcl,ha => by
  have h0 : ops[k]? = some o:=by simpa using (hl 0).symm
  simp only [List.length_cons,alexFromD,Bool.and_eq_true] at hB
  obtain ⟨⟨hr,hf⟩,hB'⟩:=hB
  have hr' : k ∈ Region.ready .any ops listed:=by simpa using hr
  refine aAny_firstD hn4 hKD hK h0 l.length listed e H (afreeD_spec h0 hf) hcl hr' ?_
  exact aop_mono (fun e' H' h1 => aAny_lexD hn4 hKD hK l (k + 1) _ e' H' (fun j => by have:=hl (j + 1); simpa [Nat.add_assoc,Nat.add_comm 1 j] using this) hB' (hcl.add hr') h1) ha
theorem adraw_regionD {ro : Option Nat} {nn : Nat} {F : Nat -> Prop} {G : Gh} {env : Env} {H : Heap} {a : Act} {w : World} {id : Nat} (Q : Exit -> Act -> World -> Prop) (hm : P.follows .mixedOrders = true) (hKD : ∀ e H,K e H -> dynAll P h ops e) (hK : Resp K) (hd : drawOkD h ops = true)
  (hs : SRel F G n env H a w) (ha : arun P n h ops ops.toList K env H) (hQ : ∀ a' w',After F G w n K a' w' -> Q .normal a' w') : (Code.region id ops true).wpIn (fen ro) nn P Q a w:=by
 refine wpIn_region_any hm ?_
 simp only [drawOkD,Bool.and_eq_true] at hd
 have h1:=aAny_lexD (P:=P) (n:=n) (h:=h) (ops:=ops) hd.1 hKD hK ops.toList 0 (Array.replicate ops.size false) env H (by simp) (by simpa using hd.2) (fun m om hm hl => by
  have hlt:=(Array.getElem?_eq_some_iff.1 hm).1
  simp [Array.getD_eq_getD_getElem?,hlt] at hl) ha
 rw [Array.length_toList] at h1
 refine aAny_sound (F:=F) Q ops.size _ G env H a w.drew hs.draw h1 fun a' w' => ?_
 rintro ⟨env',H',G',hK',hs',he⟩
 exact hQ a' w' ⟨env',H',G',hK',hs',ext_draw.trans he⟩
theorem dynAll_resp {e e' : Env} (he : ∀ t,look e t = look e' t) (hd : dynAll P h ops e) : dynAll P h ops e':=fun p hp => by
 have h1:=hd p hp
 unfold apartAt at h1 ⊢
 simp only [he] at h1
 exact h1
end
end Go.AI
namespace Go.AI
section
variable {P : Program} {F : Nat -> Prop} {G : Gh} {w : World} {H : Heap} {n : Nat} {env : Env} {a : Act} {vals : List AV} {us : List Value}
theorem VRel.frozen (h : CRel F G vals H us w) {ob b off len sz : Nat} {cs : List AV} {u : Value} (ho : H[ob]? = some (some cs)) (hb : G.obs[ob]? = some b) (hv : VRel G w (.msl ob off len sz) u) (hle : off + len * sz <= cs.length)
  (ag : Bool) (hs : ag = true \/ sz = 1) : VRel (G.setKind b .imm) w (.sl none (chunk ag sz len ((cs.drop off).map Go.AI.borrow1))) u:=by
 have hbc:=hv.msl_cells hb
 have hext:=(h.freeze ho hb hbc).2
 have hobj:=h.h.obj ob cs b ho hb
 obtain ⟨C,E,hrow,hlC,hC⟩:=(hobj.of_cells hbc.choose_spec.choose_spec).2
 generalize hx : AV.msl ob off len sz = x at hv
 cases hv <;> cases hx
 rename_i b0 cap hcap hob hlcap hcc
 rw [hb] at hob
 cases hob
 have hcs : ∀ c ∈ (cs.drop off).map Go.AI.borrow1,c.scalar = true:=fun c hm => by
  obtain ⟨c0,hc0,rfl⟩:=List.mem_map.1 hm
  obtain ⟨i,hi⟩:=List.getElem?_of_mem hc0
  rw [List.getElem?_drop] at hi
  have hlt : off + i < C.size:=Nat.lt_of_lt_of_le (List.getElem?_eq_some_iff.1 hi).1 hlC
  rw [scalar_borrow1]
  exact (hC _ _ _ hi (Array.getElem?_eq_getElem hlt)).1
 obtain ⟨k1,k2⟩:=chunk_cells ag sz hs len ((cs.drop off).map Go.AI.borrow1) (by simp; omega) hcs
 have e:=chunk_length ag sz len ((cs.drop off).map Go.AI.borrow1)
 have key : ∀ (i : Nat) (c : AV),(cat (chunk ag sz len ((cs.drop off).map Go.AI.borrow1)))[i]? = some c -> c.scalar = true /\ ∃ v,C[off + i]? = some v /\ VRel (G.setKind b .imm) w c v:=fun i c hi => by
  rw [k1] at hi
  have hi' : ((cs.drop off).map Go.AI.borrow1)[i]? = some c:=by
   rw [List.getElem?_take] at hi
   split at hi
   ·exact hi
   ·cases hi
  rw [List.getElem?_map,List.getElem?_drop] at hi'
  cases hc0 : cs[off + i]? with
  | none => rw [hc0] at hi'; cases hi'
  | some c0 =>
   rw [hc0] at hi'
   cases hi'
   have hlt : off + i < C.size:=Nat.lt_of_lt_of_le (List.getElem?_eq_some_iff.1 hc0).1 hlC
   have:=hC _ _ _ hc0 (Array.getElem?_eq_getElem hlt)
   exact ⟨(scalar_borrow1 c0).trans this.1,_,Array.getElem?_eq_getElem hlt,(this.2.1.keep hext.keeps).borrow1⟩
 have hres:=VRel.sl (G:=G.setKind b .imm) (w:=w) none (chunk ag sz len ((cs.drop off).map Go.AI.borrow1)) sz b off cap (fun i => (C[off + i]?).getD Go.undef) k2 (by intro n hn; cases hn) (by rw [e]; exact hlcap) (by assumption)
  (fun i c hi => by
   obtain ⟨g1,v,g2,g3⟩:=key i c hi
   refine ⟨g1, ?_, ?_⟩
   ·unfold Gh.safe
    rw [G.kind_set]
    trivial
   ·rw [g2]
    simp only [Option.getD_some]
    simp [World.cell?,hrow,g2])
  (fun i c hi => by
   obtain ⟨g1,v,g2,g3⟩:=key i c hi
   rw [g2]
   exact g3)
 rw [e] at hres
 exact hres
end
end Go.AI
namespace Go.AI
mutual
def AV.bnd (k : Nat) : AV -> Bool
 | .ptr o _ => decide (o < k)
 | .msl o _ _ _ => decide (o < k)
 | .mslc o _ _ _ _ => decide (o < k)
 | .mapr o => decide (o < k)
 | .it o => decide (o < k)
 | .yld o _ => decide (o < k)
 | .ifc _ a => a.bnd k
 | .cptr cs _ => bndL k cs
 | .sl _ es => bndL k es
 | .fn _ a b => bndL k a && bndL k b
 | .agg cs => bndL k cs
 | .tup vs => bndL k vs
 | _ => true
def bndL (k : Nat) : List AV -> Bool
 | [] => true
 | v :: vs => v.bnd k && bndL k vs
end
theorem bndL_iff {k : Nat} {vs : List AV} : bndL k vs = true ↔ ∀ v ∈ vs,v.bnd k = true:=by
 induction vs with
 | nil => simp [bndL]
 | cons x xs ih => simp [bndL,ih]
theorem bndL_map {α : Type} {k : Nat} {f : α -> AV} {l : List α} (h : ∀ x,(f x).bnd k = true) : bndL k (l.map f) = true:=by
 rw [bndL_iff]
 intro v hv
 obtain ⟨x,_,rfl⟩:=List.mem_map.1 hv
 exact h x
theorem bnd_cells {k : Nat} {v : AV} (h : v.bnd k = true) : ∀ c ∈ v.cells,c.bnd k = true:=by
 cases v <;> first | (intro c hc; simp only [AV.cells,List.mem_singleton] at hc; subst hc; exact h) | skip
 simp only [AV.bnd] at h
 exact bndL_iff.1 h
theorem bnd_cat {k : Nat} {es : List AV} (h : bndL k es = true) : ∀ c ∈ cat es,c.bnd k = true:=by
 intro c hc
 obtain ⟨e,he,hc⟩:=List.mem_flatMap.1 hc
 exact bnd_cells (bndL_iff.1 h e he) c hc
def Gh.cut (G : Gh) (k : Nat) : Gh:=⟨G.obs.take k,G.kind⟩
theorem VRel.cut {G : Gh} {w : World} (k : Nat) {a : AV} {v : Value} (h : VRel G w a v) (hp : a.bnd k = true) : VRel (G.cut k) w a v:=by
 have hobs : ∀ o b,o < k -> G.obs[o]? = some b -> (G.cut k).obs[o]? = some b:=fun o b ho hb => by
  show (G.obs.take k)[o]? = some b
  rw [List.getElem?_take_of_lt ho]; exact hb
 induction h with
 | undef v => exact .undef v
 | int k n => exact .int k n
 | bool b => exact .bool b
 | str s => exact .str s
 | nilp => exact .nilp
 | ptr o off b h hc => exact .ptr o off b (hobs o b (by simpa [AV.bnd] using hp) h) hc
 | cptr cs off b q u h hu ih =>
  simp only [AV.bnd] at hp
  exact .cptr cs off b q u h fun i c hi => ih i c hi (bndL_iff.1 hp c (List.mem_of_getElem? hi))
 | slnil own => exact .slnil own
 | slany own a => exact .slany own a
 | sl own es sz b q cap u hsz hown hl hm h hu ih =>
  simp only [AV.bnd] at hp
  exact .sl own es sz b q cap u hsz hown hl hm h fun i c hi => ih i c hi (bnd_cat hp c (List.mem_of_getElem? hi))
 | msl o off len sz b cap h hl hm hc => exact .msl o off len sz b cap (hobs o b (by simpa [AV.bnd] using hp) h) hl hm hc
 | mslc o off len sz cap b h hl hm hc => exact .mslc o off len sz cap b (hobs o b (by simpa [AV.bnd] using hp) h) hl hm hc
 | fn f first captured fi ca h1 h2 h3 h4 ih1 ih2 =>
  simp only [AV.bnd,Bool.and_eq_true] at hp
  exact .fn f first captured fi ca h1 h2 (fun i c v hc hv => ih1 i c v hc hv (bndL_iff.1 hp.1 c (List.mem_of_getElem? hc))) (fun i c v hc hv => ih2 i c v hc hv (bndL_iff.1 hp.2 c (List.mem_of_getElem? hc)))
 | nilf => exact .nilf
 | mapr o b h hb hk => exact .mapr o b (hobs o b (by simpa [AV.bnd] using hp) h) hb hk
 | nilm => exact .nilm
 | it o b h hb hk => exact .it o b (hobs o b (by simpa [AV.bnd] using hp) h) hb hk
 | yld o b L h hb hk => exact .yld o b L (hobs o b (by simpa [AV.bnd] using hp) h) hb hk
 | ifc t a v hs h ih => exact .ifc t a v hs (ih (by simpa [AV.bnd] using hp))
 | nili => exact .nili
 | agg cs vs hl hs h ih =>
  simp only [AV.bnd] at hp
  exact .agg cs vs hl hs fun i c v hc hv => ih i c v hc hv (bndL_iff.1 hp c (List.mem_of_getElem? hc))
 | tup cs vs hl hs h ih =>
  simp only [AV.bnd] at hp
  exact .tup cs vs hl hs fun i c v hc hv => ih i c v hc hv (bndL_iff.1 hp c (List.mem_of_getElem? hc))
def closedH (H : Heap) : Prop:=∀ (o : Nat) (cs : List AV),H[o]? = some (some cs) -> bndL H.length cs = true
section
variable {P : Program} {F : Nat -> Prop} {G : Gh} {w : World}
theorem TokOk.cut {k : Nat} {p : AV × Value} (h : TokOk F G w p) : TokOk F (G.cut k) w p:=h
theorem ORel.cut {cs : List AV} {b : Nat} (h : ORel F G w cs b) (k : Nat) (hc : ∀ c ∈ cs,c.bnd k = true) : ORel F (G.cut k) w cs b:=by
 refine ⟨h.own, ?_⟩
 have hi:=h.is
 show match G.kind b with
  | .obj => RowIs F (G.cut k) w cs b
  | .map => MapIs (G.cut k) w cs b
  | .iter => IterIs (G.cut k) w cs b
  | .loop L => LoopIs (G.cut k) w L cs b
  | _ => False
 split at hi
 ·rename_i hk
  try rw [hk]
  obtain ⟨C,E,g1,g2,g3⟩:=hi
  exact ⟨C,E,g1,g2,fun i c v hci hv => ⟨(g3 i c v hci hv).1,(g3 i c v hci hv).2.1.cut _ (hc c (List.mem_of_getElem? hci)),(g3 i c v hci hv).2.2⟩⟩
 ·rename_i hk
  try rw [hk]
  obtain ⟨es,ms,cl,g1,g2,g3,g4,g5⟩:=hi
  subst g2
  have hb:=hc _ (by simp [mapc] : AV.tup (es.flatMap fun p => [p.1,p.2]) ∈ mapc es)
  simp only [AV.bnd] at hb
  refine ⟨es,ms,cl,g1,rfl,g3,fun i p m hp hm => ?_,g5⟩
  obtain ⟨a1,a2,a3,a4⟩:=g4 i p m hp hm
  have hpm:=List.mem_of_getElem? hp
  exact ⟨a1,a2,a3.cut _ (bndL_iff.1 hb _ (List.mem_flatMap.2 ⟨p,hpm,by simp⟩)),a4.cut _ (bndL_iff.1 hb _ (List.mem_flatMap.2 ⟨p,hpm,by simp⟩))⟩
 ·rename_i hk
  try rw [hk]
  rcases hi with ⟨s,pos,h1,h2⟩ | ⟨h1,h2⟩ | ⟨o,mb,si,se,h1,h2,h3⟩
  ·exact .inl ⟨s,pos,h1,h2⟩
  ·exact .inr (.inl ⟨h1,h2⟩)
  ·exact .inr (.inr ⟨o,mb,si,se,h1,h2,h3.cut _ (hc _ (by rw [h2]; simp [iterM]))⟩)
 ·rename_i L hk
  try rw [hk]
  obtain ⟨s,pe,t,D,st,vals,g1,g2,g3,g4,g5⟩:=hi
  subst g3
  have hb:=hc _ (by simp [loopc] : AV.tup vals ∈ loopc st vals)
  simp only [AV.bnd] at hb
  exact ⟨s,pe,t,D,st,vals,g1,g2,rfl,g4,fun i a u ha hu => ⟨(g5 i a u ha hu).1,(g5 i a u ha hu).2.cut _ (bndL_iff.1 hb _ (List.mem_of_getElem? ha))⟩⟩
 ·exact hi.elim
theorem sum_range_le {n m : Nat} {f : Nat -> Nat} (h : n <= m) : ((List.range n).map f).sum <= ((List.range m).map f).sum := by
  induction m with
  | zero => have : n = 0 := by omega
            subst this; exact Nat.le_refl _
  | succ m ih =>
    rw [List.range_succ, List.map_append, List.sum_append]
    by_cases e : n = m + 1
    · subst e; rw [List.range_succ, List.map_append, List.sum_append]; exact Nat.le_refl _
    · have := ih (by omega); omega
theorem CRel.cutL {vs : List AV} {us : List Value} {H1 junk : Heap} (h : CRel F G vs (H1 ++ junk) us w) (hv : bndL H1.length vs = true) (hc : closedH H1) : CRel F (G.cut H1.length) vs H1 us w:=by
 have hlen:=h.h.len
 rw [List.length_append] at hlen
 have hob : ∀ o,o < H1.length -> (G.cut H1.length).obs[o]? = G.obs[o]?:=fun o ho => List.getElem?_take_of_lt ho
 have hget : ∀ (o : Nat) (cs : List AV),H1[o]? = some (some cs) -> (H1 ++ junk)[o]? = some (some cs):=fun o cs ho => by
  rw [List.getElem?_append_left (List.getElem?_eq_some_iff.1 ho).1]; exact ho
 refine ⟨⟨h.l.len,fun i a u h1 h2 => (h.l.rel i a u h1 h2).cut _ (bndL_iff.1 hv a (List.mem_of_getElem? h1)),fun i a u h1 h2 p hp => h.l.tok i a u h1 h2 p hp⟩,⟨?_,fun o cs b ho hb => ?_,fun o o' cs cs' b g1 g2 g3 g4 => ?_,h.h.fore,h.h.glob.same rfl⟩,fun b => ?_⟩
 ·show (G.obs.take H1.length).length = _
  simp; omega
 ·have hlt:=(List.getElem?_eq_some_iff.1 ho).1
  rw [hob o hlt] at hb
  exact (h.h.obj o cs b (hget o cs ho) hb).cut _ (bndL_iff.1 (hc o cs ho))
 ·have l1:=(List.getElem?_eq_some_iff.1 g1).1
  have l2:=(List.getElem?_eq_some_iff.1 g2).1
  rw [hob _ l1] at g3
  rw [hob _ l2] at g4
  exact h.h.inj o o' cs cs' b (hget _ _ g1) (hget _ _ g2) g3 g4
 ·have h3:=h.cnt b
  have e : ∀ o,o < H1.length -> otoks (G.cut H1.length) H1 w o = otoks G (H1 ++ junk) w o:=fun o ho => by
   unfold otoks
   rw [hob o ho,List.getElem?_append_left ho]
  have h4 : hcnt (G.cut H1.length) H1 w b <= hcnt G (H1 ++ junk) w b:=by
   unfold hcnt
   rw [sum_range_congr (fun o ho => by rw [e o ho]),List.length_append]
   exact sum_range_le (by omega)
  omega
theorem CRel.cut {v : AV} {u : Value} {H1 junk : Heap} (h : CRel F G [v] (H1 ++ junk) [u] w) (hv : v.bnd H1.length = true) (hc : closedH H1) : CRel F (G.cut H1.length) [v] H1 [u] w :=
 h.cutL (by simp [bndL,hv]) hc
def closedB (H : Heap) : Bool:=H.all fun o => match o with
 | some cs => bndL H.length cs
 | none => true
theorem closedB_spec {H : Heap} (h : closedB H = true) : closedH H:=fun o cs ho => by
 have:=List.all_eq_true.1 h _ (List.mem_of_getElem? ho)
 exact this
def gcut (n : Option Nat) (e : Env) (H : Heap) : Heap :=
 match n with
 | some n => if n <= H.length /\ bndL n (e.map (·.2)) = true /\ closedB (H.take n) = true then H.take n else H
 | none => H
theorem look_mem {e : Env} {t : Tmp} : look e t = .undef \/ look e t ∈ e.map (·.2):=by
 induction e with
 | nil => exact .inl rfl
 | cons p e ih =>
  obtain ⟨k,v⟩:=p
  simp only [look]
  split
  ·exact .inr (by simp)
  ·rcases ih with h | h
   ·exact .inl h
   ·exact .inr (by simp only [List.map_cons,List.mem_cons]; exact .inr h)
theorem gcut_ok {G0 : Gh} {w0 : World} {n : Nat} {env : Env} {H : Heap} {a : Act} (k : Option Nat) (hs : SRel F G n env H a w) (he : Ext F G0 w0 G w) (h0 : k = none \/ G0.obs = []) :
  ∃ G',SRel F G' n env (gcut k env H) a w /\ Ext F G0 w0 G' w:=by
 cases k with
 | none => exact ⟨G,hs,he⟩
 | some k =>
  have h0 : G0.obs = []:=h0.resolve_left (by simp)
  simp only [gcut]
  split
  ·rename_i hc
   obtain ⟨h1,h2,h3⟩:=hc
   have hl : (H.take k).length = k:=by simp; omega
   have hcr:=hs.c
   rw [<- List.take_append_drop k H] at hcr
   have:=hcr.cutL (by
    rw [hl,bndL_iff]
    intro v hv
    obtain ⟨t,_,rfl⟩:=List.mem_map.1 hv
    rcases look_mem (e:=env) (t:=t) with h | h
    ·rw [h]; rfl
    ·exact bndL_iff.1 h2 _ h) (closedB_spec h3)
   refine ⟨_,⟨hs.size,hs.defers,hs.out,this⟩,he.size,⟨fun o b ho => by rw [h0] at ho; simp at ho,he.keeps.shape,he.keeps.sp,he.keeps.safe⟩,he.kind,he.cells,he.io⟩
  ·exact ⟨G,hs,he⟩
end
end Go.AI
namespace Go.AI
def argsFrom (k : Nat) : List AV -> Env
 | [] => []
 | v :: vs => (k,v) :: argsFrom (k + 1) vs
section
variable {P : Program} {F : Nat -> Prop} {G : Gh} {w : World} {H : Heap} {n : Nat}
theorem look_argsFrom : ∀ (vs : List AV) (k t : Nat),look (argsFrom k vs) t = if k <= t then (vs[t - k]?).getD .undef else .undef
 | [],k,t => by simp [argsFrom,look]
 | v :: vs,k,t => by
  simp only [argsFrom,look]
  by_cases h : k = t
  ·subst h; simp
  ·rw [if_neg h,look_argsFrom vs (k + 1) t]
   by_cases hk : k <= t
   ·rw [if_pos (by omega),if_pos hk,show t - k = (t - (k + 1)) + 1 by omega]
    simp
   ·rw [if_neg (by omega),if_neg hk]
theorem elist_args (vs : List AV) (h : vs.length <= n) : elist n (argsFrom 0 vs) = vs ++ List.replicate (n - vs.length) .undef:=by
 apply List.ext_getElem?
 intro i
 by_cases hi : i < n
 ·rw [elist_get _ hi,look_argsFrom,if_pos (Nat.zero_le _),Nat.sub_zero]
  by_cases hv : i < vs.length
  ·rw [List.getElem?_append_left hv,List.getElem?_eq_getElem hv]; rfl
  ·rw [List.getElem?_append_right (by omega),List.getElem?_eq_none (by omega),List.getElem?_replicate,if_pos (by omega)]; rfl
 ·rw [List.getElem?_eq_none (by rw [elist_length]; omega),List.getElem?_eq_none (by simp; omega)]
theorem call_parts {f : FuncId} {first captured args : List AV} {fv : Value} {uargs : Array Value} (hc : CRel F G (.fn (.func f) first captured :: args) H (fv :: uargs.toList) w) (hcal : callable P f = true) :
  ∃ (d : Deferred) (us : Array Value),(Deferred.ofValue fv uargs).run P w = .ok d w /\ (invoke d.target d.args).run P w = .ok (.enter f us) w /\
   CRel F G (first.map AV.borrow ++ args ++ captured.map AV.borrow) H us.toList w:=by
 have hx:=hc.l.rel 0 _ _ rfl rfl
 obtain ⟨_,_,hargs⟩:=hc.l.uncons
 cases hx with
 | fn _ _ _ fi ca h1 h2 h3 h4 =>
  obtain ⟨l1,t1⟩:=map_borrow_LRel (F:=F) (G:=G) (w:=w) (first:=first) (fi:=fi.toList) (by simpa using h1) (fun i c v a b => h3 i c v a (by simpa using b))
  obtain ⟨l2,t2⟩:=map_borrow_LRel (F:=F) (G:=G) (w:=w) (first:=captured) (fi:=ca.toList) (by simpa using h2) (fun i c v a b => h4 i c v a (by simpa using b))
  have hcr : CRel F G (first.map AV.borrow ++ args ++ captured.map AV.borrow) H (fi.toList ++ uargs.toList ++ ca.toList) w:=by
   refine ⟨(l1.append hargs).append l2,hc.h,fun b => ?_⟩
   rw [tcnt_append _ _ _ _ _ (l1.append hargs).len,tcnt_append _ _ _ _ _ l1.len,t1,t2]
   have:=hc.cnt b
   rw [tcnt_cons] at this
   omega
  refine ⟨{ target:=.fn (.func f) ca,args:=fi ++ uargs },fi ++ uargs ++ ca,rfl, ?_,by simpa using hcr⟩
  unfold callable at hcal
  split at hcal
  ·rename_i fn hfn
   simp only [Bool.and_eq_true,Bool.not_eq_true',beq_eq_false_iff_ne,ne_eq] at hcal
   obtain ⟨g1,g2⟩:=hcal
   have g3 : fn.body.isNone = false:=by cases hb : fn.body <;> simp_all
   simp only [Sem.run_bind,Sem.run_pure,Result.andThen_ok,invoke,callFunc,run_program,hfn,Sem.run_ite,beq_eq_false_iff_ne.2 g1,g3,Bool.false_eq_true,if_false]
  ·cases hcal
def roundEnv (vals : List AV) : List Tmp -> List AV -> Env -> Env
 | p :: ps,y :: ys,e => roundEnv vals ps ys ((p,y) :: e)
 | _,_,e => e
def frameVals (n : Nat) (e : Env) : List AV:=(elist n e).map AV.borrow
theorem round_frame {vals : List AV} : ∀ (ps : List Tmp) (ys : List AV) (us : List Value) (e : Env) (tm : Array Value),CRel F G (ys ++ elist n e) H (us ++ tm.toList) w -> ys.length = us.length -> tm.size = n -> (∀ p ∈ ps,p < n) ->
  (∀ t,n <= t -> look e t = .undef) -> ps.length = ys.length ->
  CRel F G (elist n (roundEnv vals ps ys e)) H ((ps.zip us).foldl (fun (t : Array Value) (x : Tmp × Value) => t.setIfInBounds x.1 x.2) tm).toList w /\
   ((ps.zip us).foldl (fun (t : Array Value) (x : Tmp × Value) => t.setIfInBounds x.1 x.2) tm).size = n /\ ∀ t,n <= t -> look (roundEnv vals ps ys e) t = .undef
 | [],[],[],e,tm,h,_,hn,_,ho,_ => ⟨by simpa [roundEnv] using h,hn,ho⟩
 | p :: ps,y :: ys,u :: us,e,tm,h,hl,hn,hp,ho,hps => by
  have hpn:=hp p (by simp)
  have hl' : ys.length = us.length:=by simpa using hl
  have hset:=h.setSlot (v:=y) (L:=ys ++ elist n e) (u:=u) (tm:=us ++ tm.toList) (d:=us.length + p) (by
   have h1 : tm.toList.length = n:=by rw [Array.length_toList]; exact hn
   rw [List.length_append,h1]; exact Nat.add_lt_add_left hpn _)
  have e1 : (ys ++ elist n e).set (us.length + p) y = ys ++ elist n ((p,y) :: e):=by
   rw [elist_put e y hpn,List.set_append_right _ _ (by omega)]
   congr 2; omega
  have e2 : (us ++ tm.toList).set (us.length + p) u = us ++ (tm.setIfInBounds p u).toList:=by
   rw [List.set_append_right _ _ (by omega),Array.toList_setIfInBounds]
   congr 2; omega
  rw [e1,e2] at hset
  exact round_frame ps ys us ((p,y) :: e) (tm.setIfInBounds p u) hset hl' (by simpa using hn) (fun q hq => hp q (by simp [hq])) (fun t ht => by
   have hne : ¬ p = t:=fun e => by subst e; exact absurd hpn (Nat.not_lt.2 ht)
   simp only [look]
   rw [if_neg hne]
   exact ho t ht) (by simpa using hps)
 | [],_ :: _,_,_,_,_,_,_,_,_,h => by simp at h
 | _ :: _,[],_,_,_,_,_,_,_,_,h => by simp at h
 | _ :: _,_ :: _,[],_,_,_,h,_,_,_,_ => by simp at h
 | [],[],_ :: _,_,_,_,h,_,_,_,_ => by simp at h
theorem loopSt_ready {s : LoopState} {p : Option Code} (h : loopSt s p = some 0) : s = .ready /\ p = none:=by
 unfold loopSt at h
 split at h <;> first | exact ⟨rfl,rfl⟩ | (simp at h; try omega)
theorem loopSt_ret {s : LoopState} {p : Option Code} (h : loopSt s p = some (-2)) : s = .done /\ p = some .ret:=by
 unfold loopSt at h
 split at h <;> first | exact ⟨rfl,rfl⟩ | (simp at h; try omega)
theorem loopSt_exit {s : LoopState} {p : Option Code} {k : Nat} (h : loopSt s p = some ((k : Int) + 1)) : s = .done /\ p = some (.exit k):=by
 unfold loopSt at h
 split at h <;> first | (simp at h; omega) | skip
 ·rename_i j
  have : j = k:=by simp at h; omega
  subst this; exact ⟨rfl,rfl⟩
 ·simp at h
end
end Go.AI
namespace Go.AI
def frzSlot (ag : Bool) (v : AV) (H : Heap) : Option (AV × Heap) :=
 match v with
 | .msl ob off len sz => match H[ob]? with
  | some (some cs) => if off + len * sz <= cs.length /\ (ag = true \/ sz = 1) then some (.sl none (chunk ag sz len ((cs.drop off).map borrow1)),H.set ob none) else none
  | _ => none
 | _ => none
def frz1 (z : Tmp × Option Nat × Bool) (e : Env) (H : Heap) : Env × Heap :=
 match z.2.1 with
 | none => match frzSlot z.2.2 (look e z.1) H with
  | some (v,H') => ((z.1,v) :: e,H')
  | none => (e,H)
 | some k => match look e z.1 with
  | .ptr o off => match H[o]? with
   | some (some cs) => match cs[off + k]? with
    | some c => match frzSlot z.2.2 c H with
     | some (v,H') => match H'[o]? with
      | some (some _) => (e,H'.set o (some (cs.set (off + k) v)))
      | _ => (e,H)
     | none => (e,H)
    | none => (e,H)
   | _ => (e,H)
  | _ => (e,H)
def frzs : List (Tmp × Option Nat × Bool) -> Env -> Heap -> Env × Heap
 | [],e,H => (e,H)
 | z :: zs,e,H => frzs zs (frz1 z e H).1 (frz1 z e H).2
def Hint.lv (h : Hint) (id : Nat) : List Tmp:=(h.live.lookup id).getD []
def Hint.ct (h : Hint) (id : Nat) : Option Nat:=h.gc.lookup id
def Hint.da (h : Hint) (id : Nat) : Bool:=h.dy.contains id
def Hint.mv (h : Hint) (id : Nat) : List Nat:=h.dy.filterMap fun x => if x / 1000 = id + 1 then some (x % 1000) else none
def ordI (l : List Nat) (n : Nat) : List Nat:=l ++ (List.range n).filter fun i => !l.contains i
def Hint.ord (h : Hint) (id : Nat) (ops : Array Oper) : List Oper:=match h.mv id with
 | [] => ops.toList
 | l => (ordI l ops.size).filterMap fun i => ops[i]?
def Hint.dn (h : Hint) (id : Nat) : Bool:=h.da id || !(h.mv id).isEmpty
theorem Hint.dn_no {h : Hint} {id : Nat} (hd : h.dn id = false) (ops : Array Oper) : h.da id = false /\ h.ord id ops = ops.toList:=by
 simp only [Hint.dn,Bool.or_eq_false_iff,Bool.not_eq_false',List.isEmpty_iff] at hd
 refine ⟨hd.1, ?_⟩
 unfold Hint.ord
 rw [hd.2]
def Hint.at (h : Hint) (id : Nat) : List (Tmp × Option Nat × Bool):=(h.fz.lookup id).getD []
section
variable {F : Nat -> Prop} {G : Gh} {w : World} {H : Heap} {n : Nat} {env : Env} {a : Act}
theorem frzSlot_ok {ag : Bool} {v v' : AV} {H' : Heap} (hf : frzSlot ag v H = some (v',H')) {vals : List AV} {us : List Value} (h : CRel F G vals H us w) {u : Value} (hv : VRel G w v u) :
  ∃ ob b es,H' = H.set ob none /\ v' = .sl none es /\ (∃ cs,H[ob]? = some (some cs)) /\ CRel F (G.setKind b .imm) vals H' us w /\ Ext F G w (G.setKind b .imm) w /\ VRel (G.setKind b .imm) w v' u /\ (∃ o f l s,v = .msl o f l s):=by
 unfold frzSlot at hf
 split at hf
 ·rename_i ob off len sz
  split at hf
  ·rename_i cs hob
   split at hf
   ·rename_i hc
    cases hf
    have hb : ∃ b,G.obs[ob]? = some b:=by
     have:=h.h.len
     exact ⟨_,List.getElem?_eq_getElem (by rw [this]; exact (List.getElem?_eq_some_iff.1 hob).1)⟩
    obtain ⟨b,hb⟩:=hb
    obtain ⟨h1,h2⟩:=h.freeze hob hb (hv.msl_cells hb)
    exact ⟨ob,b,_,rfl,rfl,⟨cs,hob⟩,h1,h2,VRel.frozen h hob hb hv hc.1 ag hc.2,_,_,_,_,rfl⟩
   ·cases hf
  ·cases hf
 ·cases hf
theorem frz1_ok (z : Tmp × Option Nat × Bool) (hs : SRel F G n env H a w) : ∃ G',SRel F G' n (frz1 z env H).1 (frz1 z env H).2 a w /\ Ext F G w G' w:=by
 have same : ∃ G',SRel F G' n env H a w /\ Ext F G w G' w:=⟨G,hs,.refl F G w⟩
 obtain ⟨t,k,ag⟩:=z
 have slot : ∀ v,look env t = v -> v ≠ .undef -> t < n /\ ∃ u,a.tmps[t]? = some u /\ VRel G w v u:=fun v hv hne => by
  have hdn : t < n:=by
   by_cases hdn : t < n
   ·exact hdn
   ·rw [hs.out t (Nat.le_of_not_lt hdn)] at hv; exact absurd hv.symm hne
  obtain ⟨x,hx⟩ : ∃ x,a.tmps[t]? = some x:=⟨_,Array.getElem?_eq_getElem (by rw [hs.size]; exact hdn)⟩
  have hr:=hs.c.l.rel t (look env t) x (elist_get env hdn) (by rw [Array.getElem?_toList]; exact hx)
  rw [hv] at hr
  exact ⟨hdn,x,hx,hr⟩
 unfold frz1
 cases k with
 | none =>
  dsimp only
  split
  ·rename_i v' H' hf
   obtain ⟨hdn,u,hu,hvr⟩:=slot (look env t) rfl (by intro e; rw [e] at hf; simp [frzSlot] at hf)
   obtain ⟨ob,b,es,rfl,rfl,_,h1,h2,h3,_⟩:=frzSlot_ok hf hs.c hvr
   refine ⟨_, ?_,h2⟩
   have hput:=srel_put (v:=.sl none es) (u:=u) hs.size hs.defers hs.out ⟨.cons h3 (tok_nil_all (toks_owned rfl u) _ _ _) h1.l,h1.h,fun x => by rw [tcnt_cons,toks_owned rfl u]; simpa using h1.cnt x⟩ (some t) hdn
   have ea : a.put (some t) u = a:=by
    obtain ⟨tm,df⟩:=a
    simp only [Act.put,Act.mk.injEq,and_true]
    apply Array.ext'
    rw [Array.toList_setIfInBounds]
    exact set_same (by rw [Array.getElem?_toList]; exact hu)
   rw [ea] at hput
   exact hput
  ·exact same
 | some k =>
  dsimp only
  split
  ·rename_i o off hlk
   split
   ·rename_i cs hob
    split
    ·rename_i c hc
     split
     ·rename_i v' H' hf
      split
      ·rename_i cs' hob'
       obtain ⟨hdn,u,hu,hvr⟩:=slot _ hlk (by intro e; cases e)
       have hlen:=hs.c.h.len
       have hb : ∃ b,G.obs[o]? = some b:=⟨_,List.getElem?_eq_getElem (by rw [hlen]; exact (List.getElem?_eq_some_iff.1 hob).1)⟩
       obtain ⟨b,hb⟩:=hb
       have hcell : ∃ (C : Array Value) (E : TypeId),w.heap[b]? = some (.cells C E (0,0)):=by
        cases hvr with
        | ptr _ _ b2 h2 hc2 => rw [hb] at h2; cases h2; exact hc2
       obtain ⟨C0,E0,hcell⟩:=hcell
       obtain ⟨g1,C,E,g2,g3,g4⟩:=(hs.c.h.obj o cs b hob hb).of_cells hcell
       have hlt : off + k < C.size:=Nat.lt_of_lt_of_le (List.getElem?_eq_some_iff.1 hc).1 g3
       obtain ⟨s1,s2,s3⟩:=g4 _ _ _ hc (Array.getElem?_eq_getElem hlt)
       obtain ⟨ob,b',es,rfl,rfl,_,h1,h2,h3,⟨o5,f5,l5,z5,hmsl⟩⟩:=frzSlot_ok hf hs.c s2
       have hne : ob ≠ o:=by
        rintro rfl
        rw [List.getElem?_set_self (by exact (List.getElem?_eq_some_iff.1 hob).1)] at hob'
        cases hob'
       have hob2 : (H.set ob none)[o]? = some (some cs):=by rw [List.getElem?_set_ne hne]; exact hob
       have hb2 : (G.setKind b' .imm).obs[o]? = some b:=hb
       have hrow':=h1.h.obj o cs b hob2 hb2
       obtain ⟨r1,C2,E2,r2,r3,r4⟩:=hrow'.of_cells g2
       have hCC : C2 = C:=by rw [g2] at r2; cases r2; rfl
       subst hCC
       have hset:=h1.setObj hob2 hb2 r2 (C':=C2) rfl (cs':=cs.set (off + k) (.sl none es)) (by simpa using r3) (fun i c2 y hc2 hy => ?_) (vs:=elist n env) (us':=a.tmps.toList) h1.l (fun x => ?_)
       ·rw [setRow_self w b C2 E2 _ r2] at hset
        exact ⟨_,⟨hs.size,hs.defers,hs.out,hset.1⟩,h2.trans hset.2⟩
       ·rw [List.getElem?_set] at hc2
        split at hc2
        ·rename_i he
         subst he
         rw [if_pos (List.getElem?_eq_some_iff.1 hc).1] at hc2
         cases hc2
         have : y = C2[off + k]:=by rw [Array.getElem?_eq_getElem hlt] at hy; cases hy; rfl
         subst this
         exact ⟨rfl,h3,TokOk.of_none rfl⟩
        ·exact r4 i c2 y hc2 hy
       ·have hle : (((cs.set (off + k) (.sl none es)).zip C2.toList).filterMap tok).count x <= ((cs.zip C2.toList).filterMap tok).count x:=by
         subst hmsl
         clear hrow' hcell
         clear h3 h1 h2 s2 s3 r4 g4 g3 r3 hob2 hf hob hob'
         generalize hL : C2.toList = L
         clear hL
         generalize off + k = j at hc ⊢
         induction cs generalizing j L with
         | nil => simp
         | cons d cs ih =>
          cases L with
          | nil => simp
          | cons y L =>
           cases j with
           | zero =>
            simp only [List.getElem?_cons_zero,Option.some.injEq] at hc
            subst hc
            simp only [List.set_cons_zero,List.zip_cons_cons,List.filterMap_cons]
            simp [tok]
           | succ j =>
            simp only [List.getElem?_cons_succ] at hc
            have:=ih L j hc
            simp only [List.set_cons_succ,List.zip_cons_cons,List.filterMap_cons]
            split
            ·exact this
            ·simp only [List.count_cons]; omega
        omega
      ·exact same
     ·exact same
    ·exact same
   ·exact same
  ·exact same
theorem frzs_ok : ∀ (zs : List (Tmp × Option Nat × Bool)) {G : Gh} {env : Env} {H : Heap},SRel F G n env H a w -> ∃ G',SRel F G' n (frzs zs env H).1 (frzs zs env H).2 a w /\ Ext F G w G' w
 | [],G,_,_,hs => ⟨G,hs,.refl F G w⟩
 | z :: zs,G,env,H,hs => by
  obtain ⟨G1,h1,e1⟩:=frz1_ok z hs
  obtain ⟨G2,h2,e2⟩:=frzs_ok zs h1
  exact ⟨G2,h2,e1.trans e2⟩
end
def around (ar : Option Nat) (H : Heap) : Prop :=
 match ar with
 | none => True
 | some o => ∃ cs,H[o]? = some (some cs)
def awp (P : Program) (n : Nat) (h : Hint) : Option Nat -> Code -> (Exit -> Env -> Heap -> Prop) -> Env -> Heap -> Prop
 | _,.skip,Q => Q .normal
 | _,.region id ops _,Q => fun e H => arun P n h ops (h.ord id ops) (fun e H => (h.da id = true -> dynAll P h ops e) /\ Q .normal (frzs (h.at id) (clean (h.lv id) e) H).1 (gcut (h.ct id) (frzs (h.at id) (clean (h.lv id) e) H).1 (frzs (h.at id) (clean (h.lv id) e) H).2)) e H
 | ar,.seq a b,Q => awp P n h ar a fun ex e H => match ex with
   | .normal => awp P n h ar b Q e H
   | ex => Q ex e H
 | ar,.cond c a b,Q => fun e H => match evo P none e c with
   | .bool t => if t = true then awp P n h ar a Q e H else awp P n h ar b Q e H
   | _ => False
 | ar,.block id c,Q => awp P n h ar c fun ex e H => match ex with
   | .exit j => if j = id then Q .normal e H else Q (.exit j) e H
   | ex => Q ex e H
 | ar,.loop c,Q => fun e H => ∃ (I : Env -> Heap -> Prop) (μ : Env -> Heap -> Nat),I e H /\ ∀ e H,I e H -> awp P n h ar c (fun ex e' H' => match ex with
   | .normal => I e' H' /\ μ e' H' < μ e H
   | ex => Q ex e' H') e H
 | ar,.rangeFunc g ps assign body,Q => fun e H => around ar H /\ ∃ (tag : Nat) (f : FuncId) (first captured : List AV),evo P none e g = .fn (.func f) first captured /\
   ACall P f (first.map AV.borrow ++ [.yld H.length ⟨tag,ps,assign,body⟩] ++ captured.map AV.borrow) (H ++ [some (loopc 0 (frameVals n e))]) fun _ H2 => ∃ st av,
    H2[H.length]? = some (some (loopc st av)) /\
     ((st = 0 /\ Q .normal e (H2.set H.length none)) \/ (st = -2 /\ Q .ret e (H2.set H.length none)) \/ ∃ k : Nat,st = (k : Int) + 1 /\ Q (.exit k) e (H2.set H.length none))
 | _,.exit id,Q => Q (.exit id)
 | _,.ret,Q => Q .ret
 | _,_,_ => fun _ _ => False
def drawsOk (h : Hint) : Code -> Bool
 | .region id ops draw => ((h.mv id).isEmpty && (!draw || drawOk h ops || (h.da id && drawOkD h ops))) || (draw && drawOkO h ops (ordI (h.mv id) ops.size) && !(h.mv id).isEmpty)
 | .seq a b => drawsOk h a && drawsOk h b
 | .cond _ a b => drawsOk h a && drawsOk h b
 | .block _ c => drawsOk h c
 | .loop c => drawsOk h c
 | .rangeFunc _ _ a b => drawsOk h a && drawsOk h b
 | _ => true
theorem exists_least {p : Nat -> Prop} (h : ∃ m,p m) : ∃ m,p m /\ ∀ k,p k -> m <= k:=by
 obtain ⟨m,hm⟩:=h
 induction m using Nat.strongRecOn with
 | _ m ih =>
  by_cases h0 : ∃ k,k < m /\ p k
  ·obtain ⟨k,hk,hp⟩:=h0
   exact ih k hk hp
  ·exact ⟨m,hm,fun k hp => Nat.le_of_not_lt fun hlt => h0 ⟨k,hlt,hp⟩⟩
theorem wpIn_loop_rel {F : Fence} {n : Nat} {P : Program} {c : Code} {Q : Exit -> Act -> World -> Prop} {a : Act} {w : World} (J : Nat -> Act -> World -> Prop) (h0 : ∃ m,J m a w)
  (round : ∀ m a w,J m a w -> c.wpIn F n P (Exit.then (fun a' w' => ∃ m',m' < m /\ J m' a' w') Q) a w) : (Code.loop c).wpIn F n P Q a w:=by
 have hl : ∀ a w,∃ m,(∃ m,J m a w) -> J m a w /\ ∀ k,J k a w -> m <= k:=fun a w => by
  by_cases he : ∃ m,J m a w
  ·obtain ⟨m,h1,h2⟩:=exists_least he
   exact ⟨m,fun _ => ⟨h1,h2⟩⟩
  ·exact ⟨0,fun h => absurd h he⟩
 refine wpIn_loop (fun a w => ∃ m,J m a w) (fun a w => Classical.choose (hl a w)) h0 fun a w hI => ?_
 obtain ⟨h1,h2⟩:=Classical.choose_spec (hl a w) hI
 refine wpIn_mono (round _ a w h1) (fun e a' w' hq => ?_)
 cases e with
 | normal =>
  obtain ⟨m',hm,hJ⟩:=hq
  refine ⟨⟨m',hJ⟩, ?_⟩
  obtain ⟨_,h4⟩:=Classical.choose_spec (hl a' w') ⟨m',hJ⟩
  exact Nat.lt_of_le_of_lt (h4 m' hJ) hm
 | _ => exact hq
def Left (F : Nat -> Prop) (G : Gh) (w : World) (n : Nat) (Q : Exit -> Env -> Heap -> Prop) (ex : Exit) (a' : Act) (w' : World) : Prop:=After F G w n (Q ex) a' w'
theorem borrow0_idem (a : AV) : borrow0 (borrow0 a) = borrow0 a:=by
 cases a <;> first | rfl | skip
 case agg cs => simp only [borrow0,List.map_map]; congr 1; exact List.map_congr_left fun c _ => borrow1_idem c
theorem borrow_idem (a : AV) : a.borrow.borrow = a.borrow:=by
 cases a <;> first | rfl | skip
 case agg cs => exact borrow0_idem (.agg cs)
 case tup vs => simp only [AV.borrow,List.map_map]; congr 1; exact List.map_congr_left fun c _ => borrow0_idem c
def Around (G0 : Gh) (w0 : World) (ro ar : Option Nat) : Prop :=
 match ro,ar with
 | none,none => True
 | some l,some o => G0.obs[o]? = some l /\ (∃ L,G0.kind l = .loop L) /\ l < w0.heap.size
 | _,_ => False
theorem Around.loop {F : Nat -> Prop} {G0 G : Gh} {w0 w : World} {ro ar : Option Nat} {H : Heap} {vs : List AV} {us : List Value} (h : Around G0 w0 ro ar) (he : Ext F G0 w0 G w) (hc : CRel F G vs H us w) (ha : around ar H) :
  ∀ l,ro = some l -> ∃ r : Loop,w.heap[l]? = some (.loop r):=by
 intro l hl
 subst hl
 cases ar with
 | none => exact h.elim
 | some o =>
  obtain ⟨h1,⟨L,h2⟩,h3⟩:=h
  obtain ⟨cs,hcs⟩:=ha
  have hk:=he.keeps.sp l h3 (by rw [h2]; rfl)
  have hi:=(hc.h.obj o cs l hcs (he.keeps.obs o l h1)).is
  rw [hk.2,h2] at hi
  obtain ⟨s,pe,t,D,st,vals,g1,_⟩:=hi
  exact ⟨_,g1⟩
theorem awp_sound {P : Program} {n : Nat} {h : Hint} (hm : P.follows .mixedOrders = true) : ∀ (c : Code) (ro ar : Option Nat) (F : Nat -> Prop) (G0 : Gh) (w0 : World) (h0 : h.gc = [] \/ G0.obs = []) (har : Around G0 w0 ro ar) (hd : drawsOk h c = true)
  (Q : Exit -> Env -> Heap -> Prop) (QQ : Exit -> Act -> World -> Prop) (G : Gh) (env : Env) (H : Heap) (a : Act) (w : World),
  SRel F G n env H a w -> Ext F G0 w0 G w -> awp P n h ar c Q env H -> (∀ ex a' w',Left F G0 w0 n Q ex a' w' -> QQ ex a' w') -> c.wpIn (fen ro) 0 P QQ a w
 | .skip,ro,ar,F,G0,w0,h0,har,_,Q,QQ,G,env,H,a,w,hs,hx,ha,hQ => wpIn_skip (hQ _ _ _ ⟨env,H,G,ha,hs,hx⟩)
 | .exit id,ro,ar,F,G0,w0,h0,har,_,Q,QQ,G,env,H,a,w,hs,hx,ha,hQ => wpIn_exit (hQ _ _ _ ⟨env,H,G,ha,hs,hx⟩)
 | .ret,ro,ar,F,G0,w0,h0,har,_,Q,QQ,G,env,H,a,w,hs,hx,ha,hQ => wpIn_ret (hQ _ _ _ ⟨env,H,G,ha,hs,hx⟩)
 | .region id ops draw,ro,ar,F,G0,w0,h0,har,hd,Q,QQ,G,env,H,a,w,hs,hx,ha,hQ => by
  have hK : Resp fun e H => (h.da id = true -> dynAll P h ops e) /\ Q .normal (frzs (h.at id) (clean (h.lv id) e) H).1 (gcut (h.ct id) (frzs (h.at id) (clean (h.lv id) e) H).1 (frzs (h.at id) (clean (h.lv id) e) H).2):=fun e e' H he hq => by
   refine ⟨fun hy => dynAll_resp he (hq.1 hy), ?_⟩
   show Q .normal (frzs (h.at id) (clean (h.lv id) e') H).1 (gcut (h.ct id) (frzs (h.at id) (clean (h.lv id) e') H).1 (frzs (h.at id) (clean (h.lv id) e') H).2)
   rw [<- clean_congr (h.lv id) he]; exact hq.2
  have hnext : ∀ a' w',After F G w n (fun e H => (h.da id = true -> dynAll P h ops e) /\ Q .normal (frzs (h.at id) (clean (h.lv id) e) H).1 (gcut (h.ct id) (frzs (h.at id) (clean (h.lv id) e) H).1 (frzs (h.at id) (clean (h.lv id) e) H).2)) a' w' -> QQ .normal a' w':=by
   rintro a' w' ⟨env',H',G',hK',hs',he⟩
   obtain ⟨G2,h2,e2⟩:=frzs_ok (h.at id) (hs'.forget (look_clean (h.lv id) env'))
   obtain ⟨G3,h3,e3⟩:=gcut_ok (h.ct id) h2 ((hx.trans he).trans e2) (h0.imp (fun hg => by unfold Hint.ct; rw [hg]; rfl) (fun hg => hg))
   exact hQ _ _ _ ⟨_,_,G3,hK'.2,h3,e3⟩
  have ho0 : (h.mv id).isEmpty = true -> h.ord id ops = ops.toList:=fun he => by
   unfold Hint.ord
   rw [List.isEmpty_iff.1 he]
  have ho1 : (h.mv id).isEmpty = false -> h.ord id ops = (ordI (h.mv id) ops.size).filterMap fun i => ops[i]?:=fun he => by
   unfold Hint.ord
   cases hmv : h.mv id with
   | nil => rw [hmv] at he; cases he
   | cons a l => rfl
  simp only [awp] at ha
  cases draw with
  | false =>
   simp only [drawsOk,Bool.not_false,Bool.true_or,Bool.and_true,Bool.false_and,Bool.or_false] at hd
   rw [ho0 hd] at ha
   exact arun_region _ _ hs ha hnext
  | true =>
   simp only [drawsOk,Bool.not_true,Bool.false_or,Bool.true_and,Bool.or_eq_true,Bool.and_eq_true,Bool.not_eq_true'] at hd
   rcases hd with ⟨he,hd | ⟨hy,hd⟩⟩ | ⟨hd,he⟩
   ·rw [ho0 he] at ha
    exact adraw_region _ hm hK hd hs ha hnext
   ·rw [ho0 he] at ha
    exact adraw_regionD _ hm (fun e H hk => hk.1 hy) hK hd hs ha hnext
   ·rw [ho1 he] at ha
    exact adraw_regionO _ _ hm hK hd hs ha hnext
 | .seq x y,ro,ar,F,G0,w0,h0,har,hd,Q,QQ,G,env,H,a,w,hs,hx,ha,hQ => by
  simp only [drawsOk,Bool.and_eq_true] at hd
  refine wpIn_seq (awp_sound hm x ro ar F G0 w0 h0 har hd.1 _ _ G env H a w hs hx ha fun ex a' w' hl => ?_)
  obtain ⟨env',H',G',hK,hs',he⟩:=hl
  cases ex with
  | normal =>
   exact awp_sound hm y ro ar F G0 w0 h0 har hd.2 Q QQ G' env' H' a' w' hs' he hK hQ
  | _ => exact hQ _ _ _ ⟨env',H',G',hK,hs',he⟩
 | .cond c x y,ro,ar,F,G0,w0,h0,har,hd,Q,QQ,G,env,H,a,w,hs,hx,ha,hQ => by
  simp only [drawsOk,Bool.and_eq_true] at hd
  simp only [awp] at ha
  split at ha
  ·rename_i t ht
   have hev : a.eval c = .bool t:=by
    obtain ⟨h1,_⟩:=ev1_ok (P:=P) (n:=n) (pre:=[]) (upre:=[]) none false c hs.c rfl hs.size hs.out
    have hr:=h1.l.rel 0 _ _ rfl rfl
    simp only [ev1,ht,AV.borrow,borrow0] at hr
    generalize a.eval c = u at hr
    cases hr; rfl
   refine wpIn_cond hev ?_
   cases t with
   | true => exact awp_sound hm x ro ar F G0 w0 h0 har hd.1 Q QQ G env H a w hs hx (by simpa using ha) hQ
   | false => exact awp_sound hm y ro ar F G0 w0 h0 har hd.2 Q QQ G env H a w hs hx (by simpa using ha) hQ
  ·exact ha.elim
 | .block id c,ro,ar,F,G0,w0,h0,har,hd,Q,QQ,G,env,H,a,w,hs,hx,ha,hQ => by
  refine wpIn_block (awp_sound hm c ro ar F G0 w0 h0 har hd _ _ G env H a w hs hx ha fun ex a' w' hl => ?_)
  obtain ⟨env',H',G',hK,hs',he⟩:=hl
  cases ex with
  | exit j =>
   simp only [Exit.inBlock] at hK ⊢
   split
   ·rename_i hj
    rw [if_pos hj] at hK
    exact hQ _ _ _ ⟨env',H',G',hK,hs',he⟩
   ·rename_i hj
    rw [if_neg hj] at hK
    exact hQ _ _ _ ⟨env',H',G',hK,hs',he⟩
  | _ => exact hQ _ _ _ ⟨env',H',G',hK,hs',he⟩
 | .loop c,ro,ar,F,G0,w0,h0,har,hd,Q,QQ,G,env,H,a,w,hs,hx,ha,hQ => by
  obtain ⟨I,μ,hI,hround⟩:=ha
  refine wpIn_loop_rel (fun m a' w' => ∃ env' H' G',I env' H' /\ μ env' H' = m /\ SRel F G' n env' H' a' w' /\ Ext F G0 w0 G' w') ⟨_,env,H,G,hI,rfl,hs,hx⟩ fun m a' w' hJ => ?_
  obtain ⟨env',H',G',hI',hμ,hs',he⟩:=hJ
  refine awp_sound hm c ro ar F G0 w0 h0 har hd _ _ G' env' H' a' w' hs' he (hround env' H' hI') fun ex a2 w2 hl => ?_
  obtain ⟨env2,H2,G2,hK,hs2,he2⟩:=hl
  cases ex with
  | normal => exact ⟨_,hμ ▸ hK.2,env2,H2,G2,hK.1,rfl,hs2,he2⟩
  | _ => exact hQ _ _ _ ⟨env2,H2,G2,hK,hs2,he2⟩
 | .rangeFunc g ps assign body,ro,ar,F,G0,w0,h0,har,hd,Q,QQ,G,env,H,a,w,hs,hx,ha,hQ => by
  simp only [drawsOk,Bool.and_eq_true] at hd
  obtain ⟨haround,tag,f,first,captured,hg,hcal,hcall⟩:=ha
  have hlen:=hs.c.h.len
  have hev : a.eval g = a.eval g:=rfl
  obtain ⟨h1,_⟩:=ev1_ok (P:=P) (n:=n) (pre:=[]) (upre:=[]) none false g hs.c rfl hs.size hs.out
  simp only [ev1,hg,List.nil_append] at h1
  have hb1 : (AV.fn (.func f) first captured).borrow = .fn (.func f) first captured:=rfl
  rw [hb1] at h1
  have main : ∀ (fn : FuncId) (D : Nat) (Gm : Gh) (wm : World) (mark : List Deferred),SRel F Gm n env H { a with defers:=mark ++ a.defers } wm -> Ext F G w Gm wm ->
    CRel F Gm (.fn (.func f) first captured :: elist n env) H (a.eval g :: a.tmps.toList) wm ->
    ∃ (d : Deferred) (w₁' : World) (us : Array Value) (w₂ : World),
     (resolve a.eval (rangeCall g wm.heap.size) 0).run P (wm.alloc (.loop { state:=.ready,pending:=none,fn,tmps:=a.tmps,params:=ps,assign,body,defers:=D })) = .ok d w₁' /\
     (invoke d.target d.args).run P w₁' = .ok (.enter f us) w₂ /\
     CallsIn (fen ro) 0 P f us w₂ (rangePost (fen ro) 0 P wm.heap.size QQ { a with defers:=mark ++ a.defers }):=by
   intro fn D Gm wm mark hsm hem hcm
   have he:=ext_newK (G:=Gm) hcm.h.fore (.loop { state:=.ready,pending:=none,fn,tmps:=a.tmps,params:=ps,assign,body,defers:=D }) (.loop ⟨tag,ps,assign,body⟩)
   have hold : ∀ b,b < wm.heap.size -> (Gm.newK wm.heap.size (.loop ⟨tag,ps,assign,body⟩)).kind b = Gm.kind b /\ (wm.alloc (.loop { state:=.ready,pending:=none,fn,tmps:=a.tmps,params:=ps,assign,body,defers:=D })).heap[b]? = wm.heap[b]?:=fun b hb =>
    ⟨Gm.newK_kind_ne _ (Nat.ne_of_lt hb),heap_alloc_lt _ hb⟩
   have hkn : (Gm.newK wm.heap.size (.loop ⟨tag,ps,assign,body⟩)).kind wm.heap.size = .loop ⟨tag,ps,assign,body⟩:=Gm.kind_set _ _
   have hmlen:=hcm.h.len
   have hobn : (Gm.newK wm.heap.size (.loop ⟨tag,ps,assign,body⟩)).obs[H.length]? = some wm.heap.size:=by
    show (Gm.obs ++ [wm.heap.size])[H.length]? = _
    rw [List.getElem?_append_right (by omega),hmlen,Nat.sub_self]; rfl
   have hyv : toks (.yld H.length ⟨tag,ps,assign,body⟩) (.func (.yield wm.heap.size) #[] #[]) = []:=toks_owned rfl _
   have hvr : VRel (Gm.newK wm.heap.size (.loop ⟨tag,ps,assign,body⟩)) (wm.alloc (.loop { state:=.ready,pending:=none,fn,tmps:=a.tmps,params:=ps,assign,body,defers:=D })) (.yld H.length ⟨tag,ps,assign,body⟩) (.func (.yield wm.heap.size) #[] #[]) :=
    .yld _ _ _ hobn (by rw [size_alloc]; omega) hkn
   have hlE : LRel F (Gm.newK wm.heap.size (.loop ⟨tag,ps,assign,body⟩)) (elist n env) a.tmps.toList (wm.alloc (.loop { state:=.ready,pending:=none,fn,tmps:=a.tmps,params:=ps,assign,body,defers:=D })) :=
    ⟨hsm.c.l.len,fun i a' u q1 q2 => (hsm.c.l.rel i a' u q1 q2).keep he.keeps,fun i a' u q1 q2 p hp => (hsm.c.l.tok i a' u q1 q2 p hp).keep fun b hb => by
     obtain ⟨t1,_,C,E,t3⟩:=(hsm.c.l.tok i a' u q1 q2 p hp).of_tok hb
     exact ⟨t1,hold b (Array.getElem?_eq_some_iff.1 t3).1⟩⟩
   have hnew:=hcm.newG (.loop ⟨tag,ps,assign,body⟩) (.loop { state:=.ready,pending:=none,fn,tmps:=a.tmps,params:=ps,assign,body,defers:=D }) (loopc 0 (frameVals n env))
    (vs:=.fn (.func f) first captured :: .yld H.length ⟨tag,ps,assign,body⟩ :: elist n env) (us':=a.eval g :: .func (.yield wm.heap.size) #[] #[] :: a.tmps.toList)
    ⟨fun hF => absurd (hcm.h.fore _ hF) (Nat.lt_irrefl _),by
     rw [hkn]
     refine ⟨.ready,none,a.tmps,(fn,D),0,frameVals n env,heap_alloc_new _ _,rfl,rfl,by simp [frameVals,elist_length]; exact hs.size.symm,fun i a' u q1 q2 => ?_⟩
     simp only [frameVals,List.getElem?_map] at q1
     cases hc : (elist n env)[i]? with
     | none => rw [hc] at q1; cases q1
     | some c =>
      rw [hc] at q1; cases q1
      exact ⟨borrow_idem c,((hsm.c.l.rel i c u hc (by rw [Array.getElem?_toList]; exact q2)).borrow).keep he.keeps⟩⟩
    (.cons ((hcm.l.rel 0 _ _ rfl rfl).keep he.keeps) (tok_nil_all (toks_fn _ _ _ _) F _ _) (.cons hvr (tok_nil_all hyv F _ _) hlE))
    (fun b => by rw [tcnt_cons,tcnt_cons,tcnt_cons,hyv,toks_fn]; simp [btoks])
   have hsp:=hnew.split (A:=[.fn (.func f) first captured,.yld H.length ⟨tag,ps,assign,body⟩]) (ua:=[a.eval g,.func (.yield wm.heap.size) #[] #[]]) rfl
   have hcD:=hsp.addD
   obtain ⟨d,us,hd1,hd2,hcr⟩:=call_parts (uargs:=#[.func (.yield wm.heap.size) #[] #[]]) hcD hcal
   refine ⟨d,_,us,_, ?_,hd2, ?_⟩
   ·simpa [resolve,Act.eval,rangeCall] using hd1
   ·have hC:=hcall _ _ _ _ hcr
    rw [Array.toArray_toList] at hC
    refine CallsIn.mono (show CallsIn (fen ro) 0 P f us _ _ from (callsIn_wide (n:=0)).2 hC) fun e w' hen => ?_
    obtain ⟨u,rfl,v,H',G',⟨st,av,hst,hor⟩,hcr',hext⟩:=hen
    have hcb : ∀ b,tcnt b (elist n env) a.tmps.toList <= 1:=fun b => by
     have : tcnt b (elist n env) a.tmps.toList + hcnt Gm H wm b <= 1:=hsm.c.cnt b
     omega
    have hj:=CRel.join (F:=F) hlE hcb (fun b hb => .inl (.inl hb)) (fun b hb => .inl (.inr hb)) hext hcr'
    have hE : CRel F G' (elist n env) H' a.tmps.toList w':=hj.rest
    have hob':=hext.keeps.obs _ _ hobn
    obtain ⟨hl',hkk'⟩:=hext.keeps.sp wm.heap.size (by rw [size_alloc]; omega) (by rw [hkn]; rfl)
    have hk' : G'.kind wm.heap.size = .loop ⟨tag,ps,assign,body⟩:=hkk'.trans hkn
    obtain ⟨r,r1,r2,_⟩:=hE.setLoop hst hob' hk' (s':=.exhausted) (p':=none) rfl
    obtain ⟨r',r1',r2',_,_,_,_,_,hset,hexs⟩:=hE.setLoop hst hob' hk' (s':=.exhausted) (p':=r.pending) rfl
    rw [r1] at r1'; cases r1'
    have hnb : r.state ≠ .busy:=fun hb => by
     rw [hb] at r2
     have : st = -1:=by cases r2; rfl
     rcases hor with ⟨h,_⟩ | ⟨h,_⟩ | ⟨k,h,_⟩ <;> omega
    have hfin : ∀ ex,Q ex env (H'.set H.length none) -> QQ ex { a with defers:=mark ++ a.defers } (w'.putObj wm.heap.size (.loop { r with state:=.exhausted })):=fun ex hq => by
     refine hQ _ _ _ ⟨env,_,G',hq,⟨hs.size, ?_,hs.out, ?_⟩,hx.trans (hem.trans (he.trans ((hext.mono fun b hb => .inl (.inl hb)).trans hexs)))⟩
     ·refine hsm.defers.keep fun b hb => ?_
      have hb1 : isD (wm.alloc (.loop { state:=.ready,pending:=none,fn,tmps:=a.tmps,params:=ps,assign,body,defers:=D })) b:=by
       unfold isD at hb ⊢
       rw [heap_alloc_lt _ (Array.getElem?_eq_some_iff.1 hb).1]; exact hb
      have hb2 : isD w' b:=(hext.cells b (.inr hb1)).trans hb1
      unfold isD at hb2 ⊢
      rw [World.putObj_heap_other (fun e => by subst e; rw [r1] at hb2; cases hb2)]; exact hb2
     ·have:=hset.drop H.length
      rw [List.set_set] at this
      exact this
    refine ⟨_,_,run_endLoop (P:=P) r1 hnb, ?_⟩
    generalize w'.putObj wm.heap.size (.loop { r with state:=.exhausted }) = w5 at hfin ⊢
    rcases hor with ⟨h,hq⟩ | ⟨h,hq⟩ | ⟨k,h,hq⟩
    ·subst h
     rw [(loopSt_ready r2).2]
     exact hfin _ hq
    ·subst h
     rw [(loopSt_ret r2).2]
     exact wpIn_ret (hfin _ hq)
    ·subst h
     rw [(loopSt_exit r2).2]
     exact wpIn_exit (hfin _ hq)
  refine wpIn_rangeFunc fun fn _ => ?_
  cases ro with
  | none =>
   have hca:=hs.c.alloc (.deferred (some [])) .imm
   have hea:=ext_alloc (F:=F) (G:=G) (w:=w) (.deferred (some [])) .imm hs.c.h.fore G.obs (fun _ _ h => h)
   have hdf : DOk F (w.alloc (.deferred (some []))) ([{ target:=.collected w.heap.size,args:=#[] }] ++ a.defers):=by
    obtain ⟨bs,b1,b2,b3⟩:=hs.defers
    have hlt : ∀ b ∈ bs,b < w.heap.size:=fun b hb => (Array.getElem?_eq_some_iff.1 (b3 b hb).2).1
    refine ⟨w.heap.size :: bs,by rw [b1]; rfl,List.nodup_cons.2 ⟨fun hm => absurd (hlt _ hm) (Nat.lt_irrefl _),b2⟩,fun b hb => ?_⟩
    rcases List.mem_cons.1 hb with rfl | hb
    ·exact ⟨fun hF => absurd (hs.c.h.fore _ hF) (Nat.lt_irrefl _),heap_alloc_new _ _⟩
    ·refine ⟨(b3 b hb).1, ?_⟩
     have:=(b3 b hb).2
     unfold isD at this ⊢
     rw [heap_alloc_lt _ (hlt b hb)]; exact this
   obtain ⟨d,w1',us,w2,m1,m2,m3⟩:=main fn w.heap.size (G.setKind w.heap.size .imm) (w.alloc (.deferred (some []))) [{ target:=.collected w.heap.size,args:=#[] }] ⟨hs.size,hdf,hs.out,hca⟩ hea (h1.alloc (.deferred (some [])) .imm)
   rw [size_alloc] at m1 m3
   exact ⟨_,_,_,d,w1',f,us,w2,run_enterLoop_outer (P:=P) fn a.tmps ps assign body,m1,fun _ _ => trivial,m2,fun hx => Bool.noConfusion hx,m3⟩
  | some l0 =>
   obtain ⟨r0,hr0⟩:=har.loop hx hs.c haround l0 rfl
   obtain ⟨d,w1',us,w2,m1,m2,m3⟩:=main fn r0.defers G w [] hs (.refl F G w) h1
   exact ⟨_,_,_,d,w1',f,us,w2,run_enterLoop_inner (P:=P) hr0 fn a.tmps ps assign body,m1,fun _ _ => trivial,m2,fun hx => Bool.noConfusion hx,m3⟩
 | .scope _,_,_,_,_,_,_,_,_,_,_,_,_,_,_,_,_,_,ha,_ => ha.elim
 | .label _,_,_,_,_,_,_,_,_,_,_,_,_,_,_,_,_,_,ha,_ => ha.elim
 | .goto _,_,_,_,_,_,_,_,_,_,_,_,_,_,_,_,_,_,ha,_ => ha.elim
 | .refuse _,_,_,_,_,_,_,_,_,_,_,_,_,_,_,_,_,_,ha,_ => ha.elim
theorem ycall_of_awp {P : Program} {n : Nat} {h : Hint} {o tag : Nat} {ps : Array Tmp} {assign body : Code} (hm : P.follows .mixedOrders = true) (hgc : h.gc = []) (hd : drawsOk h assign = true /\ drawsOk h body = true) (hps : ∀ p ∈ ps.toList,p < n) :
  ∀ (ys : List AV) (H1 : Heap) (R : AV -> Heap -> Prop) (av : List AV),H1[o]? = some (some (loopc 0 av)) -> av.length = n -> ps.toList.length = ys.length ->
   awp P n h (some o) assign (fun ex e2 H2 => ex = .normal /\ ∃ av2,H2[o]? = some (some (loopc 0 av2)) /\
    awp P n h (some o) body (fun ex e3 H3 => ∃ av3,H3[o]? = some (some (loopc (-1) av3)) /\ match ex with
     | .normal => R (.bool true) (H3.set o (some (loopc 0 av3)))
     | .ret => R (.bool false) (H3.set o (some (loopc (-2) av3)))
     | .exit k => R (.bool false) (H3.set o (some (loopc ((k : Int) + 1) av3)))
     | _ => False) e2 (H2.set o (some (loopc (-1) av2)))) (roundEnv av ps.toList ys (argsFrom 0 av)) H1 ->
   YCall P o ⟨tag,ps,assign,body⟩ ys H1 R:=by
 intro ys H1 R av hH1 hfl hpl hawp F1 G1 w1 us b hc hb hk
 obtain ⟨r,g1,g2,g4,g5,g6,g7,g8,_⟩:=hc.setLoop hH1 hb hk (s':=.ready) (p':=none) rfl
 obtain ⟨gr,gp⟩:=loopSt_ready g2
 obtain ⟨rs,rp,rf,rt,rps,ra,rb,rd⟩:=r
 simp only at g4 g5 g6 g7 g8 gr gp
 have g4:=g4.symm; have g5:=g5.symm; have g6:=g6.symm; have gr:=gr.symm; have gp:=gp.symm
 subst g4 g5 g6 gr gp
 have hul:=hc.l.len
 refine ⟨_,g1,by rw [<- hul,<- hpl]; simp,roundIn_of_wpIn trivial ?_⟩
 have hbl : b < w1.heap.size:=(Array.getElem?_eq_some_iff.1 g1).1
 have hframe : CRel F1 G1 (ys ++ elist n (argsFrom 0 av)) H1 (us ++ rt.toList) w1:=by
  rw [elist_args _ (Nat.le_of_eq hfl),hfl,Nat.sub_self,List.replicate_zero,List.append_nil]
  have htl : ∀ b',tcnt b' av rt.toList = 0:=fun b' => by
   by_cases h0 : 0 < tcnt b' av rt.toList
   ·obtain ⟨i,a',u',q1,q2,p,q3,q4⟩:=tcnt_pos _ _ h0
    have hbo:=(g8 i a' u' q1 (by rw [<- Array.getElem?_toList]; exact q2)).1
    have : toks a' u' = []:=by rw [<- hbo]; exact toks_borrow _ _
    have hmem : b' ∈ toks a' u':=List.mem_filterMap.2 ⟨p,q3,q4⟩
    rw [this] at hmem; cases hmem
   ·omega
  refine ⟨hc.l.append ⟨by simpa using g7,fun i a' u' q1 q2 => (g8 i a' u' q1 (by rw [<- Array.getElem?_toList]; exact q2)).2,fun i a' u' q1 q2 => ?_⟩,hc.h,fun b' => ?_⟩
  ·have hbo:=(g8 i a' u' q1 (by rw [<- Array.getElem?_toList]; exact q2)).1
   exact tok_nil_all (by rw [<- hbo]; exact toks_borrow _ _) F1 G1 w1
  ·rw [tcnt_append _ _ _ _ _ hul,htl]
   exact hc.cnt b'
 have hrt : rt.size = n:=by rw [<- g7,hfl]
 obtain ⟨hc2,hsz,hout⟩:=round_frame (vals:=av) ps.toList ys us (argsFrom 0 av) rt hframe hul hrt hps (fun t ht => by
  rw [look_argsFrom,if_pos (Nat.zero_le _),List.getElem?_eq_none (by rw [Nat.sub_zero,hfl]; exact ht)]; rfl) hpl
 have hfold : ((ps.zip us.toArray).foldl (fun tmps (t,a) => tmps.setIfInBounds t a) rt) = ((ps.toList.zip us).foldl (fun (t : Array Value) (x : Tmp × Value) => t.setIfInBounds x.1 x.2) rt):=by
  rw [<- Array.foldl_toList,Array.toList_zip]
 simp only [hfold]
 have hs1 : SRel F1 G1 n (roundEnv av ps.toList ys (argsFrom 0 av)) H1 { tmps:=(ps.toList.zip us).foldl (fun (t : Array Value) (x : Tmp × Value) => t.setIfInBounds x.1 x.2) rt,defers:=[] } w1 :=
  ⟨hsz,.nil F1 w1,hout,hc2⟩
 have har1 : Around G1 w1 (some b) (some o):=⟨hb,⟨_,hk⟩,hbl⟩
 refine awp_sound hm assign (some b) (some o) F1 G1 w1 (.inl hgc) har1 hd.1 _ _ G1 _ H1 _ w1 hs1 (.refl F1 G1 w1) hawp fun ex a2 w2 hl => ?_
 obtain ⟨e2,H2,G2,⟨rfl,av2,hH2,hbody⟩,hs2,he2⟩:=hl
 have hob2 : G2.obs[o]? = some b:=he2.keeps.obs _ _ hb
 obtain ⟨hbl2,hkk2⟩:=he2.keeps.sp b hbl (by rw [hk]; rfl)
 have hk2 : G2.kind b = .loop ⟨tag,ps,assign,body⟩:=hkk2.trans hk
 obtain ⟨r2,j1,j2,j4,j5,j6,j7,j8,j9,j10⟩:=hs2.c.setLoop hH2 hob2 hk2 (s':=.busy) (p':=none) rfl
 obtain ⟨jr,jp⟩:=loopSt_ready j2
 have hbegin:=run_beginRound (P:=P) j1 jr
 rw [show ({ r2 with state:=.busy } : Loop) = { r2 with state:=.busy,pending:=none } by rw [<- jp]] at hbegin
 refine ⟨_,hbegin, ?_⟩
 have hdef3 : DOk F1 (w2.putObj b (.loop { r2 with state:=.busy,pending:=none })) a2.defers:=hs2.defers.keep fun b' hb' => by
  unfold isD at hb' ⊢
  rw [World.putObj_heap_other (fun e => by subst e; rw [j1] at hb'; cases hb')]; exact hb'
 generalize w2.putObj b (.loop { r2 with state:=.busy,pending:=none }) = w3 at j9 j10 hdef3 ⊢
 have he3:=he2.trans j10
 ·have hs3 : SRel F1 G2 n e2 (H2.set o (some (loopc (-1) av2))) a2 w3:=⟨hs2.size,hdef3,hs2.out,j9⟩
  refine awp_sound hm body (some b) (some o) F1 G1 w1 (.inl hgc) har1 hd.2 _ _ G2 e2 _ a2 w3 hs3 he3 hbody fun ex a4 w4 hl => ?_
  obtain ⟨e4,H4,G4,⟨av3,hH4,hR⟩,hs4,he4⟩:=hl
  have hob4 : G4.obs[o]? = some b:=he4.keeps.obs _ _ hb
  obtain ⟨hbl4,hkk4⟩:=he4.keeps.sp b hbl (by rw [hk]; rfl)
  have hk4 : G4.kind b = .loop ⟨tag,ps,assign,body⟩:=hkk4.trans hk
  have fin : ∀ (jump : Option Code) (s' : LoopState) (st' : Int) (Q' : Prop),s' = (if jump.isNone then .ready else .done) -> loopSt s' jump = some st' -> R (.bool jump.isNone) (H4.set o (some (loopc st' av3))) ->
    ∃ v w',(Instr.endRound b jump).run P w4 = .ok v w' /\ ∃ u,Ending.returned v = .returned u /\ KOut F1 G1 w1 R u w':=by
   intro jump s' st' _ hs' hst hR'
   obtain ⟨r4,i1,i2,i4,i5,i6,i7,i8,i9,i10⟩:=hs4.c.setLoop hH4 hob4 hk4 (s':=s') (p':=jump) hst
   refine ⟨_,_,run_endRound (P:=P) jump i1,_,rfl,.bool jump.isNone,_,G4,hR', ?_, ?_⟩
   ·rw [<- hs']
    exact i9.plain (.bool _) (toks_owned rfl _)
   ·rw [<- hs']
    exact he4.trans i10
  cases ex with
  | normal => exact fin none .ready 0 True rfl rfl hR
  | ret => exact fin (some .ret) .done (-2) True rfl rfl hR
  | exit k => exact fin (some (.exit k)) .done _ True rfl rfl hR
  | _ => exact hR.elim
end Go.AI
