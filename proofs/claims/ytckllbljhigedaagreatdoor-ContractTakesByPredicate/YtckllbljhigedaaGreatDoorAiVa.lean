/- Stores and plain loads by their addresses. -/
import Derived.Test.YtckllbljhigedaaGreatDoorAiV
import Derived.Test.YtckllbljhigedaaGreatDoorAiUa
set_option linter.unusedSimpArgs false
set_option linter.unusedVariables false
namespace Go.AI
section
variable {P : Program} {n : Nat} {h : Hint} {ops : Array Oper}
theorem agd_none {o : Oper} {e : Env} (hg : o.guard = none) : agd ops e o = some true:=by simp [agd,hg]
theorem Out.store {o : Oper} {t : TypeId} {a : Tmp} {x : Operand} {e : Env} {H H' : Heap} {v : AV} (hop : o.op = .store t (.tmp a) x) (hg : o.guard = none) (ho : Out P n h ops o e H v H') :
  ∃ (ob off : Nat) (cs xs : List AV),look e a = .ptr ob off /\ H[ob]? = some (some cs) /\ xs.length = P.cellsOf t /\ off + xs.length <= cs.length /\ v = .undef /\ H' = H.set ob (some (splice cs off xs)) /\
   ∀ (H2 : Heap) (cs2 : List AV),H2[ob]? = some (some cs2) -> off + xs.length <= cs2.length -> Out P n h ops o e H2 .undef (H2.set ob (some (splice cs2 off xs))):=by
 have hc : cls h o = 3:=by simp [cls,hop]
 unfold Out at ho
 rw [agd_none hg] at ho
 obtain ⟨hd,hf⟩:=ho
 have hr:=hf.again (fun v' H'' => v' = v /\ H'' = H') ⟨rfl,rfl⟩
 have hv : ∃ v2,(evs P (opTy o) (taking h o) o.op.operands.toList e).1 = [look e a,v2]:=by
  have ht : taking h o = true:=by simp [taking,hop]
  rw [ht,hop]
  exact ⟨_,rfl⟩
 obtain ⟨v2,hv⟩:=hv
 rw [hv] at hr
 unfold ares at hr
 rw [hop] at hr
 cases hl : look e a with
 | ptr ob off =>
  rw [hl] at hr
  dsimp only at hr
  cases hob : H[ob]? with
  | none => rw [hob] at hr; exact hr.elim
  | some q =>
   cases q with
   | none => rw [hob] at hr; exact hr.elim
   | some cs =>
    rw [hob] at hr
    obtain ⟨g1,g2,g3,g4,rfl,rfl⟩:=hr
    refine ⟨ob,off,cs,v2.cells,rfl,hob,g2,by omega,rfl,rfl,fun H2 cs2 k1 k2 => ?_⟩
    unfold Out
    rw [agd_none hg]
    refine ⟨hd, ?_⟩
    refine Fact.any hc fun R' hr' => ?_
    rw [hv,hl]
    simp only [ares,hop,k1]
    exact ⟨g1,g2,g3,by omega,hr'⟩
 | _ => rw [hl] at hr; exact hr.elim
theorem Out.pload {o : Oper} {t : TypeId} {a : Tmp} {e : Env} {H H' : Heap} {v : AV} {ob off : Nat} (hop : o.op = .load t (.tmp a)) (hld : isLd h o = true) (hg : o.guard = none) (hl : look e a = .ptr ob off) (ho : Out P n h ops o e H v H') :
  ∃ (cs : List AV) (x : AV),H[ob]? = some (some cs) /\ ldv P t cs off = some x /\ v = x.borrow /\ H' = H /\
   ∀ (H2 : Heap) (cs2 : List AV),H2[ob]? = some (some cs2) -> ldv P t cs2 off = some x -> Out P n h ops o e H2 v H2:=by
 have hc:=isLd_cls hld
 have htk : o.dst.any h.tk.contains = false:=by simpa [isLd,hop] using hld
 unfold Out at ho
 rw [agd_none hg] at ho
 obtain ⟨hd,hf⟩:=ho
 have hr:=hf.again (fun v' H'' => v' = v /\ H'' = H') ⟨rfl,rfl⟩
 have hv : (evs P (opTy o) (taking h o) o.op.operands.toList e).1 = [.ptr ob off]:=by
  have ht : taking h o = false:=by simp [taking,hop]
  rw [ht,hop]
  show [(look e a).borrow] = _
  rw [hl]; rfl
 rw [hv] at hr
 unfold ares at hr
 rw [hop] at hr
 dsimp only at hr
 cases hob : H[ob]? with
 | none => rw [hob] at hr; exact hr.elim
 | some q =>
  cases q with
  | none => rw [hob] at hr; exact hr.elim
  | some cs =>
   rw [hob] at hr
   dsimp only at hr
   cases hx : ldv P t cs off with
   | none => rw [hx] at hr; exact hr.elim
   | some x =>
    rw [hx,htk] at hr
    obtain ⟨rfl,rfl⟩:=hr
    refine ⟨cs,x,rfl,hx,rfl,rfl,fun H2 cs2 k1 k2 => ?_⟩
    have ha : ares P h o [.ptr ob off] H2 fun v' H'' => v' = x.borrow /\ H'' = H2:=by
     simp only [ares,hop,k1,k2,htk]
     first | exact ⟨rfl,rfl⟩ | exact ⟨trivial,trivial⟩
    obtain ⟨v',H'',⟨rfl,rfl⟩,hf2⟩:=ares_fact (by omega) ha
    unfold Out
    rw [agd_none hg]
    refine ⟨hd, ?_⟩
    rw [hv]
    exact hf2
def adrOf (P : Program) (h : Hint) (o : Oper) : Option (Tmp × Nat × Bool) :=
 match o.op,o.guard with
 | .store t (.tmp a) _,none => some (a,P.cellsOf t,true)
 | .load t (.tmp a),none => if isLd h o = true then some (a,ldLen P t,false) else none
 | _,_ => none
theorem adrOf_spec {o : Oper} {a : Tmp} {k : Nat} {s : Bool} (ho : adrOf P h o = some (a,k,s)) : o.guard = none /\
  ((s = true /\ ∃ t x,o.op = .store t (.tmp a) x /\ k = P.cellsOf t) \/ (s = false /\ ∃ t,o.op = .load t (.tmp a) /\ isLd h o = true /\ k = ldLen P t)):=by
 unfold adrOf at ho
 split at ho
 ·rename_i h1 h2
  cases ho
  exact ⟨h2,.inl ⟨rfl,_,_,h1,rfl⟩⟩
 ·rename_i h1 h2
  split at ho
  ·rename_i h3
   cases ho
   exact ⟨h2,.inr ⟨rfl,_,h1,h3,rfl⟩⟩
  ·cases ho
 ·cases ho
def apartAt (P : Program) (h : Hint) (x y : Oper) (e : Env) : Prop :=
 match adrOf P h x,adrOf P h y with
 | some (a,k,s),some (b,l,s') => (s = true \/ s' = true) /\ match look e a,look e b with
  | .ptr o1 f1,.ptr o2 f2 => o1 ≠ o2 \/ f1 + k <= f2 \/ f2 + l <= f1
  | _,_ => False
 | _,_ => False
theorem Out.swapAt {x y : Oper} {e e' : Env} {H H1 H2 : Heap} {v u : AV} (hx : Out P n h ops x e H v H1) (hy : Out P n h ops y e' H1 u H2) (hd : apartAt P h x y e) (hyl : ∀ b k s,adrOf P h y = some (b,k,s) -> look e' b = look e b) :
  ∃ H1',Out P n h ops y e' H u H1' /\ Out P n h ops x e H1' v H2:=by
 unfold apartAt at hd
 cases hax : adrOf P h x with
 | none => rw [hax] at hd; exact hd.elim
 | some px =>
  obtain ⟨a,k,s⟩:=px
  cases hay : adrOf P h y with
  | none => rw [hax,hay] at hd; exact hd.elim
  | some py =>
   obtain ⟨b,l,s'⟩:=py
   rw [hax,hay] at hd
   obtain ⟨hss,hd⟩:=hd
   have hlb:=hyl b l s' hay
   cases hla : look e a <;> rw [hla] at hd <;> first | exact hd.elim | skip
   rename_i o1 f1
   cases hlb' : look e b <;> rw [hlb'] at hd <;> first | exact hd.elim | skip
   rename_i o2 f2
   rw [hlb'] at hlb
   obtain ⟨gx,hx'⟩:=adrOf_spec hax
   obtain ⟨gy,hy'⟩:=adrOf_spec hay
   rcases hx' with ⟨rfl,t,z,ox,rfl⟩ | ⟨rfl,t,ox,ldx,rfl⟩
   ·obtain ⟨ob,off,cs,xs,e1,e2,e3,e4,rfl,rfl,again⟩:=hx.store ox gx
    rw [hla] at e1; cases e1
    have hlt:=(List.getElem?_eq_some_iff.1 e2).1
    rcases hy' with ⟨rfl,t',z',oy,rfl⟩ | ⟨rfl,t',oy,ldy,rfl⟩
    · -- two stores
     obtain ⟨ob',off',cs',ys,k1,k2,k3,k4,rfl,rfl,again'⟩:=hy.store oy gy
     rw [hlb] at k1; cases k1
     by_cases hoo : o1 = o2
     ·subst hoo
      rw [List.getElem?_set_self hlt] at k2
      cases k2
      have hdis : f1 + xs.length <= f2 \/ f2 + ys.length <= f1:=by rw [e3,k3]; exact hd.resolve_left (fun hne => hne rfl)
      have hle : f2 + ys.length <= cs.length:=by rw [splice_len e4] at k4; exact k4
      refine ⟨_,again' H cs e2 hle, ?_⟩
      have:=again (H.set o1 (some (splice cs f2 ys))) (splice cs f2 ys) (List.getElem?_set_self hlt) (by rw [splice_len hle]; exact e4)
      rw [List.set_set] at this ⊢
      rw [splice_comm hdis e4 hle]
      exact this
     ·rw [List.getElem?_set_ne hoo] at k2
      refine ⟨_,again' H cs' k2 k4, ?_⟩
      have:=again (H.set o2 (some (splice cs' f2 ys))) cs (by rw [List.getElem?_set_ne (Ne.symm hoo)]; exact e2) e4
      rw [List.set_comm _ _ hoo]
      exact this
    · -- a store,a load behind it
     obtain ⟨cs',w,k1,k2,rfl,rfl,again'⟩:=hy.pload oy ldy gy hlb
     by_cases hoo : o1 = o2
     ·subst hoo
      rw [List.getElem?_set_self hlt] at k1
      cases k1
      have hdis : f2 + ldLen P t' <= f1 \/ f1 + xs.length <= f2:=by rw [e3]; exact (hd.resolve_left (fun hne => hne rfl)).symm
      rw [ldv_splice hdis e4] at k2
      exact ⟨H,again' H cs e2 k2,hx⟩
     ·rw [List.getElem?_set_ne hoo] at k1
      exact ⟨H,again' H cs' k1 k2,hx⟩
   ·obtain ⟨cs,w,e1,e2,rfl,rfl,again⟩:=hx.pload ox ldx gx hla
    rcases hy' with ⟨rfl,t',z',oy,rfl⟩ | ⟨rfl,t',oy,ldy,rfl⟩
    · -- a load,a store behind it
     obtain ⟨ob',off',cs',ys,k1,k2,k3,k4,rfl,rfl,again'⟩:=hy.store oy gy
     rw [hlb] at k1; cases k1
     have hlt:=(List.getElem?_eq_some_iff.1 k2).1
     refine ⟨_,hy, ?_⟩
     by_cases hoo : o1 = o2
     ·subst hoo
      rw [e1] at k2; cases k2
      have hdis : f1 + ldLen P t <= f2 \/ f2 + ys.length <= f1:=by rw [k3]; exact hd.resolve_left (fun hne => hne rfl)
      exact again _ (splice cs f2 ys) (List.getElem?_set_self hlt) (by rw [ldv_splice hdis k4]; exact e2)
     ·exact again _ cs (by rw [List.getElem?_set_ne (Ne.symm hoo)]; exact e1) e2
    ·rcases hss with h | h <;> cases h
end
end Go.AI
