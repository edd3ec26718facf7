/- Swaps that hang on addresses: the operations of a region, in the other order. -/
import Derived.Test.YtofajkggflobkaaGreatDoorAiVa
set_option linter.unusedSimpArgs false
set_option linter.unusedVariables false
namespace Go.AI
section
variable {P : Program} {n : Nat} {h : Hint} {ops : Array Oper}
def indepS (h : Hint) (ops : Array Oper) (x y : Oper) : Bool :=
 x.apart ops y && (takesT h x).all (fun t => !(y.looksAt ops).contains t) && (takesT h y).all (fun t => !(x.looksAt ops).contains t)
theorem indepS_spec {x y : Oper} (hi : indepS h ops x y = true) : (∀ d,x.dst = some d -> d ∉ y.looksAt ops) /\ (∀ d,x.dst = some d -> y.dst ≠ some d) /\ (∀ d,y.dst = some d -> d ∉ x.looksAt ops) /\
  (∀ t ∈ takesT h x,t ∉ y.looksAt ops) /\ (∀ t ∈ takesT h y,t ∉ x.looksAt ops):=by
 simp only [indepS,Bool.and_eq_true] at hi
 obtain ⟨⟨h1,h2⟩,h3⟩:=hi
 obtain ⟨g1,g2,g3⟩:=Oper.apart_spec h1
 exact ⟨g1,g2,g3,fun t ht => by simpa using List.all_eq_true.1 h2 t ht,fun t ht => by simpa using List.all_eq_true.1 h3 t ht⟩
theorem adrOf_cls {o : Oper} {q : Tmp × Nat × Bool} (ho : adrOf P h o = some q) : cls h o ≠ 4:=by
 obtain ⟨a,k,s⟩:=q
 obtain ⟨_,h1⟩:=adrOf_spec ho
 rcases h1 with ⟨_,t,x,hop,_⟩ | ⟨_,t,hop,hl,_⟩
 ·simp [cls,hop]
 ·have:=isLd_cls hl; omega
theorem aop_swapAt {x y : Oper} {K : Env -> Heap -> Prop} {e : Env} {H : Heap} (hi : indepS h ops x y = true) (hd : apartAt P h x y e) (hK : Resp K) (ha : aop P n h ops x (aop P n h ops y K) e H) : aop P n h ops y (aop P n h ops x K) e H:=by
 obtain ⟨i1,i2,i3,i4,i5⟩:=indepS_spec hi
 have hx4 : cls h x ≠ 4:=by
  unfold apartAt at hd
  cases hax : adrOf P h x with
  | none => rw [hax] at hd; exact hd.elim
  | some q => exact adrOf_cls hax
 have hy4 : cls h y ≠ 4:=by
  unfold apartAt at hd
  cases hay : adrOf P h y with
  | none => rw [hay] at hd; cases hax : adrOf P h x <;> rw [hax] at hd <;> exact hd.elim
  | some q => exact adrOf_cls hay
 obtain ⟨v,H1,hx,hya⟩:=aop_out hx4 ha
 obtain ⟨u,H2,hy,hk⟩:=aop_out hy4 hya
 have hye : ∀ t ∈ y.looksAt ops,look (upd P h ops x e v) t = look e t:=fun t ht => upd_look (fun hd => i1 t hd ht) (fun hm => i4 t hm ht)
 have hy':=hy.env hye
 obtain ⟨H1',hy2,hx2⟩:=hx.swapAt hy' hd fun _ _ _ _ => rfl
 have hxe : ∀ t ∈ x.looksAt ops,look e t = look (upd P h ops y e u) t:=fun t ht => (upd_look (fun hd => i3 t hd ht) (fun hm => i5 t hm ht)).symm
 have hx3:=hx2.env hxe
 refine out_aop hy2 (out_aop hx3 (hK _ _ _ (fun t => ?_) hk))
 by_cases hyd : y.dst = some t
 ·have hxd : x.dst ≠ some t:=fun hd => i2 t hd hyd
  have hxt : t ∉ takesT h x:=fun hm => i3 t hyd (takesT_looks hm)
  rw [upd_look (o:=x) (e:=upd P h ops y e u) hxd hxt]
  exact upd_congr hye (.inl hyd)
 ·by_cases hyt : t ∈ takesT h y
  ·have hxd : x.dst ≠ some t:=fun hd => i1 t hd (takesT_looks hyt)
   have hxt : t ∉ takesT h x:=fun hm => i4 t hm (takesT_looks hyt)
   rw [upd_look (o:=x) (e:=upd P h ops y e u) hxd hxt]
   exact upd_congr hye (.inr (upd_look hxd hxt))
  ·rw [upd_look (o:=y) hyd hyt]
   refine upd_congr hxe ?_
   by_cases hxd : x.dst = some t
   ·exact .inl hxd
   ·exact .inr (upd_look hyd hyt).symm
theorem borrow_ptr_inv {v : AV} {a b : Nat} (h : v.borrow = .ptr a b) : v = .ptr a b:=by
 cases v <;> first | exact h | cases h
theorem ev1_ptr {ty : Option TypeId} {take : Bool} {x : Operand} {e : Env} {t : Tmp} {a b : Nat} (h2 : look (ev1 P ty take x e).2 t = .ptr a b) : look e t = .ptr a b:=by
 cases take with
 | false => exact h2
 | true =>
  simp only [ev1] at h2
  split at h2
  ·simp only [look] at h2
   split at h2
   ·rename_i ht; subst ht; exact borrow_ptr_inv h2
   ·exact h2
  ·exact h2
theorem evs_ptr {ty : Option TypeId} {take : Bool} {t : Tmp} {a b : Nat} : ∀ {xs : List Operand} {e : Env},look (evs P ty take xs e).2 t = .ptr a b -> look e t = .ptr a b
 | [],e,h2 => h2
 | x :: xs,e,h2 => ev1_ptr (evs_ptr (xs:=xs) h2)
theorem upd_ptr {o : Oper} {e : Env} {v : AV} {t : Tmp} (h1 : o.dst ≠ some t) {a b : Nat} (h2 : look (upd P h ops o e v) t = .ptr a b) : look e t = .ptr a b:=by
 unfold upd at h2
 split at h2 <;> rw [look_put,if_neg h1] at h2
 ·exact evs_ptr h2
 ·exact h2
end
end Go.AI
