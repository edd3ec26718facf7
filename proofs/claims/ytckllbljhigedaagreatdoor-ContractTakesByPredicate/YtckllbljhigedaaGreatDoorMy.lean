/- A row that a call has made becomes a list that nobody writes. -/
import Derived.Test.YtckllbljhigedaaGreatDoorMj
import Derived.Test.YtckllbljhigedaaGreatDoorMt
import Derived.Test.YtckllbljhigedaaGreatDoorMg
import Derived.Test.YtckllbljhigedaaGreatDoorMp
set_option linter.unusedSimpArgs false
set_option linter.unusedVariables false
namespace Go.AI
def rowV (es : List (List AV)) (v : AV) (H H' : Heap) : Prop :=
 (es = [] /\ (∃ w,v = .sl w []) /\ ∃ ext,H' = H ++ ext) \/ ∃ ob cs,v = .msl ob 0 es.length 10 /\ H.length <= ob /\ (∃ ext,H' = H ++ ext) /\ H'[ob]? = some (some cs) /\ (∃ r,cs = es.flatten ++ r)
section
variable {P : Program}
theorem CRel.borrowArgs {F : Nat -> Prop} {G : Gh} {w : World} {H : Heap} {vs : List AV} {us : List Value} (h : CRel F G vs H us w) : CRel F G (vs.map AV.borrow) H us w:=by
 obtain ⟨l1,t1⟩:=map_borrow_LRel (F:=F) (G:=G) (w:=w) (first:=vs) (fi:=us) h.l.len (fun i c v a b => h.l.rel i c v a b)
 exact ⟨l1,h.h,fun b => by
  rw [t1]
  have:=h.cnt b
  omega⟩
theorem ACall.weak {f : FuncId} {vs : List AV} {H : Heap} {R : AV -> Heap -> Prop} (h : ACall P f (vs.map AV.borrow) H R) : ACall P f vs H R:=⟨h.1,fun F G w us hc => h.2 F G w us hc.borrowArgs⟩
theorem PCall.weak {f : FuncId} {vs : List AV} {v : AV} (h : PCall P f (vs.map AV.borrow) v) : PCall P f vs v:=fun H => (h H).weak
end
end Go.AI
namespace Go.AI
open Go.Proofs
set_option maxRecDepth 50000
end Go.AI
namespace Go.AI
open Go.Proofs
set_option maxRecDepth 50000
def mCell (l : List Head) : Option (List AV):=some [.sl none (lHead l)]
end Go.AI
namespace Go.AI
open Go.Proofs
set_option maxRecDepth 50000
def cellsH (l : List Head) : List AV:=(l.map Head.c).flatten
end Go.AI
namespace Go.AI
open Go.Proofs
set_option maxRecDepth 50000
def MI (H : Heap) (fv : List AV) (out a b : List Head) (X : Heap) : Prop :=
 H.length + 4 <= X.length /\ X.take H.length = H /\ X[H.length + 1]? = some (mCell a) /\ X[H.length + 2]? = some (mCell b) /\ X[H.length + 3]? = some (some (loopc 0 fv)) /\
  ∃ ov,X[H.length]? = some (some [ov]) /\ ((out = [] /\ ov = .sl (some 0) []) \/ ∃ ob,ov = .msl ob 0 out.length 10 /\ out ≠ [] /\ H.length + 4 <= ob /\ X[ob]? = some (some (cellsH out)))
theorem get_grow {X : Heap} {i : Nat} {c : Option (List AV)} (h : X[i]? = some c) (z : Heap) : (X ++ z)[i]? = some c:=by
 rw [List.getElem?_append_left (List.getElem?_eq_some_iff.1 h).1]; exact h
theorem get_other {X : Heap} {i j : Nat} {c : Option (List AV)} (h : X[i]? = some c) (hne : j ≠ i) (v : Option (List AV)) : (X.set j v)[i]? = some c:=by
 rw [List.getElem?_set_ne hne]; exact h
theorem get_self {X : Heap} {i : Nat} (h : i < X.length) (v : Option (List AV)) : (X.set i v)[i]? = some v:=by
 rw [List.getElem?_set_self h]
theorem MI.grow {H : Heap} {fv : List AV} {out a b : List Head} {X : Heap} (h : MI H fv out a b X) (x : Option (List AV)) : MI H fv out a b (X ++ [x]):=by
 obtain ⟨h1,h2,h3,h4,h5,ov,h6,h7⟩:=h
 refine ⟨by simp; omega,by rw [List.take_append_of_le_length (by omega)]; exact h2,get_grow h3 _,get_grow h4 _,get_grow h5 _,ov,get_grow h6 _, ?_⟩
 rcases h7 with h7 | ⟨ob,g1,g2,g3,g4⟩
 ·exact .inl h7
 ·exact .inr ⟨ob,g1,g2,g3,get_grow g4 _⟩
theorem MI.put {H : Heap} {fv : List AV} {a b : List Head} {X : Heap} (h1 : H.length + 4 <= X.length) (h2 : X.take H.length = H) (h3 : X[H.length + 1]? = some (mCell a)) (h4 : X[H.length + 2]? = some (mCell b)) (z : Heap) {out : List Head} {ob : Nat} (hne : out ≠ []) (hob : H.length + 4 <= ob)
  (hr : ((X.set H.length (some [.msl ob 0 out.length 10])).set (H.length + 3) (some (loopc 0 fv)) ++ z)[ob]? = some (some (cellsH out))) : MI H fv out a b ((X.set H.length (some [.msl ob 0 out.length 10])).set (H.length + 3) (some (loopc 0 fv)) ++ z):=by
 refine ⟨by simp; omega, ?_,get_grow (get_other (get_other h3 (by omega) _) (by omega) _) _,get_grow (get_other (get_other h4 (by omega) _) (by omega) _) _,get_grow (get_self (by simp; omega) _) _,_,get_grow (get_other (get_self (by omega) _) (by omega) _) _,.inr ⟨ob,rfl,hne,hob,hr⟩⟩
 rw [List.take_append_of_le_length (by simp; omega),List.take_set_of_le (by omega),List.take_set_of_le (by omega)]
 exact h2
end Go.AI
namespace Go.AI
open Go.Proofs
set_option maxRecDepth 50000
def resA : Option (List Head) -> AV
 | some r => .tup [.sl none (lHead r),.bool true]
 | none => .tup [.sl none [],.bool false]
@[go_sem] theorem resA_pure (o : Option (List Head)) : (resA o).pure = true:=by
 cases o <;> simp [resA,AV.pure,pureL,go_sem]
end Go.AI
namespace Go.AI
open Go.Proofs
set_option maxRecDepth 50000
end Go.AI
namespace Go.AI
open Go.Proofs
set_option maxRecDepth 50000
theorem rK {P : Program} {f : FuncId} {vs : List AV} {d : Option Tmp} {K : Kt} {e : Env} {H : Heap} {v : AV} (hc : RCall P f vs H v) (hk : K (put d v e) H) : RCallK P f vs d K e H:=⟨v,hc,hk⟩
def isW (l : List Fld) (t : Int) (ot ow ol o : Nat) (H : Heap) : Prop :=
 H[ot]? = some (some [.int .i64 t]) /\ H[ow]? = some (some [.ptr o 0]) /\ (∃ w,H[ol]? = some (some [.sl w (lFld l)])) /\
  H[o]? = some (some [.fn (.func 52) [] [.ptr ot 0,.ptr ow 0,.ptr ol 0],.fn (.func 58) [] [.ptr ow 0,.ptr ol 0]])
@[go_sem] theorem frzS_none (t : Tmp) (zs : List (Tmp × Option Nat × Bool)) (Q : Exit -> Kt) (e : Env) (H : Heap) : frzS none t zs Q e H = frzK zs Q e H:=Eq.trans rfl rfl
@[go_sem] theorem borrow0_msl (a b c k : Nat) : borrow0 (.msl a b c k) = .msl a b c k:=rfl
theorem ACall.res {P : Program} {f : FuncId} {vs : List AV} {H : Heap} {R : AV -> Heap -> Prop} (h : ACall P f vs H R) : ACall P f vs H fun v H' => ∃ v0,R v0 H' /\ v = v0.borrow :=
 ⟨h.1,fun F G w us hc => Calls.mono (h.2 F G w us hc) fun e w' he => by
  obtain ⟨u,rfl,v,H',G',h1,h2,h3⟩:=he
  exact ⟨u,rfl,v.borrow,H',G',⟨v,h1,rfl⟩,h2.borrowArgs,h3⟩⟩
theorem map1 {f : AV -> AV} {c : List AV} {a : AV} (h : c.map f = [a].map f) : ∃ x,c = [x] /\ f x = f a:=by
 match c,h with
 | [],h => cases h
 | [x],h => exact ⟨x,rfl,(List.cons.inj h).1⟩
 | _ :: _ :: _,h => exact absurd (congrArg List.length h) (by simp)
theorem map2 {f : AV -> AV} {c : List AV} {a b : AV} (h : c.map f = [a,b].map f) : ∃ x y,c = [x,y] /\ f x = f a /\ f y = f b:=by
 match c,h with
 | [],h => cases h
 | [x],h => exact absurd (congrArg List.length h) (by simp)
 | [x,y],h => exact ⟨x,y,rfl,(List.cons.inj h).1,(List.cons.inj (List.cons.inj h).2).1⟩
 | _ :: _ :: _ :: _,h => exact absurd (congrArg List.length h) (by simp)
section
variable {l : List Fld} {t : Int} {ot ow ol o : Nat}
theorem isW.grow {H : Heap} (h : isW l t ot ow ol o H) (z : Heap) : isW l t ot ow ol o (H ++ z) :=
 let ⟨h1,h2,⟨w,h3⟩,h4⟩:=h; ⟨get_grow h1 z,get_grow h2 z,⟨w,get_grow h3 z⟩,get_grow h4 z⟩
theorem borrow1_eq {x a : AV} (h : borrow1 x = borrow1 a) (ha : ∀ w es,a ≠ .sl w es) : x = a:=by
 cases x <;> cases a <;> first | (exact h) | (exact absurd rfl (ha _ _)) | (cases h)
theorem isW.view {H H2 : Heap} (hv : hview H2 = hview H) (h : isW l t ot ow ol o H) : isW l t ot ow ol o H2:=by
 obtain ⟨h1,h2,⟨w,h3⟩,h4⟩:=h
 obtain ⟨c1,g1,e1⟩:=hview_get hv h1
 obtain ⟨c2,g2,e2⟩:=hview_get hv h2
 obtain ⟨c3,g3,e3⟩:=hview_get hv h3
 obtain ⟨c4,g4,e4⟩:=hview_get hv h4
 refine ⟨?_, ?_, ?_, ?_⟩
 ·obtain ⟨x,rfl,hx⟩:=map1 e1
  rw [g1,borrow1_eq hx (by intro w es h; cases h)]
 ·obtain ⟨x,rfl,hx⟩:=map1 e2
  rw [g2,borrow1_eq hx (by intro w es h; cases h)]
 ·obtain ⟨x,rfl,hx⟩:=map1 e3
  cases x <;> first | (cases hx; done) | skip
  rename_i w' es
  have : es = lFld l:=by
   have h5 : AV.sl none es = AV.sl none (lFld l):=hx
   cases h5; rfl
  subst this
  exact ⟨w',g3⟩
 ·obtain ⟨x,y,rfl,hx,hy⟩:=map2 e4
  rw [g4,borrow1_eq hx (by intro w es h; cases h),borrow1_eq hy (by intro w es h; cases h)]
end
theorem rowV.base {es : List (List AV)} {v : AV} {B e X : Heap} (h : rowV es v (B ++ e) X) : rowV es v B X:=by
 rcases h with ⟨h1,h2,ext,rfl⟩ | ⟨ob,cs,h1,h2,⟨ext,rfl⟩,h4,h5⟩
 ·exact .inl ⟨h1,h2,e ++ ext,by rw [List.append_assoc]⟩
 ·exact .inr ⟨ob,cs,h1,by rw [List.length_append] at h2; omega,⟨e ++ ext,by rw [List.append_assoc]⟩,h4,h5⟩
theorem rowV.ext {es : List (List AV)} {v : AV} {B X : Heap} (h : rowV es v B X) : ∃ ext,X = B ++ ext:=by
 rcases h with ⟨_,_,h⟩ | ⟨_,_,_,_,h,_⟩ <;> exact h
end Go.AI
namespace Go.AI
open Go.Proofs
set_option maxRecDepth 50000
def resD : Option (List Head) -> Nat -> AV
 | some r,n => .tup [.sl none (lHead r),.int .i64 n,.bool true]
 | none,_ => .tup [.sl none [],.int .i64 0,.bool false]
end Go.AI
namespace Go.AI
open Go.Proofs
set_option maxRecDepth 50000
theorem right_z : rightH Head.z = true:=by decide
theorem right_pat {f : Fld} (hf : okFld f) {n m : Nat} (hn : n < 2 ^ fW f) : rightH (patN f n m).mask = true /\ rightH (patN f n m).bits = true :=
 ⟨right_setN hf (maskN_lt _ _) right_z,right_setN hf (Nat.lt_of_le_of_lt Nat.and_le_left hn) right_z⟩
theorem q_0 (H : Heap) (a : Option (List AV)) (z : Heap) : (H ++ (a :: z))[H.length]? = some a:=by rw [List.getElem?_append_right (Nat.le_refl _),Nat.sub_self]; rfl
theorem q_1 (H : Heap) (a b : Option (List AV)) (z : Heap) : (H ++ (a :: b :: z))[H.length + 1]? = some b:=by rw [List.getElem?_append_right (by omega),Nat.add_sub_cancel_left]; rfl
theorem q_2 (H : Heap) (a b c : Option (List AV)) (z : Heap) : (H ++ (a :: b :: c :: z))[H.length + 2]? = some c:=by rw [List.getElem?_append_right (by omega),Nat.add_sub_cancel_left]; rfl
theorem q_s2 (H : Heap) (a b c d : Option (List AV)) : (H ++ [a,b,c]).set (H.length + 2) d = H ++ [a,b,d]:=by rw [List.set_append_right _ _ (by omega),Nat.add_sub_cancel_left]; rfl
theorem p_wHolds (l : List Fld) (hl : okFs l) (hln : l.length <= 9223372036854775807) (t : Int) (ot ow ol o : Nat) : ∀ x : Pred, goodP l x -> ∀ h, rightH h = true -> ∀ H, isW l t ot ow ol o H -> SCall Tryz.prog 52 [.agg x.c, .agg h.c, .ptr ot 0, .ptr ow 0, .ptr ol 0] H (.bool (hP l t x h)) := by
  refine Pred.ind _ fun x ih => fun hx h hr H hW => ?_
  have hc : ∀ a, a ∈ x.args -> goodP l a -> ∀ z, RCall Tryz.prog 52 [.agg a.c, .agg h.c, .ptr ot 0, .ptr ow 0, .ptr ol 0] (H ++ z) (.bool (hP l t a h)) := fun a ha ga z H2 hv => ih a ha ga h hr H2 ((hW.grow z).view hv)
  obtain ⟨w1, w2, ⟨w, w3⟩, w4⟩ := hW
  have eT := get_grow w1
  have eO := get_grow w2
  have eL := get_grow w3
  have eF := get_grow w4
  have q0 := q_0 H
  have q1 := q_1 H
  have q2 := q_2 H
  have s2 := q_s2 H
  rw [hP_eq]
  refine ACall.drop rfl ?_
  rcases goodP_kind hl hx with k | k | k | ⟨k, a, ha, ga⟩ | ⟨k, a, b, ha, ga, gb⟩ | ⟨k, hf, hfo, hn, hn2⟩ | ⟨k, ⟨hf, hfo, hn, hn2⟩, hm, hm2⟩ | ⟨k, hf, hfo, hn, hnm, hm2⟩
  · refine aC h52_k rfl ?_
    simp only [Tryz.f52, go_sem, eT, eO, eL, eF, q0, q1, q2, s2, List.length_append, List.append_assoc, List.cons_append, List.nil_append, List.length_cons, List.length_nil, Nat.add_assoc, Nat.reduceAdd, k, Int.reduceBEq]
    repeat' (first
      | ((first | refine cS ?_ ?_ | refine gS ?_ ?_) <;> (intro hc; simp only [go_sem, hc, Int.reduceBEq, k, eT, eO, eL, eF, q0, q1, q2, s2, List.length_append, List.append_assoc, List.cons_append, List.nil_append, List.length_cons, List.length_nil, Nat.add_assoc, Nat.reduceAdd])))
    all_goals first | rfl | skip
  · refine aC h52_k rfl ?_
    simp only [Tryz.f52, go_sem, eT, eO, eL, eF, q0, q1, q2, s2, List.length_append, List.append_assoc, List.cons_append, List.nil_append, List.length_cons, List.length_nil, Nat.add_assoc, Nat.reduceAdd, k, Int.reduceBEq]
    repeat' (first
      | ((first | refine cS ?_ ?_ | refine gS ?_ ?_) <;> (intro hc; simp only [go_sem, hc, Int.reduceBEq, k, eT, eO, eL, eF, q0, q1, q2, s2, List.length_append, List.append_assoc, List.cons_append, List.nil_append, List.length_cons, List.length_nil, Nat.add_assoc, Nat.reduceAdd])))
    all_goals first | rfl | skip
  · refine aC h52_k rfl ?_
    simp only [Tryz.f52, go_sem, eT, eO, eL, eF, q0, q1, q2, s2, List.length_append, List.append_assoc, List.cons_append, List.nil_append, List.length_cons, List.length_nil, Nat.add_assoc, Nat.reduceAdd, k, Int.reduceBEq]
    repeat' (first
      | ((first | refine cS ?_ ?_ | refine gS ?_ ?_) <;> (intro hc; simp only [go_sem, hc, Int.reduceBEq, k, eT, eO, eL, eF, q0, q1, q2, s2, List.length_append, List.append_assoc, List.cons_append, List.nil_append, List.length_cons, List.length_nil, Nat.add_assoc, Nat.reduceAdd])))
    all_goals first
      | (show AV.bool _ = AV.bool (decide (x.n <= t) && decide (t < x.m))
         rw [hc]; rfl)
      | skip
  · have c1 := hc a (by rw [ha]; simp) ga
    have e1 : fnth (hPs l t x.args) 0 h = hP l t a h := hPs_at l t (by rw [ha]; rfl) h
    have g1 : (0 : Int) < (x.args.length : Int) := by rw [ha]; simp
    have g2 := lPred_get (l := x.args) (i := 0) (x := a) (by rw [ha]; rfl)
    refine aC h52_k rfl ?_
    simp only [Tryz.f52, go_sem, eT, eO, eL, eF, q0, q1, q2, s2, List.length_append, List.append_assoc, List.cons_append, List.nil_append, List.length_cons, List.length_nil, Nat.add_assoc, Nat.reduceAdd, k, Int.reduceBEq, g1, g2]
    repeat' (first
      | (refine rK (c1 _) ?_; simp only [go_sem, Int.reduceBEq, k, eT, eO, eL, eF, q0, q1, q2, s2, List.length_append, List.append_assoc, List.cons_append, List.nil_append, List.length_cons, List.length_nil, Nat.add_assoc, Nat.reduceAdd, g1, g2])
      | ((first | refine cS ?_ ?_ | refine gS ?_ ?_) <;> (intro hc; simp only [go_sem, hc, Int.reduceBEq, k, eT, eO, eL, eF, q0, q1, q2, s2, List.length_append, List.append_assoc, List.cons_append, List.nil_append, List.length_cons, List.length_nil, Nat.add_assoc, Nat.reduceAdd, g1, g2])))
    all_goals first
      | (show _ = AV.bool (!fnth (hPs l t x.args) 0 h)
         rw [e1])
      | skip
  · have c1 := hc a (by rw [ha]; simp) ga
    have c2 := hc b (by rw [ha]; simp) gb
    have e1 : fnth (hPs l t x.args) 0 h = hP l t a h := hPs_at l t (by rw [ha]; rfl) h
    have e2 : fnth (hPs l t x.args) 1 h = hP l t b h := hPs_at l t (by rw [ha]; rfl) h
    have g1 : (0 : Int) < (x.args.length : Int) := by rw [ha]; simp
    have g2 := lPred_get (l := x.args) (i := 0) (x := a) (by rw [ha]; rfl)
    have g3 : (1 : Int) < (x.args.length : Int) := by rw [ha]; simp
    have g4 := lPred_get (l := x.args) (i := 1) (x := b) (by rw [ha]; rfl)
    rcases k with k | k
    · refine aC h52_k rfl ?_
      simp only [Tryz.f52, go_sem, eT, eO, eL, eF, q0, q1, q2, s2, List.length_append, List.append_assoc, List.cons_append, List.nil_append, List.length_cons, List.length_nil, Nat.add_assoc, Nat.reduceAdd, k, Int.reduceBEq, g1, g2, g3, g4]
      repeat' (first
        | ((first | refine rK (c1 _) ?_ | refine rK (c2 _) ?_); simp only [go_sem, Int.reduceBEq, k, eT, eO, eL, eF, q0, q1, q2, s2, List.length_append, List.append_assoc, List.cons_append, List.nil_append, List.length_cons, List.length_nil, Nat.add_assoc, Nat.reduceAdd, g1, g2, g3, g4])
        | ((first | refine cS ?_ ?_ | refine gS ?_ ?_) <;> (intro hc; simp only [go_sem, hc, Int.reduceBEq, k, eT, eO, eL, eF, q0, q1, q2, s2, List.length_append, List.append_assoc, List.cons_append, List.nil_append, List.length_cons, List.length_nil, Nat.add_assoc, Nat.reduceAdd, g1, g2, g3, g4])))
      all_goals first
        | (show _ = AV.bool (fnth (hPs l t x.args) 0 h && fnth (hPs l t x.args) 1 h)
           rw [e1, e2]
           revert hc
           cases hP l t a h <;> simp)
        | skip
    · refine aC h52_k rfl ?_
      simp only [Tryz.f52, go_sem, eT, eO, eL, eF, q0, q1, q2, s2, List.length_append, List.append_assoc, List.cons_append, List.nil_append, List.length_cons, List.length_nil, Nat.add_assoc, Nat.reduceAdd, k, Int.reduceBEq, g1, g2, g3, g4]
      repeat' (first
        | ((first | refine rK (c1 _) ?_ | refine rK (c2 _) ?_); simp only [go_sem, Int.reduceBEq, k, eT, eO, eL, eF, q0, q1, q2, s2, List.length_append, List.append_assoc, List.cons_append, List.nil_append, List.length_cons, List.length_nil, Nat.add_assoc, Nat.reduceAdd, g1, g2, g3, g4])
        | ((first | refine cS ?_ ?_ | refine gS ?_ ?_) <;> (intro hc; simp only [go_sem, hc, Int.reduceBEq, k, eT, eO, eL, eF, q0, q1, q2, s2, List.length_append, List.append_assoc, List.cons_append, List.nil_append, List.length_cons, List.length_nil, Nat.add_assoc, Nat.reduceAdd, g1, g2, g3, g4])))
      all_goals first
        | (show _ = AV.bool (fnth (hPs l t x.args) 0 h || fnth (hPs l t x.args) 1 h)
           rw [e1, e2]
           revert hc
           cases hP l t a h <;> simp)
        | skip
  · have c1 := p_Find l hln x.field
    have c2 := p_Equal _ hfo x.n.toNat hn2
    have hrp := right_pat hfo (m := fW (findF l x.field).1) hn2
    have c3 := p_Match _ hrp.1 hrp.2 h hr
    rw [match_pat hfo hn2 (Nat.le_refl _) h] at c3
    rw [Int.toNat_of_nonneg hn] at c2
    refine aC h52_k rfl ?_
    simp only [Tryz.f52, go_sem, eT, eO, eL, eF, q0, q1, q2, s2, List.length_append, List.append_assoc, List.cons_append, List.nil_append, List.length_cons, List.length_nil, Nat.add_assoc, Nat.reduceAdd, k, Int.reduceBEq]
    repeat' (first
      | ((first | refine pK (c1) ?_ | refine pK (c2) ?_ | refine pK (c3) ?_); simp only [go_sem, Int.reduceBEq, k, eT, eO, eL, eF, q0, q1, q2, s2, List.length_append, List.append_assoc, List.cons_append, List.nil_append, List.length_cons, List.length_nil, Nat.add_assoc, Nat.reduceAdd])
      | ((first | refine cS ?_ ?_ | refine gS ?_ ?_) <;> (intro hc; simp only [go_sem, hc, Int.reduceBEq, k, eT, eO, eL, eF, q0, q1, q2, s2, List.length_append, List.append_assoc, List.cons_append, List.nil_append, List.length_cons, List.length_nil, Nat.add_assoc, Nat.reduceAdd])))
    all_goals first
      | (show AV.bool _ = AV.bool (decide ((getN (findF l x.field).1 h : Int) = x.n))
         congr 1
         rw [Nat.sub_self, Nat.pow_zero, Nat.div_one, Nat.div_one, Bool.eq_iff_iff, decide_eq_true_eq, decide_eq_true_eq]
         omega)
      | skip
  · have hm' : 0 <= x.m := hm
    have hm3 : x.m.toNat <= fW (findF l x.field).1 := hm2
    have c1 := p_Find l hln x.field
    have c2 := p_Prefix _ hfo x.n.toNat x.m.toNat hn2 hm3
    have hrp := right_pat hfo (m := x.m.toNat) hn2
    have c3 := p_Match _ hrp.1 hrp.2 h hr
    rw [match_pat hfo hn2 hm3 h] at c3
    rw [Int.toNat_of_nonneg hn, Int.toNat_of_nonneg hm'] at c2
    refine aC h52_k rfl ?_
    simp only [Tryz.f52, go_sem, eT, eO, eL, eF, q0, q1, q2, s2, List.length_append, List.append_assoc, List.cons_append, List.nil_append, List.length_cons, List.length_nil, Nat.add_assoc, Nat.reduceAdd, k, Int.reduceBEq]
    repeat' (first
      | ((first | refine pK (c1) ?_ | refine pK (c2) ?_ | refine pK (c3) ?_); simp only [go_sem, Int.reduceBEq, k, eT, eO, eL, eF, q0, q1, q2, s2, List.length_append, List.append_assoc, List.cons_append, List.nil_append, List.length_cons, List.length_nil, Nat.add_assoc, Nat.reduceAdd])
      | ((first | refine cS ?_ ?_ | refine gS ?_ ?_) <;> (intro hc; simp only [go_sem, hc, Int.reduceBEq, k, eT, eO, eL, eF, q0, q1, q2, s2, List.length_append, List.append_assoc, List.cons_append, List.nil_append, List.length_cons, List.length_nil, Nat.add_assoc, Nat.reduceAdd])))
    all_goals first | rfl | skip
  · have c1 := p_Find l hln x.field
    have c2 := p_fGet _ hfo h hr
    refine aC h52_k rfl ?_
    simp only [Tryz.f52, go_sem, eT, eO, eL, eF, q0, q1, q2, s2, List.length_append, List.append_assoc, List.cons_append, List.nil_append, List.length_cons, List.length_nil, Nat.add_assoc, Nat.reduceAdd, k, Int.reduceBEq]
    repeat' (first
      | ((first | refine pK (c1) ?_ | refine pK (c2) ?_); simp only [go_sem, Int.reduceBEq, k, eT, eO, eL, eF, q0, q1, q2, s2, List.length_append, List.append_assoc, List.cons_append, List.nil_append, List.length_cons, List.length_nil, Nat.add_assoc, Nat.reduceAdd])
      | ((first | refine cS ?_ ?_ | refine gS ?_ ?_) <;> (intro hc; simp only [go_sem, hc, Int.reduceBEq, k, eT, eO, eL, eF, q0, q1, q2, s2, List.length_append, List.append_assoc, List.cons_append, List.nil_append, List.length_cons, List.length_nil, Nat.add_assoc, Nat.reduceAdd])))
    all_goals first
      | (show AV.bool _ = AV.bool (decide (x.n <= getN (findF l x.field).1 h) && decide ((getN (findF l x.field).1 h : Int) <= x.m))
         rw [hc]; rfl)
      | skip
end Go.AI
namespace Go.AI
open Go.Proofs
set_option maxRecDepth 50000
@[go_sem] theorem resA_some (r : List Head) : resA (some r) = .tup [.sl none (lHead r),.bool true]:=rfl
@[go_sem] theorem resA_none : resA none = .tup [.sl none [],.bool false]:=rfl
@[go_sem] theorem resD_some (r : List Head) (n : Nat) : resD (some r) n = .tup [.sl none (lHead r),.int .i64 n,.bool true]:=rfl
@[go_sem] theorem resD_none (n : Nat) : resD none n = .tup [.sl none [],.int .i64 0,.bool false]:=rfl
end Go.AI
namespace Go.AI
open Go.Proofs
set_option maxRecDepth 50000
def wldC (n : Nat) : List AV:=[.fn (.func 52) [] [.ptr (n + 1) 0,.ptr (n + 3) 0,.ptr n 0],.fn (.func 58) [] [.ptr (n + 3) 0,.ptr n 0]]
theorem q_3 (H : Heap) (a b c d : Option (List AV)) : (H ++ [a,b,c,d])[H.length + 3]? = some d:=by rw [List.getElem?_append_right (by omega),Nat.add_sub_cancel_left]; rfl
theorem q_s3 (H : Heap) (a b c d e : Option (List AV)) : (H ++ [a,b,c,d]).set (H.length + 3) e = H ++ [a,b,c,e]:=by rw [List.set_append_right _ _ (by omega),Nat.add_sub_cancel_left]; rfl
theorem q_s23 (H : Heap) (a b c d e : Option (List AV)) : (H ++ [a,b,c,d]).set (H.length + 2) e = H ++ [a,b,e,d]:=by rw [List.set_append_right _ _ (by omega),Nat.add_sub_cancel_left]; rfl
theorem p_in (l : List Fld) (t : Int) (H : Heap) : ACall Tryz.prog 25 [.sl none (lFld l),.int .i64 t] H fun v H' => v = .ptr (H.length + 2) 0 /\ H' = H ++ [some [.sl none (lFld l)],some [.int .i64 t],some (wldC H.length),some [.ptr (H.length + 2) 0]]:=by
 have q3:=q_3 H
 have q2:=q_2 H
 have s3:=q_s3 H
 have s2:=q_s23 H
 refine aC h25_k rfl ?_
 simp only [Tryz.f25,go_sem,q3,q2,s3,s2,List.length_append,List.append_assoc,List.cons_append,List.nil_append,List.length_cons,List.length_nil,Nat.add_assoc,Nat.reduceAdd]
 all_goals first | rfl | exact ⟨rfl,rfl⟩ | skip
end Go.AI
namespace Go.AI
open Go.Proofs
set_option maxRecDepth 50000
theorem ckF_ok {l : List Fld} (h : ckF l = 0) : okFs l:=by
 have : ∀ (r : List Fld) (i : Nat),ckFGo l i r = 0 -> ∀ f ∈ r,okFld f:=by
  intro r
  induction r with
  | nil => intro i _ f hf; cases hf
  | cons x r ih =>
   intro i h f hf
   rw [ckFGo] at h
   split at h
   ·cases h
   split at h
   ·cases h
   split at h
   ·cases h
   split at h
   ·cases h
   rename_i hp _
   rcases List.mem_cons.1 hf with rfl | hf
   ·simp only [placeB,Bool.not_eq_true',Bool.and_eq_false_iff,not_or,Bool.not_eq_false,decide_eq_true_eq] at hp
    unfold okFld
    omega
   ·exact ih _ h f hf
 unfold ckF at h
 split at h
 ·cases h
 ·exact this l 0 h
end Go.AI
