/- A row that a call has made becomes a list that nobody writes. -/
import Derived.Test.YtceafgmgdhcioaaGreatDoorMj
import Derived.Test.YtceafgmgdhcioaaGreatDoorMt
import Derived.Test.YtceafgmgdhcioaaGreatDoorMg
import Derived.Test.YtceafgmgdhcioaaGreatDoorMp
set_option linter.unusedSimpArgs false
set_option linter.unusedVariables false
namespace Go.AI
def rowV (es : List (List AV)) (v : AV) (H H' : Heap) : Prop :=
 (es = [] /\ (∃ w,v = .sl w []) /\ ∃ ext,H' = H ++ ext) \/ ∃ ob cs,v = .msl ob 0 es.length 10 /\ H.length <= ob /\ (∃ ext,H' = H ++ ext) /\ H'[ob]? = some (some cs) /\ (∃ r,cs = es.flatten ++ r)
section
variable {P : Program}
theorem CRel.borrowArgs {F : Nat -> Prop} {G : Gh} {w : World} {H : Heap} {vs : List AV} {us : List Value} (h : CRel F G vs H us w) : CRel F G (vs.map AV.borrow) H us w:=by
 obtain ⟨l1,t1⟩:=map_borrow_LRel (F:=F) (G:=G) (w:=w) (first:=vs) (fi:=us) h.l.len (fun i c v a b => h.l.rel i c v a b)
 exact ⟨l1,h.h,fun b => by
  rw [t1]
  have:=h.cnt b
  omega⟩
theorem ACall.weak {f : FuncId} {vs : List AV} {H : Heap} {R : AV -> Heap -> Prop} (h : ACall P f (vs.map AV.borrow) H R) : ACall P f vs H R:=⟨h.1,fun F G w us hc => h.2 F G w us hc.borrowArgs⟩
theorem PCall.weak {f : FuncId} {vs : List AV} {v : AV} (h : PCall P f (vs.map AV.borrow) v) : PCall P f vs v:=fun H => (h H).weak
end
end Go.AI
namespace Go.AI
open Go.Proofs
set_option maxRecDepth 50000
end Go.AI
namespace Go.AI
open Go.Proofs
set_option maxRecDepth 50000
def mCell (l : List Head) : Option (List AV):=some [.sl none (lHead l)]
end Go.AI
namespace Go.AI
open Go.Proofs
set_option maxRecDepth 50000
def cellsH (l : List Head) : List AV:=(l.map Head.c).flatten
end Go.AI
namespace Go.AI
open Go.Proofs
set_option maxRecDepth 50000
def MI (H : Heap) (fv : List AV) (out a b : List Head) (X : Heap) : Prop :=
 H.length + 4 <= X.length /\ X.take H.length = H /\ X[H.length + 1]? = some (mCell a) /\ X[H.length + 2]? = some (mCell b) /\ X[H.length + 3]? = some (some (loopc 0 fv)) /\
  ∃ ov,X[H.length]? = some (some [ov]) /\ ((out = [] /\ ov = .sl (some 0) []) \/ ∃ ob,ov = .msl ob 0 out.length 10 /\ out ≠ [] /\ H.length + 4 <= ob /\ X[ob]? = some (some (cellsH out)))
theorem get_grow {X : Heap} {i : Nat} {c : Option (List AV)} (h : X[i]? = some c) (z : Heap) : (X ++ z)[i]? = some c:=by
 rw [List.getElem?_append_left (List.getElem?_eq_some_iff.1 h).1]; exact h
theorem get_other {X : Heap} {i j : Nat} {c : Option (List AV)} (h : X[i]? = some c) (hne : j ≠ i) (v : Option (List AV)) : (X.set j v)[i]? = some c:=by
 rw [List.getElem?_set_ne hne]; exact h
theorem get_self {X : Heap} {i : Nat} (h : i < X.length) (v : Option (List AV)) : (X.set i v)[i]? = some v:=by
 rw [List.getElem?_set_self h]
theorem MI.grow {H : Heap} {fv : List AV} {out a b : List Head} {X : Heap} (h : MI H fv out a b X) (x : Option (List AV)) : MI H fv out a b (X ++ [x]):=by
 obtain ⟨h1,h2,h3,h4,h5,ov,h6,h7⟩:=h
 refine ⟨by simp; omega,by rw [List.take_append_of_le_length (by omega)]; exact h2,get_grow h3 _,get_grow h4 _,get_grow h5 _,ov,get_grow h6 _, ?_⟩
 rcases h7 with h7 | ⟨ob,g1,g2,g3,g4⟩
 ·exact .inl h7
 ·exact .inr ⟨ob,g1,g2,g3,get_grow g4 _⟩
theorem MI.put {H : Heap} {fv : List AV} {a b : List Head} {X : Heap} (h1 : H.length + 4 <= X.length) (h2 : X.take H.length = H) (h3 : X[H.length + 1]? = some (mCell a)) (h4 : X[H.length + 2]? = some (mCell b)) (z : Heap) {out : List Head} {ob : Nat} (hne : out ≠ []) (hob : H.length + 4 <= ob)
  (hr : ((X.set H.length (some [.msl ob 0 out.length 10])).set (H.length + 3) (some (loopc 0 fv)) ++ z)[ob]? = some (some (cellsH out))) : MI H fv out a b ((X.set H.length (some [.msl ob 0 out.length 10])).set (H.length + 3) (some (loopc 0 fv)) ++ z):=by
 refine ⟨by simp; omega, ?_,get_grow (get_other (get_other h3 (by omega) _) (by omega) _) _,get_grow (get_other (get_other h4 (by omega) _) (by omega) _) _,get_grow (get_self (by simp; omega) _) _,_,get_grow (get_other (get_self (by omega) _) (by omega) _) _,.inr ⟨ob,rfl,hne,hob,hr⟩⟩
 rw [List.take_append_of_le_length (by simp; omega),List.take_set_of_le (by omega),List.take_set_of_le (by omega)]
 exact h2
end Go.AI
namespace Go.AI
open Go.Proofs
set_option maxRecDepth 50000
def resA : Option (List Head) -> AV
 | some r => .tup [.sl none (lHead r),.bool true]
 | none => .tup [.sl none [],.bool false]
@[go_sem] theorem resA_pure (o : Option (List Head)) : (resA o).pure = true:=by
 cases o <;> simp [resA,AV.pure,pureL,go_sem]
end Go.AI
namespace Go.AI
open Go.Proofs
set_option maxRecDepth 50000
end Go.AI
namespace Go.AI
open Go.Proofs
set_option maxRecDepth 50000
def isW (l : List Fld) (t : Int) (ot ow ol o : Nat) (H : Heap) : Prop :=
 H[ot]? = some (some [.int .i64 t]) /\ H[ow]? = some (some [.ptr o 0]) /\ (∃ w,H[ol]? = some (some [.sl w (lFld l)])) /\
  H[o]? = some (some [.fn (.func 212) [] [.ptr ot 0,.ptr ow 0,.ptr ol 0],.fn (.func 217) [] [.ptr ow 0,.ptr ol 0]])
@[go_sem] theorem frzS_none (t : Tmp) (zs : List (Tmp × Option Nat × Bool)) (Q : Exit -> Kt) (e : Env) (H : Heap) : frzS none t zs Q e H = frzK zs Q e H:=Eq.trans rfl rfl
@[go_sem] theorem borrow0_msl (a b c k : Nat) : borrow0 (.msl a b c k) = .msl a b c k:=rfl
theorem ACall.res {P : Program} {f : FuncId} {vs : List AV} {H : Heap} {R : AV -> Heap -> Prop} (h : ACall P f vs H R) : ACall P f vs H fun v H' => ∃ v0,R v0 H' /\ v = v0.borrow :=
 ⟨h.1,fun F G w us hc => Calls.mono (h.2 F G w us hc) fun e w' he => by
  obtain ⟨u,rfl,v,H',G',h1,h2,h3⟩:=he
  exact ⟨u,rfl,v.borrow,H',G',⟨v,h1,rfl⟩,h2.borrowArgs,h3⟩⟩
section
variable {l : List Fld} {t : Int} {ot ow ol o : Nat}
theorem isW.grow {H : Heap} (h : isW l t ot ow ol o H) (z : Heap) : isW l t ot ow ol o (H ++ z) :=
 let ⟨h1,h2,⟨w,h3⟩,h4⟩:=h; ⟨get_grow h1 z,get_grow h2 z,⟨w,get_grow h3 z⟩,get_grow h4 z⟩
end
theorem rowV.base {es : List (List AV)} {v : AV} {B e X : Heap} (h : rowV es v (B ++ e) X) : rowV es v B X:=by
 rcases h with ⟨h1,h2,ext,rfl⟩ | ⟨ob,cs,h1,h2,⟨ext,rfl⟩,h4,h5⟩
 ·exact .inl ⟨h1,h2,e ++ ext,by rw [List.append_assoc]⟩
 ·exact .inr ⟨ob,cs,h1,by rw [List.length_append] at h2; omega,⟨e ++ ext,by rw [List.append_assoc]⟩,h4,h5⟩
theorem rowV.ext {es : List (List AV)} {v : AV} {B X : Heap} (h : rowV es v B X) : ∃ ext,X = B ++ ext:=by
 rcases h with ⟨_,_,h⟩ | ⟨_,_,_,_,h,_⟩ <;> exact h
end Go.AI
namespace Go.AI
open Go.Proofs
set_option maxRecDepth 50000
def resD : Option (List Head) -> Nat -> AV
 | some r,n => .tup [.sl none (lHead r),.int .i64 n,.bool true]
 | none,_ => .tup [.sl none [],.int .i64 0,.bool false]
end Go.AI
namespace Go.AI
open Go.Proofs
set_option maxRecDepth 50000
theorem q_0 (H : Heap) (a : Option (List AV)) (z : Heap) : (H ++ (a :: z))[H.length]? = some a:=by rw [List.getElem?_append_right (Nat.le_refl _),Nat.sub_self]; rfl
end Go.AI
namespace Go.AI
open Go.Proofs
set_option maxRecDepth 50000
@[go_sem] theorem resA_some (r : List Head) : resA (some r) = .tup [.sl none (lHead r),.bool true]:=rfl
@[go_sem] theorem resA_none : resA none = .tup [.sl none [],.bool false]:=rfl
@[go_sem] theorem resD_some (r : List Head) (n : Nat) : resD (some r) n = .tup [.sl none (lHead r),.int .i64 n,.bool true]:=rfl
@[go_sem] theorem resD_none (n : Nat) : resD none n = .tup [.sl none [],.int .i64 0,.bool false]:=rfl
end Go.AI
namespace Go.AI
open Go.Proofs
set_option maxRecDepth 50000
end Go.AI
namespace Go.AI
open Go.Proofs
set_option maxRecDepth 50000
theorem ckF_ok {l : List Fld} (h : ckF l = 0) : okFs l:=by
 have : ∀ (r : List Fld) (i : Nat),ckFGo l i r = 0 -> ∀ f ∈ r,okFld f:=by
  intro r
  induction r with
  | nil => intro i _ f hf; cases hf
  | cons x r ih =>
   intro i h f hf
   rw [ckFGo] at h
   split at h
   ·cases h
   split at h
   ·cases h
   split at h
   ·cases h
   split at h
   ·cases h
   rename_i hp _
   rcases List.mem_cons.1 hf with rfl | hf
   ·simp only [placeB,Bool.not_eq_true',Bool.and_eq_false_iff,not_or,Bool.not_eq_false,decide_eq_true_eq] at hp
    unfold okFld
    omega
   ·exact ih _ h f hf
 unfold ckF at h
 split at h
 ·cases h
 ·exact this l 0 h
end Go.AI
