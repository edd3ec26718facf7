/- Contract: checkPorts of the program. -/
import Derived.Test.YtceafgmgdhcioaaGreatDoorMp
import Derived.Test.YtceafgmgdhcioaaGreatDoorMe
import Derived.Test.YtceafgmgdhcioaaGreatDoorMg
import Derived.Test.YtceafgmgdhcioaaGreatDoorMf
set_option linter.unusedSimpArgs false
set_option linter.unusedVariables false
namespace Go.AI
open Go.Proofs
set_option maxRecDepth 50000
@[go_sem] theorem zmapIB : zeroAV Tryz.prog 83 = some .nilm:=by kernel_rfl
@[go_sem] theorem und_mapIB : Tryz.prog.underlying 83 = some (.map 3 4):=by kernel_rfl
end Go.AI
namespace Go.AI
open Go.Proofs
set_option maxRecDepth 50000
end Go.AI
namespace Go.AI
open Go.Proofs
set_option maxRecDepth 50000
abbrev iKey (n : Int) : AV:=.int .i64 n
theorem afind_get {k : AV} : ∀ {es : List (AV × AV)} {i j : Nat} {v : AV},afind k es i = some (j,v) -> i <= j /\ ∃ p,es[j - i]? = some p /\ keyEq p.1 k = true /\ p.2 = v
 | [],_,_,_,h => by cases h
 | p :: es,i,j,v,h => by
  rw [afind] at h
  by_cases hk : keyEq p.1 k = true
  ·rw [if_pos hk] at h
   cases h
   exact ⟨Nat.le_refl _,p,by simp,hk,rfl⟩
  ·rw [if_neg hk] at h
   obtain ⟨h1,q,h2,h3,h4⟩:=afind_get h
   refine ⟨by omega,q, ?_,h3,h4⟩
   have : j - i = (j - (i + 1)) + 1:=by omega
   rw [this]; simpa using h2
theorem keyEq_i (z n : Int) : keyEq (iKey z) (iKey n) = (z == n):=by
 rw [Bool.eq_iff_iff]; simp [keyEq,keyEq1]
theorem any_i (l : List Int) (n : Int) : (l.any fun y => keyEq (iKey y) (iKey n)) = l.any fun z => z == n:=by
 simp only [keyEq_i]
theorem upd_setI (l : List Int) (n : Int) : mapUpd (setE iKey l) (iKey n) (.bool true) = setE iKey (if l.any (fun z => z == n) then l else l ++ [n]):=by
 by_cases h : (l.any fun z => z == n) = true
 ·rw [if_pos h]
  have h2:=afind_set iKey (iKey n) l 0
  rw [any_i,if_pos h] at h2
  unfold mapUpd
  cases ha : afind (iKey n) (setE iKey l) 0 with
  | none => rw [ha] at h2; cases h2
  | some q =>
   obtain ⟨j,v⟩:=q
   obtain ⟨_,p,hp,hk,hv⟩:=afind_get ha
   dsimp only
   rw [Nat.sub_zero] at hp
   have hp2:=hp
   rw [setE,List.getElem?_map] at hp2
   cases hl : l[j]? with
   | none => rw [hl] at hp2; cases hp2
   | some z =>
    rw [hl] at hp2
    cases hp2
    rw [keyEq_i] at hk
    have hz : z = n:=by simpa using hk
    subst hz
    apply List.ext_getElem?
    intro m
    rw [List.getElem?_set]
    split
    ·rename_i hjm
     subst hjm
     rw [hp]
     have:=(List.getElem?_eq_some_iff.1 hp).1
     rw [if_pos this]
    ·rfl
 ·rw [if_neg h]
  exact upd_set iKey n l (by rw [any_i]; exact (Bool.not_eq_true _).mp h)
end Go.AI
namespace Go.AI
open Go.Proofs
set_option maxRecDepth 50000
theorem updK_setI {P : Program} {K : Kt} {e : Env} {H : Heap} {t kt et : TypeId} {o : Nat} (l : List Int) (n : Int) (hu : P.underlying t = some (.map kt et)) (hm : H[o]? = some (some (mapc (setE iKey l)))) (hk : keysIn P kt (iKey n :: l.map iKey)) (hd : distL iKey l)
  (h : K e (H.set o (some (mapc (setE iKey (if l.any (fun z => z == n) then l else l ++ [n])))))) : updK P t (.mapr o) (iKey n) (.bool true) K e H:=by
 unfold updK
 dsimp only
 rw [hu]
 dsimp only
 rw [mapOf_at hm]
 dsimp only
 refine ⟨by rw [set_keys]; exact hk,dist_set iKey hd,rfl, ?_⟩
 rw [upd_setI]; exact h
theorem dist_add {l : List Int} (n : Int) (hd : distL iKey l) : distL iKey (if l.any (fun z => z == n) then l else l ++ [n]):=by
 split
 ·exact hd
 ·rename_i h
  exact distL_snoc iKey n hd (by rw [any_i]; exact (Bool.not_eq_true _).mp h)
end Go.AI
namespace Go.AI
open Go.Proofs
set_option maxRecDepth 50000
end Go.AI
namespace Go.AI
structure VE where
 v : Variable
 b : Bool
def vNew (l : List Fld) (s : Stp) : Variable:=⟨s.var,famS s.kind,widS l s.key,if numS s then s.n else 0,if numS s then s.m else 0⟩
def vFind (E : List VE) (nm : ByteArray) : Option VE:=E.find? fun e => decide (e.v.name = nm)
def vUpd : List VE -> VE -> List VE
 | [],x => [x]
 | e :: E,x => if e.v.name = x.v.name then x :: E else e :: vUpd E x
def vBad (l : List Fld) (e : VE) (s : Stp) : Bool:=e.v.family != famS s.kind || (!eqI e.v.widths (widS l s.key) || (numS s && (e.b && (e.v.n != s.n || e.v.m != s.m))))
def vStep (l : List Fld) (E : List VE) (s : Stp) : Option (List VE) :=
 if s.kind = 0 then some E else match vFind E s.var with
  | none => some (vUpd E ⟨vNew l s,numS s⟩)
  | some e => if vBad l e s then none else if numS s then some (vUpd E ⟨vNew l s,true⟩) else some E
theorem vFind_upd (x : VE) (nm : ByteArray) : ∀ E : List VE,vFind (vUpd E x) nm = if x.v.name = nm then some x else vFind E nm
 | [] => by
  unfold vUpd vFind
  by_cases h : x.v.name = nm <;> simp [h]
 | e :: E => by
  have ih:=vFind_upd x nm E
  unfold vUpd
  by_cases h : e.v.name = x.v.name
  ·rw [if_pos h]
   unfold vFind
   by_cases h2 : x.v.name = nm
   ·simp [h2]
   ·simp [h2,h]
  ·rw [if_neg h]
   unfold vFind at ih ⊢
   rw [List.find?_cons,List.find?_cons]
   by_cases h2 : e.v.name = nm
   ·have : ¬ x.v.name = nm:=fun h3 => h (h2.trans h3.symm)
    simp [h2,this]
   ·simp only [h2,decide_false]
    exact ih
structure VInv (l : List Fld) (E : List VE) (p : List Stage) : Prop where
 src : ∀ nm e,vFind E nm = some e -> ∃ x ∈ p,x.step.kind ≠ 0 /\ x.step.var = nm
 fits : ∀ x ∈ p,x.step.kind ≠ 0 -> ∃ e,vFind E x.step.var = some e /\ e.v.family = famS x.step.kind /\ e.v.widths = widS l x.step.key /\ (numS x.step = true -> e.b = true /\ e.v.n = x.step.n /\ e.v.m = x.step.m)
 num : ∀ nm e,vFind E nm = some e -> e.b = true -> ∃ x ∈ p,x.step.kind ≠ 0 /\ x.step.var = nm /\ numS x.step = true
theorem VInv.nil (l : List Fld) : VInv l [] []:=⟨fun _ _ h => (by cases h),fun _ h => (by cases h),fun _ _ h => (by cases h)⟩
theorem VInv.step {l : List Fld} {E : List VE} {p : List Stage} (h : VInv l E p) {x : Stage} {E' : List VE} (hs : vStep l E x.step = some E') : VInv l E' (p ++ [x]):=by
 unfold vStep at hs
 split at hs
 ·rename_i hk
  cases hs
  exact ⟨fun nm e he => by obtain ⟨y,hy,h1⟩:=h.src nm e he; exact ⟨y,by simp [hy],h1⟩,
   fun y hy hk2 => by
    rcases List.mem_append.1 hy with hy | hy
    ·exact h.fits y hy hk2
    ·rw [List.mem_singleton.1 hy] at hk2; exact absurd hk hk2,
   fun nm e he hb => by obtain ⟨y,hy,h1⟩:=h.num nm e he hb; exact ⟨y,by simp [hy],h1⟩⟩
 ·rename_i hk
  split at hs
  ·rename_i hf
   cases hs
   refine ⟨fun nm e he => ?_,fun y hy hk2 => ?_,fun nm e he hb => ?_⟩
   ·rw [vFind_upd] at he
    split at he
    ·rename_i hn
     exact ⟨x,by simp,hk,hn⟩
    ·obtain ⟨y,hy,h1⟩:=h.src nm e he; exact ⟨y,by simp [hy],h1⟩
   ·rw [vFind_upd]
    rcases List.mem_append.1 hy with hy | hy
    ·obtain ⟨e,he,h1⟩:=h.fits y hy hk2
     have hne : ¬ (vNew l x.step).name = y.step.var:=fun hn => by
      have hn : x.step.var = y.step.var:=hn
      rw [<- hn,hf] at he; cases he
     exact ⟨e,by rw [if_neg hne]; exact he,h1⟩
    ·rcases List.mem_singleton.1 hy with rfl
     refine ⟨_,if_pos rfl,rfl,rfl,fun hn => ⟨hn, ?_, ?_⟩⟩
     ·simp [vNew,hn]
     ·simp [vNew,hn]
   ·rw [vFind_upd] at he
    split at he
    ·rename_i hn
     cases he
     exact ⟨x,by simp,hk,hn,hb⟩
    ·obtain ⟨y,hy,h1⟩:=h.num nm e he hb; exact ⟨y,by simp [hy],h1⟩
  ·rename_i e0 hf
   split at hs
   ·cases hs
   ·rename_i hb0
    have hb0 : vBad l e0 x.step = false:=by simpa using hb0
    unfold vBad at hb0
    rw [Bool.or_eq_false_iff,Bool.or_eq_false_iff] at hb0
    obtain ⟨b1,b2,b3⟩:=hb0
    have b1 : e0.v.family = famS x.step.kind:=by simpa using b1
    have b2 : e0.v.widths = widS l x.step.key:=by simpa [eqI] using b2
    split at hs
    ·rename_i hnum
     cases hs
     refine ⟨fun nm e he => ?_,fun y hy hk2 => ?_,fun nm e he hb => ?_⟩
     ·rw [vFind_upd] at he
      split at he
      ·rename_i hn
       exact ⟨x,by simp,hk,hn⟩
      ·obtain ⟨y,hy,h1⟩:=h.src nm e he; exact ⟨y,by simp [hy],h1⟩
     ·rw [vFind_upd]
      rcases List.mem_append.1 hy with hy | hy
      ·obtain ⟨e,he,h1,h2,h3⟩:=h.fits y hy hk2
       by_cases hn : (vNew l x.step).name = y.step.var
       ·have hn2 : x.step.var = y.step.var:=hn
        rw [<- hn2,hf] at he
        cases he
        refine ⟨_,if_pos hn, ?_, ?_,fun hny => ?_⟩
        ·show famS x.step.kind = _
         rw [<- b1,h1]
        ·show widS l x.step.key = _
         rw [<- b2,h2]
        ·obtain ⟨g1,g2,g3⟩:=h3 hny
         rw [hnum,g1,g2,g3] at b3
         simp only [Bool.true_and,Bool.or_eq_false_iff,bne_eq_false_iff_eq] at b3
         refine ⟨rfl, ?_, ?_⟩
         ·simp [vNew,hnum,b3.1]
         ·simp [vNew,hnum,b3.2]
       ·exact ⟨e,by rw [if_neg hn]; exact he,h1,h2,h3⟩
      ·rcases List.mem_singleton.1 hy with rfl
       refine ⟨_,if_pos rfl,rfl,rfl,fun hn => ⟨rfl, ?_, ?_⟩⟩
       ·simp [vNew,hn]
       ·simp [vNew,hn]
     ·rw [vFind_upd] at he
      split at he
      ·rename_i hn
       exact ⟨x,by simp,hk,hn,hnum⟩
      ·obtain ⟨y,hy,h1⟩:=h.num nm e he hb; exact ⟨y,by simp [hy],h1⟩
    ·rename_i hnum
     cases hs
     refine ⟨fun nm e he => ?_,fun y hy hk2 => ?_,fun nm e he hb => ?_⟩
     ·obtain ⟨y,hy,h1⟩:=h.src nm e he; exact ⟨y,by simp [hy],h1⟩
     ·rcases List.mem_append.1 hy with hy | hy
      ·exact h.fits y hy hk2
      ·rcases List.mem_singleton.1 hy with rfl
       exact ⟨e0,hf,b1,b2,fun hn => absurd hn hnum⟩
     ·obtain ⟨y,hy,h1⟩:=h.num nm e he hb; exact ⟨y,by simp [hy],h1⟩
end Go.AI
namespace Go.AI
theorem fitGo_all (l : List Fld) : ∀ r : List Pred,fitGo l r = 0 ↔ ∀ x ∈ r,fitP l x = 0
 | [] => by simp [fitGo]
 | x :: r => by
  rw [fitGo]
  by_cases h : fitP l x = 0
  ·rw [if_pos h,fitGo_all l r]; simp [h]
  ·rw [if_neg h]; simp [h]
def goodP (l : List Fld) (x : Pred) : Prop:=fmP x = true /\ ∀ y ∈ ptsP x,fitP l y = 0
end Go.AI
namespace Go.AI
def cmpI : List Int -> List Int -> Int
 | [],[] => 0
 | [],_ :: _ => -1
 | _ :: _,[] => 1
 | x :: a,y :: b => if x < y then -1 else if y < x then 1 else cmpI a b
def cmpH (a b : Head) : Int:=cmpI a.l b.l
def putH (h : Head) : List Head -> List Head
 | [] => [h]
 | x :: r => if cmpH x h < 0 then x :: putH h r else if x = h then x :: r else h :: x :: r
def mergeH (a b : List Head) : List Head:=b.foldl (fun o x => putH x o) a
def imgGo (f : Head -> Option (List Head)) : List Head -> List Head -> Option (List Head)
 | o,[] => some o
 | o,x :: r => match f x with
  | none => none
  | some a => if 256 < (mergeH o a).length then none else imgGo f (mergeH o a) r
def newH (o n : List Head) : List Head:=n.filter fun x => !o.any fun y => decide (y = x)
def cloGo (f : Head -> Option (List Head)) : Nat -> List Head -> List Head -> Option (List Head)
 | 0,_,_ => none
 | k + 1,o,n => if n = [] then some o else match imgGo f [] n with
  | none => none
  | some m => if 256 < (mergeH o (newH o m)).length then none else cloGo f k (mergeH o (newH o m)) (newH o m)
end Go.AI
namespace Go.AI
def wordAt (h : Head) (k : Nat) : Int:=(h.l[k]?).getD 0
def setW (h : Head) (k : Nat) (v : Int) : Head :=
 ⟨if k = 0 then v else h.h0,if k = 1 then v else h.h1,if k = 2 then v else h.h2,if k = 3 then v else h.h3,if k = 4 then v else h.h4,if k = 5 then v else h.h5,if k = 6 then v else h.h6,if k = 7 then v else h.h7,if k = 8 then v else h.h8,if k = 9 then v else h.h9⟩
def okFld (f : Fld) : Prop:=1 <= f.width /\ f.width <= 16 /\ 0 <= f.at_ /\ f.at_ <= 143 /\ f.at_ % 16 + f.width <= 16
def fK (f : Fld) : Nat:=(f.at_ / 16).toNat
def fS (f : Fld) : Nat:=(16 - f.at_ % 16 - f.width).toNat
def fW (f : Fld) : Nat:=f.width.toNat
def getN (f : Fld) (h : Head) : Nat:=(wordAt h (fK f)).toNat / 2 ^ fS f % 2 ^ fW f
def setN (f : Fld) (h : Head) (n : Nat) : Head:=setW h (fK f) ((((wordAt h (fK f)).toNat ^^^ ((wordAt h (fK f)).toNat &&& ((2 ^ fW f - 1) <<< fS f))) ||| (n <<< fS f) : Nat) : Int)
end Go.AI
namespace Go.AI
end Go.AI
namespace Go.AI
open Go.Proofs
set_option maxRecDepth 50000
def andI (x y : Int) : Int:=IntKind.i64.wrap (BitVec.ofInt 64 x &&& BitVec.ofInt 64 y).toNat
def orI (x y : Int) : Int:=IntKind.i64.wrap (BitVec.ofInt 64 x ||| BitVec.ofInt 64 y).toNat
def xorI (x y : Int) : Int:=IntKind.i64.wrap (BitVec.ofInt 64 x ^^^ BitVec.ofInt 64 y).toNat
def clrI (x y : Int) : Int:=IntKind.i64.wrap (BitVec.ofInt 64 x &&& ~~~ BitVec.ofInt 64 y).toNat
section
variable {P : Program} {t : TypeId} {k : IntKind} {x y : Int} {d : Tmp} {K : Kt} {e : Env} {H : Heap}
@[go_sem] theorem binK_andK : binK P .and t (.int .i64 x) (.int .i64 y) d K e H = K ((d,.int .i64 (andI x y)) :: e) H:=by
 rw [binK_int]; exact propext ⟨fun h => h.2,fun h => ⟨rfl,h⟩⟩
@[go_sem] theorem binK_orK : binK P .or t (.int .i64 x) (.int .i64 y) d K e H = K ((d,.int .i64 (orI x y)) :: e) H:=by
 rw [binK_int]; exact propext ⟨fun h => h.2,fun h => ⟨rfl,h⟩⟩
@[go_sem] theorem binK_xorK : binK P .xor t (.int .i64 x) (.int .i64 y) d K e H = K ((d,.int .i64 (xorI x y)) :: e) H:=by
 rw [binK_int]; exact propext ⟨fun h => h.2,fun h => ⟨rfl,h⟩⟩
@[go_sem] theorem binK_clrK : binK P .andNot t (.int .i64 x) (.int .i64 y) d K e H = K ((d,.int .i64 (clrI x y)) :: e) H:=by
 rw [binK_int]; exact propext ⟨fun h => h.2,fun h => ⟨rfl,h⟩⟩
@[go_sem] theorem binK_shrK : binK P .shr t (.int .i64 x) (.int k y) d K e H = (0 <= y /\ K ((d,.int .i64 (x.fdiv (2 ^ (min y.toNat 64)))) :: e) H):=by
 rw [binK_int]; rfl
end
end Go.AI
namespace Go.AI
open Go.Proofs
set_option maxRecDepth 50000
end Go.AI
namespace Go.AI
open Go.Proofs
set_option maxRecDepth 50000
end Go.AI
namespace Go.AI
def fnth (fs : List (Head -> Bool)) (k : Nat) (h : Head) : Bool:=((fs[k]?).map fun f => f h).getD false
def onth (fs : List (Head -> Option (List Head))) (k : Nat) (h : Head) : Option (List Head):=((fs[k]?).map fun f => f h).getD none
def stepP (l : List Fld) (t k : Int) (f : ByteArray) (n m : Int) (fs : List (Head -> Bool)) (h : Head) : Bool :=
 if k = 1 then true else if k = 2 then false else if k = 9 then decide (n <= t) && decide (t < m)
 else if k = 6 then !fnth fs 0 h else if k = 7 then fnth fs 0 h && fnth fs 1 h else if k = 8 then fnth fs 0 h || fnth fs 1 h
 else if k = 3 then decide ((getN (findF l f).1 h : Int) = n)
 else if k = 4 then decide (getN (findF l f).1 h / 2 ^ (fW (findF l f).1 - m.toNat) = n.toNat / 2 ^ (fW (findF l f).1 - m.toNat))
 else decide (n <= getN (findF l f).1 h) && decide ((getN (findF l f).1 h : Int) <= m)
mutual
def hP (l : List Fld) (t : Int) : Pred -> Head -> Bool
 | ⟨k,f,n,m,xs⟩ => stepP l t k f n m (hPs l t xs)
def hPs (l : List Fld) (t : Int) : List Pred -> List (Head -> Bool)
 | [] => []
 | x :: r => hP l t x :: hPs l t r
end
def bndO (r : List Head) : Option (List Head):=if 256 < r.length then none else some r
def stepO (l : List Fld) (t k : Int) (p : Pred) (f : ByteArray) (n : Int) (fs : List (Head -> Option (List Head))) (h : Head) : Option (List Head) :=
 if k = 1 then some (if hP l t p h then [h] else [])
 else if k = 2 then some [setN (findF l f).1 h n.toNat]
 else if k = 3 then match onth fs 0 h,onth fs 1 h with
  | some a,some b => bndO (mergeH a b)
  | _,_ => none
 else if k = 4 then match onth fs 0 h with
  | some a => imgGo (onth fs 1) [] a
  | none => none
 else cloGo (onth fs 0) 300 [h] [h]
mutual
def vO (l : List Fld) (t : Int) : Policy -> Head -> Option (List Head)
 | ⟨k,p,f,n,xs⟩ => stepO l t k p f n (vOs l t xs)
def vOs (l : List Fld) (t : Int) : List Policy -> List (Head -> Option (List Head))
 | [] => []
 | x :: r => vO l t x :: vOs l t r
end
def okFs (l : List Fld) : Prop:=∀ f ∈ l,okFld f
end Go.AI
namespace Go.AI
open Go.Proofs
set_option maxRecDepth 50000
end Go.AI
namespace Go.AI
end Go.AI
namespace Go.AI
open Go.Proofs
set_option maxRecDepth 50000
end Go.AI
namespace Go.AI
open Go.Proofs
set_option maxRecDepth 50000
def resO : Option (List Head) -> AV
 | some r => .tup [.sl none (lHead r),.int .i64 0]
 | none => .tup [.sl none [],.int .i64 2]
@[go_sem] theorem resO_pure (o : Option (List Head)) : (resO o).pure = true:=by
 cases o <;> simp [resO,AV.pure,pureL,go_sem]
@[go_sem] theorem resO_some (r : List Head) : resO (some r) = .tup [.sl none (lHead r),.int .i64 0]:=rfl
@[go_sem] theorem resO_none : resO none = .tup [.sl none [],.int .i64 2]:=rfl
end Go.AI
namespace Go.AI
open Go.Proofs
set_option maxRecDepth 50000
end Go.AI
namespace Go.AI
end Go.AI
namespace Go.AI
open Go.Proofs
set_option maxRecDepth 50000
end Go.AI
namespace Go.AI
open Go.Proofs
set_option maxRecDepth 50000
end Go.AI
namespace Go.AI
end Go.AI
namespace Go.AI
inductive RchH (f : Head -> Option (List Head)) (x : Head) : Head -> Prop
 | refl : RchH f x x
 | step {y z : Head} {b : List Head} : RchH f x y -> f y = some b -> z ∈ b -> RchH f x z
theorem RchH.trans {f : Head -> Option (List Head)} {x y z : Head} (h1 : RchH f x y) (h2 : RchH f y z) : RchH f x z:=by
 induction h2 with
 | refl => exact h1
 | step _ h3 h4 ih => exact ih.step h3 h4
theorem RchH.closed {f : Head -> Option (List Head)} {S : Head -> Prop} (hS : ∀ x,S x -> ∀ b,f x = some b -> ∀ z ∈ b,S z) {x z : Head} (hx : S x) (h : RchH f x z) : S z:=by
 induction h with
 | refl => exact hx
 | step _ h3 h4 ih => exact hS _ ih _ h3 _ h4
end Go.AI
