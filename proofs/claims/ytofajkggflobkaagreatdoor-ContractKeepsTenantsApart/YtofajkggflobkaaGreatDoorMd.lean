/- The abstract walk as rewriting: the small laws of lists, numbers and truth that the walk leans on. -/
import Derived.Test.YtofajkggflobkaaGreatDoorAizc
set_option linter.unusedSimpArgs false
set_option linter.unusedVariables false
namespace Go.AI
attribute [go_sem] Option.getD_some Option.getD_none true_and and_true false_and and_false
 decide_true decide_false List.any_cons List.any_nil Bool.or_false Bool.or_true Bool.true_or Bool.false_or Bool.and_true Bool.true_and Bool.and_false Bool.false_and Bool.not_true Bool.not_false
 List.contains_cons List.contains_nil cond_true cond_false List.nil_append List.length_nil List.length_cons List.map_cons List.map_nil Bool.or_self Bool.and_self List.getElem?_toArray List.getElem?_cons_succ List.getElem?_cons_zero
 Option.bind_some Option.bind_none Option.map_some Option.map_none Option.some.injEq List.set_cons_zero List.set_cons_succ List.cons_append List.append_assoc Option.any_some Option.any_none
 List.append_nil Int.toNat_natCast List.take_succ_cons List.take_zero List.drop_succ_cons List.drop_zero List.flatMap_cons List.flatMap_nil beq_iff_eq bne_iff_ne ne_eq not_true_eq_false not_false_eq_true
 List.getElem?_nil Option.isSome_some Option.isSome_none Option.toList_some Option.toList_none if_true if_false Bool.false_eq_true Nat.zero_add Nat.add_zero
 Nat.mul_zero Nat.mul_one Nat.one_mul Nat.zero_mul argsFrom
def ldk (P : Program) (t : TypeId) : Option (Option Nat) :=
 match P.underlying t with
 | some (.struct _) => some (some (P.cellsOf t))
 | some (.array _ _) => some (some (P.cellsOf t))
 | some _ => some none
 | none => none
def ldx (k : Option (Option Nat)) (cs : List AV) (off : Nat) : Option AV :=
 match k with
 | some (some n) => if off + n <= cs.length then some (.agg ((cs.drop off).take n)) else none
 | some none => cs[off]?
 | none => none
def fplace (P : Program) (s f : Nat) : Option (TypeId × Nat):=(fieldAt P s f).map fun fd => (fd.type,fd.offset)
def fpAddr (P : Program) (fp : Option (TypeId × Nat)) (x : AV) : Option AV :=
 match fp with
 | some (t,o) => if 0 < P.cellsOf t then vOff x o else none
 | none => none
def fpPart (P : Program) (fp : Option (TypeId × Nat)) (x : AV) : Option AV :=
 match fp,x with
 | some (t,o),.agg cs => ldx (ldk P t) cs o
 | _,_ => none
inductive BK where
 | none
 | struct (ps : List (Nat × Nat))
 | array (c : Nat)
def bkind (P : Program) (t : TypeId) : BK :=
 match P.underlying t with
 | some (.struct fs) => if fieldsOk P fs = true then .struct (fieldPlaces P fs).toList else .none
 | some (.array _ e) => if (P.info? e).isSome = true then .array (P.cellsOf e) else .none
 | _ => .none
def vb (k : BK) (z : Option AV) (is : List Nat) (vs : List AV) : Option AV :=
 match k,z with
 | .struct ps,some (.agg z) => (fillAV (fun i => ps[i]?) z is vs).map .agg
 | .array c,some (.agg z) => (fillAV (fun i => some (i * c,c)) z is vs).map .agg
 | _,_ => Option.none
section
variable {P : Program}
@[go_sem] theorem ldv_eq (t : TypeId) (cs : List AV) (off : Nat) : ldv P t cs off = ldx (ldk P t) cs off:=by
 unfold ldv ldx ldk
 cases P.underlying t with
 | none => rfl
 | some d => cases d <;> rfl
@[go_sem] theorem ldx_one (cs : List AV) (off : Nat) : ldx (some none) cs off = cs[off]?:=rfl
@[go_sem] theorem ldx_many (n : Nat) (cs : List AV) (off : Nat) : ldx (some (some n)) cs off = if off + n <= cs.length then some (.agg ((cs.drop off).take n)) else none:=rfl
@[go_sem] theorem vField_eq (s f : Nat) (x : AV) : vField P (fieldAt P s f) x = fpAddr P (fplace P s f) x:=by
 unfold vField fpAddr fplace
 cases fieldAt P s f <;> rfl
@[go_sem] theorem fpAddr_some (t o : Nat) (x : AV) : fpAddr P (some (t,o)) x = if 0 < P.cellsOf t then vOff x o else none:=rfl
@[go_sem] theorem vPart_eq (s f : Nat) (x : AV) : vPart P (fieldAt P s f) x = fpPart P (fplace P s f) x:=by
 unfold vPart fpPart fplace
 cases fieldAt P s f with
 | none => rfl
 | some fd => cases x <;> first | rfl | exact ldv_eq _ _ _
@[go_sem] theorem fpPart_some (t o : Nat) (cs : List AV) : fpPart P (some (t,o)) (.agg cs) = ldx (ldk P t) cs o:=rfl
@[go_sem] theorem vOff_ptr (a b k : Nat) : vOff (.ptr a b) k = some (.ptr a (b + k)):=rfl
@[go_sem] theorem vOff_cptr (cs : List AV) (b k : Nat) : vOff (.cptr cs b) k = some (.cptr cs (b + k)):=rfl
@[go_sem] theorem vBuild_eq (t : TypeId) (is : List Nat) (vs : List AV) : vBuild P t is vs = vb (bkind P t) (zeroAV P t) is vs:=by
 unfold vBuild bkind
 cases P.underlying t with
 | none => rfl
 | some d => cases d with
  | struct fs =>
   dsimp only
   by_cases hf : fieldsOk P fs = true
   ·rw [if_pos hf,if_pos hf]
    cases zeroAV P t with
    | none => rfl
    | some z => cases z <;> first | rfl | (dsimp only [vb]; simp only [Array.getElem?_toList])
   ·rw [if_neg hf,if_neg hf]; rfl
  | array m e =>
   dsimp only
   by_cases hf : (P.info? e).isSome = true
   ·rw [if_pos hf,if_pos hf]
    cases zeroAV P t with
    | none => rfl
    | some z => cases z <;> rfl
   ·rw [if_neg hf,if_neg hf]; rfl
  | _ => rfl
@[go_sem] theorem vb_struct (ps : List (Nat × Nat)) (z : List AV) (is : List Nat) (vs : List AV) : vb (.struct ps) (some (.agg z)) is vs = (fillAV (fun i => ps[i]?) z is vs).map .agg:=rfl
@[go_sem] theorem vb_array (c : Nat) (z : List AV) (is : List Nat) (vs : List AV) : vb (.array c) (some (.agg z)) is vs = (fillAV (fun i => some (i * c,c)) z is vs).map .agg:=rfl
@[go_sem] theorem fillAV_nil (place : Nat -> Option (Nat × Nat)) (cells : List AV) : fillAV place cells [] [] = some cells:=rfl
@[go_sem] theorem fillAV_cons (place : Nat -> Option (Nat × Nat)) (cells : List AV) (i : Nat) (is : List Nat) (v : AV) (vs : List AV) : fillAV place cells (i :: is) (v :: vs) = match place i with
  | some (off,size) => if v.isVal = true /\ v.cells.length = size /\ off + size <= cells.length then fillAV place (splice cells off v.cells) is vs else none
  | none => none:=rfl
@[go_sem] theorem splice_succ (a : AV) (cs : List AV) (o : Nat) (xs : List AV) : splice (a :: cs) (o + 1) xs = a :: splice cs o xs:=by
 unfold splice
 rw [Nat.add_right_comm,List.take_succ_cons,List.drop_succ_cons]
 rfl
theorem splice_full {cs xs : List AV} (h : cs.length = xs.length) : splice cs 0 xs = xs:=by
 unfold splice
 rw [Nat.zero_add,<- h,List.drop_length]
 simp
def spliceN (cs xs : List AV) : List AV:=splice cs 0 xs
@[go_sem] theorem splice_zero {cs xs : List AV} : splice cs 0 xs = if cs.length = xs.length then xs else spliceN cs xs:=by
 by_cases h : cs.length = xs.length
 ·rw [if_pos h,splice_full h]
 ·rw [if_neg h]; rfl
@[go_sem] theorem vLoad_ptr {P : Program} {H : Heap} (tk : Bool) (t : TypeId) (ob off : Nat) : vLoad P tk t (.ptr ob off) H = match H[ob]? with
  | some (some cs) => match ldv P t cs off with
   | some v => match tk with
    | true => if v.owned = true /\ v.scalar = true then some (v,H.set ob (some (splice cs off (v.cells.map borrow1)))) else none
    | false => some (v.borrow,H)
   | none => none
  | _ => none:=rfl
@[go_sem] theorem vLoad_cptr {P : Program} {H : Heap} (tk : Bool) (t : TypeId) (cs : List AV) (off : Nat) : vLoad P tk t (.cptr cs off) H = match ldv P t cs off with
  | some v => some (v.borrow,H)
  | none => none:=rfl
@[go_sem] theorem vStore_ptr {P : Program} {H : Heap} (t : TypeId) (ob off : Nat) (v : AV) : vStore P t (.ptr ob off) v H = match H[ob]? with
  | some (some cs) => if v.isVal = true /\ v.cells.length = P.cellsOf t /\ 0 < P.cellsOf t /\ off + P.cellsOf t <= cs.length then some (H.set ob (some (splice cs off v.cells))) else none
  | _ => none:=rfl
attribute [go_sem] stK vNil vPick vExtract vLen vUn vIndexAddr vIndex bounds3 convK mkK vRead appK lstK sliceK aslice apslice callK
end
end Go.AI
namespace Go.AI
section
variable {P : Program} {F : Nat -> Prop} {G : Gh} {w : World}
theorem ACall.gc {f : FuncId} {vs : List AV} {H : Heap} {R : AV -> Heap -> Prop} (hn : ∀ v H1,R v H1 -> H.length <= H1.length)
  (h : ACall P f vs H fun v H' => ∃ H1 junk,H' = H1 ++ junk /\ v.bnd H1.length = true /\ closedH H1 /\ R v H1) : ACall P f vs H R :=
 ⟨h.1,fun F G w us hc => Calls.mono (h.2 F G w us hc) fun e w' he => by
  obtain ⟨u,rfl,v,H',G',⟨H1,junk,rfl,h1,h2,h3⟩,hcr,hext⟩:=he
  refine ⟨u,rfl,v,H1,G'.cut H1.length,h3,hcr.cut h1 h2,hext.size,⟨fun o b ho => ?_,hext.keeps.shape,hext.keeps.sp,hext.keeps.safe⟩,hext.kind,hext.cells,hext.io⟩
  have hlt : o < H.length:=by rw [<- hc.h.len]; exact (List.getElem?_eq_some_iff.1 ho).1
  have:=hn v H1 h3
  show (G'.obs.take H1.length)[o]? = some b
  rw [List.getElem?_take_of_lt (by omega)]
  exact hext.keeps.obs o b ho⟩
theorem CRel.lend {vs : List AV} {H : Heap} {us : List Value} (h : CRel F G vs H us w) : CRel F G (vs.map AV.borrow) H us w:=by
 refine ⟨⟨by simpa using h.l.len,fun i a u h1 h2 => ?_,fun i a u h1 h2 => ?_⟩,h.h,fun b => ?_⟩
 ·rw [List.getElem?_map] at h1
  cases hi : vs[i]? with
  | none => rw [hi] at h1; cases h1
  | some x => rw [hi] at h1; cases h1; exact (h.l.rel i x u hi h2).borrow
 ·rw [List.getElem?_map] at h1
  cases hi : vs[i]? with
  | none => rw [hi] at h1; cases h1
  | some x => rw [hi] at h1; cases h1; exact tok_nil_all (toks_borrow _ _) F G w
 ·have h0 : tcnt b (vs.map AV.borrow) us = 0:=by
   have : ∀ (l : List AV) (us : List Value),tcnt b (l.map AV.borrow) us = 0:=by
    intro l
    induction l with
    | nil => intro us; exact tcnt_nil b us
    | cons x xs ih =>
     intro us
     cases us with
     | nil => simp [tcnt]
     | cons u us => rw [List.map_cons,tcnt_cons,toks_borrow,ih]; rfl
   exact this vs us
  have:=h.cnt b
  omega
theorem ACall.lend {f : FuncId} {vs : List AV} {H : Heap} {R : AV -> Heap -> Prop} (h : ACall P f (vs.map AV.borrow) H R) : ACall P f vs H R :=
 ⟨h.1,fun F G w us hc => h.2 F G w us hc.lend⟩
theorem QCall.lend {f : FuncId} {vs : List AV} {Q : AV -> Prop} (h : QCall P f (vs.map AV.borrow) Q) : QCall P f vs Q:=fun H => (h H).lend
theorem PCall.lend {f : FuncId} {vs : List AV} {v : AV} (h : PCall P f (vs.map AV.borrow) v) : PCall P f vs v:=fun H => (h H).lend
end
end Go.AI
