/- Rows of equal elements as cells: an element's cells read, written, and the row as a list again. -/
import Derived.Test.YtnfnohbfgiijdaaQd
set_option linter.unusedSimpArgs false
set_option linter.unusedVariables false
namespace Go.AI

theorem pure_borrow1 (c : AV) : (borrow1 c).pure = c.pure := by cases c <;> rfl

theorem pureL_borrow1 (cs : List AV) : pureL (cs.map borrow1) = pureL cs := by
  induction cs with
  | nil => rfl
  | cons c cs ih => simp [pureL, pure_borrow1, ih]

theorem pure_borrow0 (a : AV) : (borrow0 a).pure = a.pure := by
  cases a <;> first | rfl | exact pureL_borrow1 _

theorem pure_borrow (a : AV) : a.borrow.pure = a.pure := by
  cases a with
  | tup vs =>
    show pureL (vs.map borrow0) = pureL vs
    induction vs with
    | nil => rfl
    | cons c cs ih => simp [pureL, pure_borrow0, ih]
  | agg cs => exact pureL_borrow1 _
  | _ => rfl

/-- A contract whose result is lent. -/
theorem PCall.ofB {P : Program} {f : FuncId} {fn : Func} {c : Code} {vs : List AV} {v : AV} (h : Hint) (hm : P.follows .mixedOrders = true) (hd : fn.body.any (drawsOk h) = true) (hf : P.funcs[f]? = some fn) (hb : fn.body = some c) (hcal : callable P f = true)
    (hn : vs.length ≤ fn.ntmps) (hp : pureL vs = true) (hv : v.pure = true) (ha : awp P fn.ntmps h c (QRet P fn.ntmps fn.results fun v' _ => v'.borrow = v) (argsFrom 0 vs) []) : PCall P f vs v := fun H =>
  ⟨hcal, fun F G w us hc => Calls.mono (calls_of_awp (.inr rfl) hm hd hf hb hn ha (hc.hide (pureL_mem hp))) fun e w' he => by
    obtain ⟨u, rfl, v', H2, G', rfl, hcr, hext⟩ := he
    obtain ⟨h1, h2⟩ := hc.unhide (by rw [pure_borrow] at hv; exact hv) hcr hext
    exact ⟨u, rfl, _, H, _, ⟨rfl, rfl⟩, by simpa using h1.lend, h2⟩⟩

@[go_sem] theorem borrow0_agg (cs : List AV) : borrow0 (.agg cs) = .agg (cs.map borrow1) := rfl
@[go_sem] theorem borrow0_int (k : IntKind) (n : Int) : borrow0 (.int k n) = .int k n := rfl
@[go_sem] theorem borrow0_bool (b : Bool) : borrow0 (.bool b) = .bool b := rfl
@[go_sem] theorem borrow0_str (b : ByteArray) : borrow0 (.str b) = .str b := rfl
@[go_sem] theorem borrow0_nilp : borrow0 .nilp = .nilp := rfl
@[go_sem] theorem borrow0_ptr (a b : Nat) : borrow0 (.ptr a b) = .ptr a b := rfl
@[go_sem] theorem borrow0_sl (o : Option Nat) (es : List AV) : borrow0 (.sl o es) = .sl none es := rfl

@[go_sem] theorem spliceN_cons (c x : AV) (cs xs : List AV) : spliceN (c :: cs) (x :: xs) = x :: spliceN cs xs := by
  simp [spliceN, splice]
@[go_sem] theorem spliceN_nil (cs : List AV) : spliceN cs [] = cs := by simp [spliceN, splice]

@[go_sem] theorem scalar_sl (o : Option Nat) (es : List AV) : (AV.sl o es).scalar = true := rfl
@[go_sem] theorem scalar_int (k : IntKind) (n : Int) : (AV.int k n).scalar = true := rfl
@[go_sem] theorem scalar_agg (es : List AV) : (AV.agg es).scalar = false := rfl

/-! ## Garbage -/

def closedL (n : Nat) : Heap → Bool
  | [] => true
  | some cs :: r => bndL n cs && closedL n r
  | none :: r => closedL n r
theorem closedL_eq (n : Nat) (H : Heap) : closedL n H = H.all fun o => match o with
  | some cs => bndL n cs
  | none => true := by
  induction H with
  | nil => rfl
  | cons o r ih => cases o <;> simp [closedL, ih]
@[go_sem] theorem closedB_L (H : Heap) : closedB H = closedL H.length H := (closedL_eq _ _).symm
@[go_sem] theorem closedL_nil (n : Nat) : closedL n [] = true := rfl
@[go_sem] theorem closedL_some (n : Nat) (cs : List AV) (r : Heap) : closedL n (some cs :: r) = (bndL n cs && closedL n r) := rfl
@[go_sem] theorem closedL_none (n : Nat) (r : Heap) : closedL n (none :: r) = closedL n r := rfl
@[go_sem] theorem bndL_nil' (k : Nat) : bndL k [] = true := rfl
@[go_sem] theorem bndL_cons' (k : Nat) (v : AV) (vs : List AV) : bndL k (v :: vs) = (v.bnd k && bndL k vs) := rfl
@[go_sem] theorem bnd_ptr (k a b : Nat) : (AV.ptr a b).bnd k = decide (a < k) := rfl
@[go_sem] theorem bnd_msl (k a b c d : Nat) : (AV.msl a b c d).bnd k = decide (a < k) := rfl
@[go_sem] theorem bnd_int (k : Nat) (i : IntKind) (n : Int) : (AV.int i n).bnd k = true := rfl
@[go_sem] theorem bnd_bool (k : Nat) (b : Bool) : (AV.bool b).bnd k = true := rfl
@[go_sem] theorem bnd_str (k : Nat) (b : ByteArray) : (AV.str b).bnd k = true := rfl
@[go_sem] theorem bnd_nilp (k : Nat) : AV.nilp.bnd k = true := rfl
@[go_sem] theorem bnd_nilf (k : Nat) : AV.nilf.bnd k = true := rfl
@[go_sem] theorem bnd_undef (k : Nat) : AV.undef.bnd k = true := rfl
@[go_sem] theorem bnd_sl (k : Nat) (o : Option Nat) (es : List AV) : (AV.sl o es).bnd k = bndL k es := rfl
@[go_sem] theorem bnd_agg (k : Nat) (es : List AV) : (AV.agg es).bnd k = bndL k es := rfl
@[go_sem] theorem bnd_tup (k : Nat) (es : List AV) : (AV.tup es).bnd k = bndL k es := rfl
@[go_sem] theorem bnd_cptr (k : Nat) (es : List AV) (o : Nat) : (AV.cptr es o).bnd k = bndL k es := rfl

def frzS (r : Option (AV × Heap)) (t : Tmp) (zs : List (Tmp × Option Nat × Bool)) (Q : Exit → Kt) (e : Env) (H : Heap) : Prop :=
  match r with
  | some (v, H') => frzK zs Q ((t, v) :: e) H'
  | none => frzK zs Q e H

@[go_sem] theorem frzK_S (t : Tmp) (ag : Bool) (zs : List (Tmp × Option Nat × Bool)) (Q : Exit → Kt) (e : Env) (H : Heap) : frzK ((t, none, ag) :: zs) Q e H = frzS (frzSlot ag (look e t) H) t zs Q e H := by
  rw [frzK_cons]
  unfold frz1 frzS
  dsimp only
  cases frzSlot ag (look e t) H with
  | none => rfl
  | some p => rfl
@[go_sem] theorem frzS_some (v : AV) (H' : Heap) (t : Tmp) (zs : List (Tmp × Option Nat × Bool)) (Q : Exit → Kt) (e : Env) (H : Heap) : frzS (some (v, H')) t zs Q e H = frzK zs Q ((t, v) :: e) H' := rfl
@[go_sem] theorem cat_nil' : cat [] = [] := rfl

section
variable {α : Type} {f : α → List AV} {n : Nat}

theorem len_flat (hf : ∀ x, (f x).length = n) (l : List α) : (l.flatMap f).length = l.length * n := by
  induction l with
  | nil => simp
  | cons x xs ih => simp [hf, ih, Nat.add_mul]; omega

theorem drop_flat (hf : ∀ x, (f x).length = n) (l : List α) (k : Nat) : (l.flatMap f).drop (k * n) = (l.drop k).flatMap f := by
  induction l generalizing k with
  | nil => simp
  | cons x xs ih =>
    cases k with
    | zero => simp
    | succ k =>
      rw [List.flatMap_cons, Nat.add_mul, Nat.one_mul, Nat.add_comm, ← List.drop_drop, List.drop_left' (hf x), ih, List.drop_succ_cons]

theorem take_flat (hf : ∀ x, (f x).length = n) (l : List α) (k : Nat) : (l.flatMap f).take (k * n) = (l.take k).flatMap f := by
  induction l generalizing k with
  | nil => simp
  | cons x xs ih =>
    cases k with
    | zero => simp
    | succ k =>
      rw [List.flatMap_cons, List.take_succ_cons, List.flatMap_cons, Nat.add_mul, Nat.one_mul, Nat.add_comm, List.take_add, List.take_left' (hf x), List.drop_left' (hf x), ih]

theorem drop_at {l : List α} {k : Nat} {x : α} (hx : l[k]? = some x) : l.drop k = x :: l.drop (k + 1) := by
  obtain ⟨h, rfl⟩ := List.getElem?_eq_some_iff.1 hx
  exact List.drop_eq_getElem_cons h

theorem drop_flat_at (hf : ∀ x, (f x).length = n) {l : List α} {k : Nat} {x : α} (hx : l[k]? = some x) {o : Nat} (ho : o ≤ n) : (l.flatMap f).drop (k * n + o) = (f x).drop o ++ (l.drop (k + 1)).flatMap f := by
  rw [← List.drop_drop, drop_flat hf, drop_at hx, List.flatMap_cons, List.drop_append_of_le_length (by rw [hf]; exact ho)]

theorem get_flat (hf : ∀ x, (f x).length = n) {l : List α} {k : Nat} {x : α} (hx : l[k]? = some x) {o : Nat} (ho : o < n) : (l.flatMap f)[k * n + o]? = (f x)[o]? := by
  have h1 := drop_flat_at hf hx (Nat.le_of_lt ho)
  have h2 : (l.flatMap f)[k * n + o]? = ((l.flatMap f).drop (k * n + o))[0]? := by rw [List.getElem?_drop]; rfl
  rw [h2, h1, List.getElem?_append_left (by simp [hf]; omega), List.getElem?_drop]; rfl

theorem part_flat (hf : ∀ x, (f x).length = n) {l : List α} {k : Nat} {x : α} (hx : l[k]? = some x) {o m : Nat} (ho : o + m ≤ n) : ((l.flatMap f).drop (k * n + o)).take m = ((f x).drop o).take m := by
  rw [drop_flat_at hf hx (by omega), List.take_append_of_le_length (by simp [hf]; omega)]

theorem room_flat (hf : ∀ x, (f x).length = n) {l : List α} {k : Nat} (hk : k < l.length) {o m : Nat} (ho : o + m ≤ n) : k * n + o + m ≤ (l.flatMap f).length := by
  rw [len_flat hf]
  have := Nat.mul_le_mul_right n (show k + 1 ≤ l.length from hk)
  rw [Nat.add_mul] at this
  omega

/-- A part of one element is written. -/
theorem put_flat (hf : ∀ x, (f x).length = n) {l : List α} {k : Nat} {x y : α} (hx : l[k]? = some x) {o : Nat} {v : List AV} (ho : o + v.length ≤ n) (hy : splice (f x) o v = f y) : splice (l.flatMap f) (k * n + o) v = (l.set k y).flatMap f := by
  have hlt := (List.getElem?_eq_some_iff.1 hx).1
  have e1 : (l.flatMap f).take (k * n + o) = (l.take k).flatMap f ++ (f x).take o := by
    rw [List.take_add, take_flat hf, drop_flat hf, drop_at hx, List.flatMap_cons, List.take_append_of_le_length (by rw [hf]; omega)]
  have e2 : (l.flatMap f).drop (k * n + o + v.length) = (f x).drop (o + v.length) ++ (l.drop (k + 1)).flatMap f := by
    rw [Nat.add_assoc]; exact drop_flat_at hf hx ho
  rw [List.set_eq_take_append_cons_drop, if_pos hlt, List.flatMap_append, List.flatMap_cons, ← hy]
  unfold splice
  rw [e1, e2]
  simp

theorem chunk_flat (hf : ∀ x, (f x).length = n) (l : List α) : chunk true n l.length (l.flatMap f) = l.map fun x => .agg (f x) := by
  induction l with
  | nil => rfl
  | cons x xs ih =>
    simp only [List.length_cons, chunk, List.flatMap_cons, if_true, List.take_left' (hf x), List.drop_left' (hf x), ih, List.map_cons]

theorem chunk_ones (cs : List AV) : chunk false 1 cs.length cs = cs := by
  induction cs with
  | nil => rfl
  | cons x xs ih => simp [chunk, ih]

theorem put_flat0 (hf : ∀ x, (f x).length = n) {l : List α} {k : Nat} (hk : k < l.length) (y : α) : splice (l.flatMap f) (k * n) (f y) = (l.set k y).flatMap f := by
  have := put_flat hf (List.getElem?_eq_getElem hk) (o := 0) (v := f y) (by rw [hf]; omega) (splice_full (by rw [hf, hf]))
  simpa using this

theorem chunk_len (hf : ∀ x, (f x).length = n) {l : List α} {m : Nat} (hm : m = l.length) : chunk true n m (l.flatMap f) = l.map fun x => .agg (f x) := by
  subst hm; exact chunk_flat hf l

end
end Go.AI
