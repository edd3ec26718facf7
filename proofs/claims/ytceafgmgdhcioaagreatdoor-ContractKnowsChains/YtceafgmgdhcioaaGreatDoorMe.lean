/- The abstract walk as a program that computes: operations. -/
import Derived.Test.YtceafgmgdhcioaaGreatDoorAizg
import Derived.Test.YtceafgmgdhcioaaGreatDoorMj
import Derived.Test.YtceafgmgdhcioaaGreatDoorProg
import Derived.KernelRfl
import Derived.Below
import Derived.Shelf.SlIterI.Nil
import Derived.Shelf.SortM.Plain
import Derived.Shelf.SortM.SortNone
import Derived.Ground.GgzProg
import Derived.Ground.SlgmProg
set_option linter.unusedSimpArgs false
set_option linter.unusedVariables false
namespace Go.AI
open Go.MapKept
def abinF (op : BinOp) (a b : AV) : Option AV :=
 match a,b with
 | .int k x,.int k' y =>
  match op with
  | .shl => if 0 <= y then some (.int k (k.wrap (x * 2 ^ (min y.toNat k.bits)))) else none
  | .shr => if 0 <= y then some (.int k (x.fdiv (2 ^ (min y.toNat k.bits)))) else none
  | .add => if k = k' then some (.int k (k.wrap (x + y))) else none
  | .sub => if k = k' then some (.int k (k.wrap (x - y))) else none
  | .mul => if k = k' then some (.int k (k.wrap (x * y))) else none
  | .quo => if k = k' /\ y ≠ 0 then some (.int k (k.wrap (x.tdiv y))) else none
  | .rem => if k = k' /\ y ≠ 0 then some (.int k (x.tmod y)) else none
  | .and => if k = k' then some (.int k (k.wrap (BitVec.ofInt k.bits x &&& BitVec.ofInt k.bits y).toNat)) else none
  | .or => if k = k' then some (.int k (k.wrap (BitVec.ofInt k.bits x ||| BitVec.ofInt k.bits y).toNat)) else none
  | .xor => if k = k' then some (.int k (k.wrap (BitVec.ofInt k.bits x ^^^ BitVec.ofInt k.bits y).toNat)) else none
  | .andNot => if k = k' then some (.int k (k.wrap (BitVec.ofInt k.bits x &&& ~~~ BitVec.ofInt k.bits y).toNat)) else none
  | .eql => if k = k' then some (.bool (x == y)) else none
  | .neq => if k = k' then some (.bool (x != y)) else none
  | .lss => if k = k' then some (.bool (decide (x < y))) else none
  | .leq => if k = k' then some (.bool (decide (x <= y))) else none
  | .gtr => if k = k' then some (.bool (decide (x > y))) else none
  | .geq => if k = k' then some (.bool (decide (x ≥ y))) else none
 | .str x,.str y =>
  match op with
  | .add => if x.size + y.size <= 9223372036854775807 then some (.str (x ++ y)) else none
  | .eql => some (.bool (x.data.toList == y.data.toList))
  | .neq => some (.bool !(x.data.toList == y.data.toList))
  | .lss => some (.bool (Op.bytesLess x.data.toList y.data.toList))
  | .leq => some (.bool (Op.bytesLess x.data.toList y.data.toList || x.data.toList == y.data.toList))
  | .gtr => some (.bool !(Op.bytesLess x.data.toList y.data.toList || x.data.toList == y.data.toList))
  | .geq => some (.bool !(Op.bytesLess x.data.toList y.data.toList))
  | _ => none
 | _,_ => none
theorem oif {α : Type} {c : Prop} [Decidable c] {x : Option α} {v : α} (h : (if c then x else none) = some v) : c /\ x = some v:=by
 split at h
 ·rename_i hc; exact ⟨hc,h⟩
 ·cases h
theorem abinF_ok {op : BinOp} {a b v : AV} {R : AV -> Prop} (h : abinF op a b = some v) (hr : R v) : abin op a b R:=by
 unfold abinF at h
 unfold abin
 split at h
 ·cases op <;> obtain ⟨h1,h2⟩:=oif h <;> cases h2 <;> first | exact ⟨h1,hr⟩ | exact ⟨h1.1,h1.2,hr⟩
 ·simp only [ByteArray.toList_eq]
  cases op <;> first | (cases h; done) | (obtain ⟨h1,h2⟩:=oif h; cases h2; exact ⟨h1,hr⟩) | (cases h; exact hr)
 ·cases h
def abinopF (P : Program) (op : BinOp) (t : TypeId) (a b : AV) : Option AV :=
 match op,aeql P t a b with
 | .eql,some r => some (.bool r)
 | .neq,some r => some (.bool !r)
 | _,_ => abinF op a b
theorem abinopF_ok {P : Program} {op : BinOp} {t : TypeId} {a b v : AV} {R : AV -> Prop} (h : abinopF P op t a b = some v) (hr : R v) : abinop P op t a b R:=by
 unfold abinopF at h
 unfold abinop
 generalize aeql P t a b = q at h ⊢
 cases q with
 | none => cases op <;> exact abinF_ok h hr
 | some r => cases op <;> first | exact abinF_ok h hr | (cases h; exact hr)
def nilcmpF (P : Program) (op : BinOp) (t : TypeId) (a : AV) : Option AV :=
 match P.underlying t with
 | some (.slice _) => match op,a with
  | .eql,.sl _ (_ :: _) => some (.bool false)
  | .neq,.sl _ (_ :: _) => some (.bool true)
  | .eql,.msl _ _ _ _ => some (.bool false)
  | .neq,.msl _ _ _ _ => some (.bool true)
  | _,_ => none
 | _ => none
theorem nilcmpF_ok {P : Program} {op : BinOp} {t : TypeId} {a v : AV} {R : AV -> Prop} (h : nilcmpF P op t a = some v) (hr : R v) : nilcmp P op t a R:=by
 unfold nilcmpF at h
 unfold nilcmp
 split at h
 ·rename_i e he
  simp only [he]
  split at h <;> cases h <;> exact hr
 ·cases h
def asliceF (P : Program) (t : TypeId) (x : AV) (lo hi mx : Option Int) : Option AV :=
 match P.underlying t,x with
 | some .string,.str s =>
  if mx = none /\ 0 <= lo.getD 0 /\ lo.getD 0 <= hi.getD s.size /\ hi.getD s.size <= s.size then some (.str (s.extract (lo.getD 0).toNat (hi.getD s.size).toNat)) else none
 | some (.slice e),.sl own es =>
  if 0 <= lo.getD 0 /\ lo.getD 0 <= hi.getD es.length /\ hi.getD es.length <= es.length /\ es.all (fun x => x.cells.length == P.cellsOf e) = true /\ (P.info? e).isSome = true then
   match mx with
   | none => some (.sl (if hi.getD es.length = es.length then own else none) ((es.take (hi.getD es.length).toNat).drop (lo.getD 0).toNat))
   | some m => if m = hi.getD es.length /\ 0 < P.cellsOf e then some (.sl (some (P.cellsOf e)) ((es.take (hi.getD es.length).toNat).drop (lo.getD 0).toNat)) else none
  else none
 | some (.slice e),.msl ob off len sz =>
  if 0 <= lo.getD 0 /\ lo.getD 0 <= hi.getD len /\ hi.getD len <= len /\ sz = P.cellsOf e /\ (P.info? e).isSome = true /\ mx = none /\ (lo.getD 0 = 0 \/ lo.getD 0 < len) then
   some (.msl ob (off + (lo.getD 0).toNat * sz) ((hi.getD len).toNat - (lo.getD 0).toNat) sz) else none
 | some (.pointer ta),.cptr cs off => if lo = none /\ hi = none /\ mx = none then
   match P.underlying ta with
   | some (.array n e) => if P.cellsOf e = 1 /\ off + n <= cs.length /\ n <= 9223372036854775807 then some (.sl none ((cs.drop off).take n)) else none
   | _ => none
  else none
 | some (.array n e),.cptr cs off => if (lo = none /\ hi = none /\ mx = none) /\ P.cellsOf e = 1 /\ off + n <= cs.length /\ n <= 9223372036854775807 then some (.sl none ((cs.drop off).take n)) else none
 | _,_ => none
def apsliceF (P : Program) (t : TypeId) (x : AV) (lo hi mx : Option Int) (H : Heap) : Option AV :=
 match P.underlying t,x with
 | some (.array n e),.ptr o off => match H[o]? with
  | some (some cs) => if (lo = none /\ hi = none /\ mx = none) /\ n <= 9223372036854775807 /\ (P.info? e).isSome = true /\ off + n * P.cellsOf e <= cs.length then some (.msl o off n (P.cellsOf e)) else none
  | _ => none
 | some (.slice e),.sl _ _ => if (lo = none /\ hi = some 0 /\ mx = some 0) /\ (P.info? e).isSome = true then some (.sl (some 0) []) else none
 | _,_ => none
theorem apsliceF_ok {P : Program} {t : TypeId} {x v : AV} {lo hi mx : Option Int} {H : Heap} {R : AV -> Prop} (h : apsliceF P t x lo hi mx H = some v) (hr : R v) : apslice P t x lo hi mx H R:=by
 unfold apsliceF at h
 unfold apslice
 split at h
 ·rename_i hu
  split at h
  ·rename_i cs ho
   obtain ⟨h1,h2⟩:=oif h
   cases h2
   simp only [hu,ho]
   exact ⟨h1.1,h1.2.1,h1.2.2.1,h1.2.2.2,hr⟩
  ·cases h
 ·rename_i hu
  obtain ⟨h1,h2⟩:=oif h
  cases h2
  simp only [hu]
  exact ⟨h1.1,h1.2,hr⟩
 ·cases h
theorem all_len {es : List AV} {k : Nat} (h : es.all (fun x => x.cells.length == k) = true) : ∀ x ∈ es,x.cells.length = k:=fun x hx => by
 have:=List.all_eq_true.1 h x hx
 simpa using this
theorem asliceF_ok {P : Program} {t : TypeId} {x v : AV} {lo hi mx : Option Int} {R : AV -> Prop} (h : asliceF P t x lo hi mx = some v) (hr : R v) : aslice P t x lo hi mx R:=by
 unfold asliceF at h
 unfold aslice
 split at h
 ·rename_i hu
  simp only [hu]
  obtain ⟨h1,h2⟩:=oif h
  cases h2
  exact ⟨h1.1,h1.2.1,h1.2.2.1,h1.2.2.2,hr⟩
 ·rename_i hu
  simp only [hu]
  obtain ⟨⟨h1,h2,h3,h4,h5⟩,h⟩:=oif h
  refine ⟨h1,h2,h3,all_len h4,h5, ?_⟩
  split at h
  ·cases h; exact hr
  ·obtain ⟨h6,h⟩:=oif h
   cases h; exact ⟨h6.1,h6.2,hr⟩
 ·rename_i hu
  simp only [hu]
  obtain ⟨h1,h⟩:=oif h
  cases h
  exact ⟨h1,hr⟩
 ·rename_i hu
  simp only [hu]
  obtain ⟨⟨h1,h2,h3⟩,h⟩:=oif h
  refine ⟨h1,h2,h3, ?_⟩
  split at h
  ·rename_i ha
   simp only [ha]
   obtain ⟨⟨g1,g2,g3⟩,h⟩:=oif h
   cases h; exact ⟨g1,g2,g3,hr⟩
  ·cases h
 ·rename_i hu
  simp only [hu]
  obtain ⟨h1,h⟩:=oif h
  cases h
  exact ⟨h1.1,h1.2.1,h1.2.2.1,h1.2.2.2,hr⟩
 ·cases h
def lent1 : AV -> Bool
 | .sl (some _) _ => false
 | _ => true
theorem lent1_ok {cs : List AV} (h : cs.all lent1 = true) : cs.map borrow1 = cs:=by
 induction cs with
 | nil => rfl
 | cons c cs ih =>
  simp only [List.all_cons,Bool.and_eq_true] at h
  rw [List.map_cons,ih h.2]
  congr 1
  have h1:=h.1
  cases c <;> try rfl
  rename_i w es
  cases w
  ·rfl
  ·simp [lent1] at h1
def aappendF (P : Program) (e : TypeId) (mt ln : Bool) (H : Heap) (a : AV) (xs : List AV) : Option (AV × Heap) :=
 if xs.all (fun x => x.cells.length == P.cellsOf e) = true then
  match mt,a with
  | false,.sl own es => if own = some (P.cellsOf e) /\ (es.length + xs.length) * P.bytesOf e <= 140737488355328 /\ es.length + xs.length <= 9223372036854775807 then some (.sl (bif ln then none else some (P.cellsOf e)) (es ++ xs),H) else none
  | true,.msl ob off len sz => match H[ob]? with
   | some (some cs) => if off = 0 /\ cs.length = len * sz /\ cs.all lent1 = true /\ sz = P.cellsOf e /\ (len + xs.length) * P.bytesOf e <= 140737488355328 /\ len + xs.length <= 9223372036854775807 then
     some (.msl H.length 0 (len + xs.length) (P.cellsOf e),H.set ob none ++ [some (cs ++ (cat xs).map borrow1)]) else none
   | _ => none
  | true,.sl (some 0) [] => if 0 < xs.length /\ xs.length * P.bytesOf e <= 140737488355328 /\ xs.length <= 9223372036854775807 then some (.msl H.length 0 xs.length (P.cellsOf e),H ++ [some ((cat xs).map borrow1)]) else none
  | _,_ => none
 else none
theorem aappendF_ok {P : Program} {e : TypeId} {mt ln : Bool} {H : Heap} {a : AV} {xs : List AV} {v : AV} {H' : Heap} {R : AV -> Heap -> Prop} (h : aappendF P e mt ln H a xs = some (v,H')) (hr : R v H') : aappend P e mt ln H a xs R:=by
 unfold aappendF at h
 unfold aappend
 obtain ⟨h0,h⟩:=oif h
 refine ⟨all_len h0, ?_⟩
 split at h
 ·obtain ⟨⟨h1,h2,h3⟩,h⟩:=oif h
  cases h
  exact ⟨h1,h2,h3,hr⟩
 ·split at h
  ·rename_i hob
   obtain ⟨⟨h1,h2,h3,h4,h5,h6⟩,h⟩:=oif h
   cases h
   refine ⟨h1,h4,h5,h6, ?_⟩
   simp only [hob]
   exact ⟨h2,lent1_ok h3,hr⟩
  ·cases h
 ·obtain ⟨⟨h1,h2,h3⟩,h⟩:=oif h
  cases h
  exact ⟨h1,h2,h3,hr⟩
 ·cases h
def isIntK (k : IntKind) : AV -> Bool
 | .int k' _ => decide (k' = k)
 | _ => false
def isStrA : AV -> Bool
 | .str _ => true
 | _ => false
def keysF (P : Program) (wk : List TypeId) (kt : TypeId) (ks : List AV) : Bool :=
 match P.underlying kt with
 | some (.int k) => ks.all (isIntK k)
 | some .string => ks.all isStrA
 | some _ => wk.contains kt && ks.all fun a => match keyV a with
  | some v => (keyOf P kt v).isSome
  | none => false
 | none => false
def WideOk (P : Program) (wk : List TypeId) : Prop:=∀ kt ∈ wk,WideMaps.KeyLaw P kt
theorem keysF_ok {P : Program} {wk : List TypeId} {kt : TypeId} {ks : List AV} (hw : WideOk P wk) (h : keysF P wk kt ks = true) : keysIn P kt ks:=by
 unfold keysF at h
 split at h
 ·rename_i k hk
  refine ⟨_,KLaw.plain hk,fun a ha => ?_⟩
  have:=List.all_eq_true.1 h a ha
  cases a <;> first | cases this | skip
  rename_i k' n
  exact ⟨_,rfl,(by simpa [isIntK] using this : k' = k)⟩
 ·rename_i hk
  refine ⟨_,KLaw.plain hk,fun a ha => ?_⟩
  have:=List.all_eq_true.1 h a ha
  cases a <;> first | cases this | skip
  exact ⟨_,rfl,trivial⟩
 ·simp only [Bool.and_eq_true] at h
  refine ⟨_,KLaw.wide (hw kt (by simpa using h.1)),fun a ha => ?_⟩
  have:=List.all_eq_true.1 h.2 a ha
  split at this
  ·rename_i v hv
   exact ⟨v,hv,Option.isSome_iff_exists.1 this⟩
  ·cases this
 ·cases h
def distF (es : List (AV × AV)) : Bool:=match es with
 | [] => true
 | p :: es => es.all (fun q => !keyEq p.1 q.1) && distF es
theorem distF_ok {es : List (AV × AV)} (h : distF es = true) : distK es:=by
 induction es with
 | nil => exact List.Pairwise.nil
 | cons p es ih =>
  simp only [distF,Bool.and_eq_true] at h
  exact List.Pairwise.cons (fun q hq => by simpa using List.all_eq_true.1 h.1 q hq) (ih h.2)
def arangeF (P : Program) (t : TypeId) (H : Heap) (x : AV) : Option (AV × Heap) :=
 match P.underlying t,x with
 | some .string,.str s => some (.it H.length,H ++ [some (iterS s 0)])
 | some (.map _ _),.nilm => some (.it H.length,H ++ [some [.nilm]])
 | some (.map _ _),.mapr o' => match mapOf H (.mapr o') with
  | some es => some (.it H.length,H ++ [some (iterM o' es.length [])])
  | none => none
 | _,_ => none
theorem arangeF_ok {P : Program} {t : TypeId} {H : Heap} {x v : AV} {H' : Heap} {R : AV -> Heap -> Prop} (h : arangeF P t H x = some (v,H')) (hr : R v H') : arange P t H x R:=by
 unfold arangeF at h
 unfold arange
 split at h
 ·rename_i hu; simp only [hu]; cases h; exact hr
 ·rename_i hu; simp only [hu]; cases h; exact hr
 ·rename_i hu
  simp only [hu]
  split at h
  ·rename_i es he
   simp only [he]; cases h; exact hr
  ·cases h
 ·cases h
def unseen (n : Nat) (seen : List AV) : List Nat:=(List.range n).filter fun i => !(seenOf seen).contains (i : Int)
def anextF (str : Bool) (H : Heap) (o' : Nat) : Option (AV × Heap) :=
 match str,H[o']? with
 | true,some (some [.str s,.int .i64 pos]) =>
  if pos.toNat < s.size then some (.tup [.bool true,.int .i64 pos.toNat,.int .i32 (Utf8.decode s pos.toNat).1],H.set o' (some (iterS s ((pos.toNat + (Utf8.decode s pos.toNat).2 : Nat) : Int))))
  else some (.tup [.bool false],H)
 | false,some (some [.nilm]) => some (.tup [.bool false],H)
 | false,some (some [.mapr m,.int .i64 since,.tup seen]) => match mapOf H (.mapr m) with
  | some es => if since = es.length then match unseen es.length seen with
   | [] => some (.tup [.bool false],H)
   | [i] => match es[i]? with
    | some p => some (.tup [.bool true,p.1.borrow,p.2.borrow],H.set o' (some [.mapr m,.int .i64 since,.tup (seen ++ [.int .i64 i])]))
    | none => none
   | _ => none
   else none
  | none => none
 | _,_ => none
theorem mem_unseen {n : Nat} {seen : List AV} {i : Nat} : i ∈ unseen n seen ↔ i < n /\ (i : Int) ∉ seenOf seen:=by
 simp [unseen,List.mem_filter]
theorem anextF_ok {str : Bool} {H : Heap} {o' : Nat} {v : AV} {H' : Heap} {R : AV -> Heap -> Prop} (h : anextF str H o' = some (v,H')) (hr : R v H') : anext str H o' R:=by
 unfold anextF at h
 unfold anext
 split at h
 ·rename_i ho
  simp only [ho]
  split at h
  ·rename_i hc; rw [if_pos hc]; cases h; exact hr
  ·rename_i hc; rw [if_neg hc]; cases h; exact hr
 ·rename_i ho; simp only [ho]; cases h; exact hr
 ·rename_i m since seen ho
  simp only [ho]
  split at h
  ·rename_i es he
   simp only [he]
   obtain ⟨hs,h⟩:=oif h
   refine ⟨hs, ?_⟩
   split at h
   ·rename_i hun
    cases h
    refine ⟨fun _ => hr,fun i p hp hns => ?_⟩
    have : i ∈ unseen es.length seen:=mem_unseen.2 ⟨(List.getElem?_eq_some_iff.1 hp).1,hns⟩
    rw [hun] at this; cases this
   ·rename_i i hun
    have hi : i ∈ unseen es.length seen:=by rw [hun]; exact List.mem_singleton.2 rfl
    obtain ⟨hi1,hi2⟩:=mem_unseen.1 hi
    split at h
    ·rename_i p hp
     cases h
     refine ⟨fun hall => absurd (hall i hi1) hi2,fun j q hq hns => ?_⟩
     have : j ∈ unseen es.length seen:=mem_unseen.2 ⟨(List.getElem?_eq_some_iff.1 hq).1,hns⟩
     rw [hun] at this
     obtain rfl:=List.mem_singleton.1 this
     rw [hp] at hq; cases hq
     exact hr
    ·cases h
   ·cases h
  ·cases h
 ·cases h
def aentryF (H : Heap) (o' : Nat) : Option (AV × Heap) :=
 match H[o']? with
 | some (some [.mapr m,.int .i64 since,.tup seen]) => match mapOf H (.mapr m),seen.getLast? with
  | some es,some (.int .i64 i) => if since = es.length then match es[i.toNat]? with
   | some p => some (.tup [p.1.borrow,p.2.borrow],H)
   | none => none
   else none
  | _,_ => none
 | _ => none
theorem aentryF_ok {H : Heap} {o' : Nat} {v : AV} {H' : Heap} {R : AV -> Heap -> Prop} (h : aentryF H o' = some (v,H')) (hr : R v H') : aentry H o' R:=by
 unfold aentryF at h
 unfold aentry
 split at h
 ·rename_i m since seen ho
  simp only [ho]
  split at h
  ·rename_i es i he hl
   simp only [he,hl]
   obtain ⟨hs,h⟩:=oif h
   refine ⟨hs, ?_⟩
   split at h
   ·rename_i p hp
    cases h
    exact ⟨p,hp,hr⟩
   ·cases h
  ·cases h
 ·cases h
def aresF (P : Program) (wk : List TypeId) (h : Hint) (o : Oper) (vals : List AV) (H : Heap) : Option (AV × Heap) :=
 match o.op,vals with
 | .move _,[a] => some (a,H)
 | .assign _,[a] => some (a,H)
 | .pick _ _ _,[.bool c,a,b] => some (if c = true then a else b,H)
 | .box _ _,[a] => if a.isVal = true then some (.ptr H.length 0,H ++ [some a.cells]) else none
 | .alloc e,[] => match o.dst.any h.mt.contains,zeroAV P e with
  | false,some z => some (.ptr H.length 0,H ++ [some z.cells])
  | _,_ => none
 | .build t ps,vs => (vBuild P t (ps.toList.map (·.1)) vs).map fun v => (v,H)
 | .buildSlice t len ps,vs =>
  match P.underlying t with
  | some (.slice e) => if 0 < P.cellsOf e /\ len * P.cellsOf e <= 16777216 /\ ps.toList.map (·.1) = List.range len /\ vs.all (fun v => v.isVal && v.cells.length == P.cellsOf e) = true /\ zeroOk P e = true then
    match o.dst.any h.mt.contains with
    | true => some (.msl H.length 0 len (P.cellsOf e),H ++ [some (cat (vs.map AV.borrow))])
    | false => some (.sl (some (P.cellsOf e)) (vs.map AV.borrow),H)
   else none
  | _ => none
 | .makeSlice t _ _,[.int _ n,.int _ c] =>
  match P.underlying t with
  | some (.slice e) => if n = c /\ 0 <= n /\ n * P.bytesOf e <= 140737488355328 /\ n <= 9223372036854775807 /\ (P.info? e).isSome = true then
    match zeroAV P e with
    | some z => if z.cells.length = P.cellsOf e /\ 0 < P.cellsOf e then some (.msl H.length 0 n.toNat (P.cellsOf e),H ++ [some (List.replicate n.toNat z.cells).flatten]) else none
    | none => none
   else none
  | _ => none
 | .load t _,[a] => vLoad P (o.dst.any h.tk.contains) t a H
 | .store t _ _,[a,v] => (vStore P t a v H).map fun H' => (.undef,H')
 | .nilCheck _,[a] => (vNil a).map fun v => (v,H)
 | .binOp op t _ y _,[a,b] => match nilSide y with
  | true => (nilcmpF P op t a).map fun v => (v,H)
  | false => (abinopF P op t a b).map fun v => (v,H)
 | .unOp op _ _,[a] => (vUn op a).map fun v => (v,H)
 | .convert src dst _,[a] =>
  match P.underlying src,P.underlying dst,a with
  | some _,some (.int k),.int _ n => some (.int k (k.wrap n),H)
  | some .string,some .string,.str s => some (.str s,H)
  | some (.slice e),some .string,.sl _ es => if (match P.underlying e with | some (.int .u8) => true | _ => false) = true /\ es.all isByte = true then some (.str (byteStr es),H) else none
  | _,_,_ => none
 | .makeFunc fn first _,vs => some (.fn fn (vs.take first.size) (vs.drop first.size),H)
 | .slice t _ lo hi mx,x :: rest =>
  match bounds3 lo.isSome hi.isSome mx.isSome rest with
  | some (l,hh,m) => match o.dst.any h.mt.contains with
   | true => (apsliceF P t x l hh m H).map fun v => (v,H)
   | false => (asliceF P t x l hh m).map fun v => (v,H)
  | none => none
 | .fieldAddr s _ f,[x] => (vField P (fieldAt P s f) x).map fun v => (v,H)
 | .field t _ f,[x] => (vPart P (fieldAt P t f) x).map fun v => (v,H)
 | .extract _ i,[x] => (vExtract x i).map fun v => (v,H)
 | .indexAddr t _ _,[x,i] => (vIndexAddr P (P.underlying t) x i).map fun v => (v,H)
 | .index t _ _,[x,i] => (vIndex P (P.underlying t) x i).map fun v => (v,H)
 | .makeMap _ none,[] => some (.mapr H.length,H ++ [some (mapc [])])
 | .range t _,[x] => arangeF P t H x
 | .next _ str,[.it o'] => anextF str H o'
 | .entry _,[.it o'] => aentryF H o'
 | .lookup t _ _ ok,[m,k] =>
  match P.underlying t with
  | some (.map kt et) => match mapOf H m with
   | some es => if keysF P wk kt (k :: es.map (·.1)) = true /\ distF es = true then
     match zeroAV P et with
     | some z => some (lkres ok z (afind k es 0),H)
     | none => none
    else none
   | none => none
  | _ => none
 | .mapUpdate t _ _ _,[.mapr o',k,v] =>
  match P.underlying t with
  | some (.map kt _) => match mapOf H (.mapr o') with
   | some es => if keysF P wk kt (k :: es.map (·.1)) = true /\ distF es = true /\ v.isVal = true then some (.undef,H.set o' (some (mapc (mapUpd es k v)))) else none
   | none => none
  | _ => none
 | .call c,vs =>
  match c.callee with
  | .builtin .len => match vs with
   | [x] => (vLen (c.argTypes[0]?.bind P.underlying) x).map fun v => (v,H)
   | _ => none
  | .builtin .append => match vs,c.argTypes.toList with
   | [a,b],[t,t'] => if t = t' then match P.underlying t with
    | some (.slice e) => if 0 < P.cellsOf e /\ zeroOk P e = true then match asrc P e (o.dst.any h.mt.contains || o.dst.any h.tk.contains) H b with
     | some xs => aappendF P e (o.dst.any h.mt.contains) (o.dst.any h.pc.contains) H a xs
     | none => none
     else none
    | _ => none
    else none
   | _,_ => none
  | .builtin .min => match vs with
   | [.int k a,.int k' b] => if k = k' then some (.int k (if b < a then b else a),H) else none
   | _ => none
  | .builtin .max => match vs with
   | [.int k a,.int k' b] => if k = k' then some (.int k (if b > a then b else a),H) else none
   | _ => none
  | .builtin .clear => match vs,c.argTypes.toList with
   | [.msl ob off len sz],[t] => match P.underlying t with
    | some (.slice e) => match H[ob]?,zeroAV P e with
     | some (some cs),some z => if sz = z.cells.length /\ 0 < len /\ off + len * sz <= cs.length then some (.tup [],H.set ob (some (splice cs off (zerosN z len)))) else none
     | _,_ => none
    | _ => none
   | _,_ => none
  | _ => none
 | _,_ => none
theorem mapS {α β : Type} {x : Option α} {f : α -> β} {y : β} (h : x.map f = some y) : ∃ a,x = some a /\ f a = y:=by
 cases x with
 | none => cases h
 | some a => exact ⟨a,rfl,by simpa using h⟩
set_option maxHeartbeats 1000000 in
theorem aresF_ok {P : Program} {wk : List TypeId} (hw : WideOk P wk) {h : Hint} {o : Oper} {vals : List AV} {H : Heap} {v : AV} {H' : Heap} {R : AV -> Heap -> Prop} (hx : aresF P wk h o vals H = some (v,H')) (hr : R v H') : ares P h o vals H R:=by
 unfold aresF at hx
 split at hx <;> rename_i heq
 ·cases hx; simp only [ares,heq]; exact hr
 ·cases hx; simp only [ares,heq]; exact hr
 ·cases hx; simp only [ares,heq]; exact hr
 ·obtain ⟨h1,h2⟩:=oif hx
  cases h2; simp only [ares,heq]; exact ⟨h1,hr⟩
 ·split at hx
  ·rename_i z hm hz
   cases hx; simp only [ares,heq,hm]; exact ⟨z,hz,hr⟩
  ·cases hx
 ·obtain ⟨a,h1,h2⟩:=mapS hx
  cases h2
  unfold vBuild at h1
  simp only [ares,heq]
  split at h1
  ·rename_i fs hu
   simp only [hu]
   obtain ⟨g1,h1⟩:=oif h1
   split at h1
   ·rename_i z hz
    obtain ⟨cs,g2,rfl⟩:=mapS h1
    exact ⟨z,cs,g1,hz,g2,hr⟩
   ·cases h1
  ·rename_i n e hu
   simp only [hu]
   obtain ⟨g1,h1⟩:=oif h1
   split at h1
   ·rename_i z hz
    obtain ⟨cs,g2,rfl⟩:=mapS h1
    exact ⟨z,cs,g1,hz,g2,hr⟩
   ·cases h1
  ·cases h1
 ·split at hx
  ·rename_i e hu
   obtain ⟨⟨g1,g2,g3,g4,g5⟩,hx⟩:=oif hx
   simp only [ares,heq,hu]
   refine ⟨g1,g2,g3,fun x hx' => ?_,g5, ?_⟩
   ·have:=List.all_eq_true.1 g4 x hx'
    simpa using this
   ·split at hx
    ·rename_i hm
     cases hx; simp only [hm]; exact hr
    ·rename_i hm
     cases hx; simp only [hm]; exact hr
  ·cases hx
 ·split at hx
  ·rename_i e hu
   obtain ⟨⟨g1,g2,g3,g4,g5⟩,hx⟩:=oif hx
   split at hx
   ·rename_i z hz
    obtain ⟨⟨g6,g7⟩,hx⟩:=oif hx
    cases hx
    simp only [ares,heq,hu]
    exact ⟨g1,g2,g3,g4,g5,z,hz,g6,g7,hr⟩
   ·cases hx
  ·cases hx
 · -- load
  unfold vLoad at hx
  split at hx
  ·split at hx
   ·rename_i cs hob
    split at hx
    ·rename_i x hl
     split at hx
     ·rename_i htk
      obtain ⟨⟨g1,g2⟩,hx⟩:=oif hx
      cases hx
      simp only [ares,heq,hob,hl,htk]
      exact ⟨g1,g2,hr⟩
     ·rename_i htk
      cases hx
      simp only [ares,heq,hob,hl,htk]
      exact hr
    ·cases hx
   ·cases hx
  ·split at hx
   ·rename_i x hl
    cases hx
    simp only [ares,heq,hl]
    exact hr
   ·cases hx
  ·cases hx
 · -- store
  obtain ⟨a,h1,h2⟩:=mapS hx
  cases h2
  unfold vStore at h1
  split at h1
  ·split at h1
   ·rename_i cs hob
    obtain ⟨⟨g1,g2,g3,g4⟩,h1⟩:=oif h1
    cases h1
    simp only [ares,heq,hob]
    exact ⟨g1,g2,g3,g4,hr⟩
   ·cases h1
  ·cases h1
 ·obtain ⟨a,h1,h2⟩:=mapS hx
  cases h2
  unfold vNil at h1
  split at h1 <;> cases h1 <;> (simp only [ares,heq]; exact hr)
 ·split at hx
  ·rename_i hn
   obtain ⟨a,h1,h2⟩:=mapS hx
   cases h2
   simp only [ares,heq,hn]
   exact nilcmpF_ok h1 hr
  ·rename_i hn
   obtain ⟨a,h1,h2⟩:=mapS hx
   cases h2
   simp only [ares,heq,hn]
   exact abinopF_ok h1 hr
 ·obtain ⟨a,h1,h2⟩:=mapS hx
  cases h2
  unfold vUn at h1
  split at h1 <;> cases h1 <;> (simp only [ares,heq]; exact hr)
 ·split at hx
  ·rename_i g1 g2
   cases hx
   simp only [ares,heq,g1,g2]; exact hr
  ·rename_i g1 g2
   cases hx
   simp only [ares,heq,g1,g2]; exact hr
  ·rename_i g1 g2
   obtain ⟨⟨g3,g4⟩,hx⟩:=oif hx
   cases hx
   simp only [ares,heq,g1,g2]
   refine ⟨?_,fun x hx' => List.all_eq_true.1 g4 x hx',hr⟩
   split at g3
   ·assumption
   ·cases g3
  ·cases hx
 ·cases hx; simp only [ares,heq]; exact hr
 ·split at hx
  ·rename_i hb
   split at hx
   ·rename_i hm
    obtain ⟨a,h1,h2⟩:=mapS hx
    cases h2
    simp only [ares,heq,hb,hm]
    exact apsliceF_ok h1 hr
   ·rename_i hm
    obtain ⟨a,h1,h2⟩:=mapS hx
    cases h2
    simp only [ares,heq,hb,hm]
    exact asliceF_ok h1 hr
  ·cases hx
 ·obtain ⟨a,h1,h2⟩:=mapS hx
  cases h2
  unfold vField fieldAt at h1
  simp only [ares,heq]
  split at h1
  ·rename_i fd hfd
   split at hfd
   ·rename_i fs hu
    simp only [hu,hfd]
    obtain ⟨g1,h1⟩:=oif h1
    refine ⟨g1, ?_⟩
    unfold vOff at h1
    split at h1 <;> cases h1 <;> exact hr
   ·cases hfd
  ·cases h1
 ·obtain ⟨a,h1,h2⟩:=mapS hx
  cases h2
  unfold vPart fieldAt at h1
  split at h1
  ·rename_i fd cs hfd
   split at hfd
   ·rename_i fs hu
    simp only [ares,heq,hu,hfd,h1]
    exact hr
   ·cases hfd
  ·cases h1
 ·obtain ⟨a,h1,h2⟩:=mapS hx
  cases h2
  unfold vExtract at h1
  split at h1
  ·simp only [ares,heq]
   exact ⟨_,h1,hr⟩
  ·cases h1
 ·obtain ⟨a,h1,h2⟩:=mapS hx
  cases h2
  unfold vIndexAddr at h1
  split at h1
  ·split at h1
   ·rename_i e own es hu
    obtain ⟨g1,h1⟩:=oif h1
    simp only [ares,heq,hu]
    obtain ⟨x,g2,h1⟩:=Option.bind_eq_some_iff.1 h1
    obtain ⟨⟨g3,g4⟩,h1⟩:=oif h1
    cases h1
    exact ⟨g1,x,g2,g3,g4,hr⟩
   ·rename_i hu
    obtain ⟨⟨g1,g2,g3,g4⟩,h1⟩:=oif h1
    cases h1
    simp only [ares,heq,hu]
    exact ⟨g1,g2,g3,g4,hr⟩
   ·rename_i hu
    obtain ⟨⟨g1,g2,g3⟩,h1⟩:=oif h1
    cases h1
    simp only [ares,heq,hu]
    exact ⟨g1,g2,g3,hr⟩
   ·rename_i hu
    obtain ⟨⟨g1,g2,g3⟩,h1⟩:=oif h1
    cases h1
    simp only [ares,heq,hu]
    exact ⟨g1,g2,g3,hr⟩
   ·cases h1
  ·cases h1
 ·obtain ⟨a,h1,h2⟩:=mapS hx
  cases h2
  unfold vIndex at h1
  split at h1
  ·split at h1
   ·rename_i hu
    obtain ⟨⟨g1,g2⟩,h1⟩:=oif h1
    cases h1
    simp only [ares,heq,hu]
    exact ⟨g1,g2,hr⟩
   ·rename_i hu
    obtain ⟨⟨g1,g2,g3⟩,h1⟩:=oif h1
    simp only [ares,heq,hu]
    exact ⟨g1,g2,g3,_,h1,hr⟩
   ·cases h1
  ·cases h1
 ·cases hx; simp only [ares,heq]; exact hr
 ·simp only [ares,heq]; exact arangeF_ok hx hr
 ·simp only [ares,heq]; exact anextF_ok hx hr
 ·simp only [ares,heq]; exact aentryF_ok hx hr
 ·split at hx
  ·rename_i hu
   split at hx
   ·rename_i es he
    obtain ⟨⟨g1,g2⟩,hx⟩:=oif hx
    split at hx
    ·rename_i z hz
     cases hx
     simp only [ares,heq,hu,he]
     exact ⟨keysF_ok hw g1,distF_ok g2,z,hz,hr⟩
    ·cases hx
   ·cases hx
  ·cases hx
 ·split at hx
  ·rename_i hu
   split at hx
   ·rename_i es he
    obtain ⟨⟨g1,g2,g3⟩,hx⟩:=oif hx
    cases hx
    simp only [ares,heq,hu,he]
    exact ⟨keysF_ok hw g1,distF_ok g2,g3,hr⟩
   ·cases hx
  ·cases hx
 ·rename_i c
  split at hx
  ·rename_i hcal
   split at hx
   ·obtain ⟨a,h1,h2⟩:=mapS hx
    cases h2
    unfold vLen at h1
    split at h1 <;> cases h1 <;> (rename_i hu; simp only [ares,heq,hcal,hu]; exact hr)
   ·cases hx
  ·rename_i hcal
   split at hx
   ·rename_i hat
    obtain ⟨g0,hx⟩:=oif hx
    split at hx
    ·rename_i e hu
     obtain ⟨⟨g1,g2⟩,hx⟩:=oif hx
     split at hx
     ·rename_i xs hs
      simp only [ares,heq,hcal,hat,hu,hs]
      exact ⟨g0,g1,g2,aappendF_ok hx hr⟩
     ·cases hx
    ·cases hx
   ·cases hx
  ·rename_i hcal
   split at hx
   ·obtain ⟨g1,hx⟩:=oif hx
    cases hx
    simp only [ares,heq,hcal]
    exact ⟨g1,hr⟩
   ·cases hx
  ·rename_i hcal
   split at hx
   ·obtain ⟨g1,hx⟩:=oif hx
    cases hx
    simp only [ares,heq,hcal]
    exact ⟨g1,hr⟩
   ·cases hx
  ·rename_i hcal
   split at hx
   ·rename_i hat
    split at hx
    ·rename_i e hu
     split at hx
     ·rename_i cs z ho hz
      obtain ⟨⟨g1,g2,g3⟩,hx⟩:=oif hx
      cases hx
      simp only [ares,heq,hcal,hat,hu,ho]
      exact ⟨z,hz,g1,g2,g3,hr⟩
     ·cases hx
    ·cases hx
   ·cases hx
  ·cases hx
 ·cases hx
end Go.AI
namespace Go.AI
inductive Task where
 | call (f : FuncId) (vs : List AV) (H : Heap)
 | yld (o : Nat) (L : LoopRec) (ys : List AV) (H : Heap)
 | code (hf : FuncId) (n : Nat) (ar : Option Nat) (c : Code) (e : Env) (H : Heap)
 | ops (hf : FuncId) (n : Nat) (os : Array Oper) (l : List Oper) (e : Env) (H : Heap)
inductive ROut where
 | val (v : AV) (H : Heap)
 | st (ex : Exit) (e : Env) (H : Heap)
structure EvT where
 tb : FuncId -> Option Func
 hs : FuncId -> Hint
 wk : List TypeId
 orc : FuncId -> List AV -> Heap -> Option (AV × Heap)
def loopOf (H : Heap) (o : Nat) : Option (Int × List AV) :=
 match H[o]? with
 | some (some [.tup [.int .i64 st],.tup av]) => some (st,av)
 | _ => none
theorem loopOf_eq {H : Heap} {o : Nat} {st : Int} {av : List AV} (h : loopOf H o = some (st,av)) : H[o]? = some (some (loopc st av)):=by
 unfold loopOf at h
 split at h
 ·rename_i hh; cases h; exact hh
 ·cases h
def revF (P : Program) (n : Nat) : List ResultVar -> Env -> Heap -> Option (List AV × Heap)
 | [],_,H => some ([],H)
 | .tmp t :: rs,e,H => if t < n then (revF P n rs (ev1 P none true (.tmp t) e).2 H).map fun r => ((ev1 P none true (.tmp t) e).1 :: r.1,r.2) else none
 | .cell t ty :: rs,e,H => if t < n then match vRead P ty (look e t) H with
   | some (v,H') => (revF P n rs e H').map fun r => (v :: r.1,r.2)
   | none => none
  else none
def retF : List AV -> Option AV
 | [v] => some v
 | vs => if vs.all AV.isVal = true then some (.tup vs) else none
def aroundF (ar : Option Nat) (H : Heap) : Bool :=
 match ar with
 | none => true
 | some o => match H[o]? with
  | some (some _) => true
  | _ => false
def dstF (n : Nat) : Option Tmp -> Bool
 | some d => decide (d < n)
 | none => true
def stepCall (P : Program) (T : EvT) (ih : Task -> Option ROut) (f : FuncId) (vs : List AV) (H : Heap) : Option ROut :=
 match T.orc f vs H with
 | some (v,H') => some (.val v H')
 | none => match T.tb f with
  | some fn => match fn.body with
   | some c => if vs.length <= fn.ntmps then
     match ih (.code f fn.ntmps none c (argsFrom 0 vs) H) with
     | some (.st .normal e H') => (revF P fn.ntmps fn.results.toList e H').bind fun r => (retF r.1).map fun v => .val v r.2
     | some (.st .ret e H') => (revF P fn.ntmps fn.results.toList e H').bind fun r => (retF r.1).map fun v => .val v r.2
     | _ => none
    else none
   | none => none
  | none => none
def stepYld (T : EvT) (ih : Task -> Option ROut) (o : Nat) (L : LoopRec) (ys : List AV) (H : Heap) : Option ROut :=
 match T.tb L.tag,loopOf H o with
 | some fn,some (st,av) =>
  if st = 0 /\ av.length = fn.ntmps /\ L.ps.toList.length = ys.length /\ L.ps.toList.all (fun p => decide (p < fn.ntmps)) = true /\ drawsOk (T.hs L.tag) L.assign = true /\ drawsOk (T.hs L.tag) L.body = true then
   match ih (.code L.tag fn.ntmps (some o) L.assign (roundEnv av L.ps.toList ys (argsFrom 0 av)) H) with
   | some (.st .normal e2 H2) => match loopOf H2 o with
    | some (st2,av2) => if st2 = 0 then
      match ih (.code L.tag fn.ntmps (some o) L.body e2 (H2.set o (some (loopc (-1) av2)))) with
      | some (.st ex _ H3) => match loopOf H3 o with
       | some (st3,av3) => if st3 = -1 then match ex with
         | .normal => some (.val (.bool true) (H3.set o (some (loopc 0 av3))))
         | .ret => some (.val (.bool false) (H3.set o (some (loopc (-2) av3))))
         | .exit k => some (.val (.bool false) (H3.set o (some (loopc ((k : Int) + 1) av3))))
         | _ => none
        else none
       | none => none
      | _ => none
     else none
    | none => none
   | _ => none
  else none
 | _,_ => none
def apartB (P : Program) (h : Hint) (o o' : Oper) (e : Env) : Bool :=
 match adrOf P h o,adrOf P h o' with
 | some (a,k,s),some (b,l,s') => (s || s') && match look e a,look e b with
  | .ptr o1 f1,.ptr o2 f2 => !(o1 == o2) || (decide (f1 + k <= f2) || decide (f2 + l <= f1))
  | _,_ => false
 | _,_ => false
def dynB (P : Program) (h : Hint) (ops : Array Oper) (e : Env) : Bool:=(dynPairs h ops).all fun p => apartB P h p.1 p.2 e
def stepCode (P : Program) (T : EvT) (ih : Task -> Option ROut) (hf : FuncId) (n : Nat) (ar : Option Nat) (c : Code) (e : Env) (H : Heap) : Option ROut :=
 match c with
 | .skip => some (.st .normal e H)
 | .ret => some (.st .ret e H)
 | .exit id => some (.st (.exit id) e H)
 | .region id ops _ => match ih (.ops hf n ops ((T.hs hf).ord id ops) e H) with
  | some (.st .normal e1 H1) =>
   if (!((T.hs hf).da id) || dynB P (T.hs hf) ops e1) = true then
    match frzs ((T.hs hf).at id) (clean ((T.hs hf).lv id) e1) H1 with
    | (e2,H2) => some (.st .normal e2 (gcut ((T.hs hf).ct id) e2 H2))
   else none
  | _ => none
 | .seq a b => match ih (.code hf n ar a e H) with
  | some (.st .normal e1 H1) => ih (.code hf n ar b e1 H1)
  | r => r
 | .cond c a b => match evo P none e c with
  | .bool t => if t = true then ih (.code hf n ar a e H) else ih (.code hf n ar b e H)
  | _ => none
 | .block id c => match ih (.code hf n ar c e H) with
  | some (.st (.exit j) e1 H1) => if j = id then some (.st .normal e1 H1) else some (.st (.exit j) e1 H1)
  | r => r
 | .loop c => match ih (.code hf n ar c e H) with
  | some (.st .normal e1 H1) => ih (.code hf n ar (.loop c) e1 H1)
  | r => r
 | .rangeFunc g ps assign body => match evo P none e g with
  | .fn (.func f) first captured => if aroundF ar H = true then
    match ih (.call f (first.map AV.borrow ++ [.yld H.length ⟨hf,ps,assign,body⟩] ++ captured.map AV.borrow) (H ++ [some (loopc 0 (frameVals n e))])) with
    | some (.val _ H2) => match loopOf H2 H.length with
     | some (st,_) => if st = 0 then some (.st .normal e (H2.set H.length none)) else if st = -2 then some (.st .ret e (H2.set H.length none)) else
       if 0 < st then some (.st (.exit (st - 1).toNat) e (H2.set H.length none)) else none
     | none => none
    | _ => none
   else none
  | _ => none
 | _ => none
mutual
def sameA : AV -> AV -> Bool
 | .int k n,b => match b with | .int k' n' => decide (k = k') && n == n' | _ => false
 | .bool x,b => match b with | .bool y => x == y | _ => false
 | .str s,b => match b with | .str t => s.data.toList == t.data.toList | _ => false
 | .nilp,b => match b with | .nilp => true | _ => false
 | .ptr o x,b => match b with | .ptr o' x' => o == o' && x == x' | _ => false
 | .cptr cs x,b => match b with | .cptr cs' x' => sameL cs cs' && x == x' | _ => false
 | .sl w es,b => match b with | .sl w' es' => w == w' && sameL es es' | _ => false
 | .msl o x l z,b => match b with | .msl o' x' l' z' => o == o' && (x == x' && (l == l' && z == z')) | _ => false
 | .fn (.func f) x y,b => match b with | .fn (.func f') x' y' => f == f' && (sameL x x' && sameL y y') | _ => false
 | .nilf,b => match b with | .nilf => true | _ => false
 | .mapr o,b => match b with | .mapr o' => o == o' | _ => false
 | .nilm,b => match b with | .nilm => true | _ => false
 | .it o,b => match b with | .it o' => o == o' | _ => false
 | .nili,b => match b with | .nili => true | _ => false
 | .agg x,b => match b with | .agg y => sameL x y | _ => false
 | .tup x,b => match b with | .tup y => sameL x y | _ => false
 | .undef,b => match b with | .undef => true | _ => false
 | _,_ => false
def sameL : List AV -> List AV -> Bool
 | [],l => match l with | [] => true | _ => false
 | a :: x,l => match l with | b :: y => sameA a b && sameL x y | _ => false
end
mutual
theorem sameA_ok : ∀ (a b : AV),sameA a b = true -> a = b
 | .int k n,b,h => by cases b <;> simp_all [sameA]
 | .bool x,b,h => by cases b <;> simp_all [sameA]
 | .str s,b,h => by
  cases b <;> simp [sameA] at h
  rename_i t
  rw [ByteArray.ext h]
 | .nilp,b,h => by cases b <;> simp_all [sameA]
 | .ptr o x,b,h => by cases b <;> simp_all [sameA]
 | .cptr cs x,b,h => by
  cases b <;> simp [sameA] at h
  rw [sameL_ok _ _ h.1,h.2]
 | .sl w es,b,h => by
  cases b <;> simp [sameA] at h
  rw [sameL_ok _ _ h.2,h.1]
 | .msl o x l z,b,h => by cases b <;> simp_all [sameA]
 | .fn (.func f) x y,b,h => by
  cases b with
  | fn g x' y' =>
   cases g <;> simp [sameA] at h
   rw [sameL_ok _ _ h.2.1,sameL_ok _ _ h.2.2,h.1]
  | _ => simp [sameA] at h
 | .nilf,b,h => by cases b <;> simp_all [sameA]
 | .mapr o,b,h => by cases b <;> simp_all [sameA]
 | .nilm,b,h => by cases b <;> simp_all [sameA]
 | .it o,b,h => by cases b <;> simp_all [sameA]
 | .nili,b,h => by cases b <;> simp_all [sameA]
 | .agg x,b,h => by
  cases b <;> simp [sameA] at h
  rw [sameL_ok _ _ h]
 | .tup x,b,h => by
  cases b <;> simp [sameA] at h
  rw [sameL_ok _ _ h]
 | .undef,b,h => by cases b <;> simp_all [sameA]
 | .yld o L,b,h => by simp [sameA] at h
 | .ifc t a,b,h => by simp [sameA] at h
 | .fn f x y,b,h => by
  cases f with
  | func f =>
   cases b with
   | fn g x' y' =>
    cases g <;> simp [sameA] at h
    rw [sameL_ok _ _ h.2.1,sameL_ok _ _ h.2.2,h.1]
   | _ => simp [sameA] at h
  | _ => simp [sameA] at h
theorem sameL_ok : ∀ (x y : List AV),sameL x y = true -> x = y
 | [],l,h => by cases l <;> simp_all [sameL]
 | a :: x,l,h => by
  cases l <;> simp [sameL] at h
  rw [sameA_ok _ _ h.1,sameL_ok _ _ h.2]
end
def prefH : Heap -> Heap -> Bool
 | [],_ => true
 | a :: H,l => match l with
  | b :: H' => (match a,b with
   | some x,some y => sameL x y
   | none,none => true
   | _,_ => false) && prefH H H'
  | [] => false
theorem prefH_ok : ∀ (H H' : Heap),prefH H H' = true -> ∃ ext,H' = H ++ ext
 | [],H',_ => ⟨H',rfl⟩
 | a :: H,l,h => by
  cases l with
  | nil => simp [prefH] at h
  | cons b H' =>
   simp only [prefH,Bool.and_eq_true] at h
   obtain ⟨ext,rfl⟩:=prefH_ok H H' h.2
   refine ⟨ext, ?_⟩
   have h1:=h.1
   cases a <;> cases b <;> simp at h1
   ·rfl
   ·rw [sameL_ok _ _ h1]; rfl
def stepVal (T : EvT) (ih : Task -> Option ROut) (hf : FuncId) (o : Oper) (vals : List AV) (H : Heap) : Option (AV × Heap) :=
 match vals with
 | .fn (.func f) first captured :: args =>
  match o.dst.any (T.hs hf).pc.contains with
  | true => if pureL (first.map AV.borrow ++ args ++ captured.map AV.borrow) = true then match ih (.call f (first.map AV.borrow ++ args ++ captured.map AV.borrow) []) with
    | some (.val v _) => if v.pure = true then some (v,H) else none
    | _ => none
   else none
  | false => match ih (.call f (first.map AV.borrow ++ args ++ captured.map AV.borrow) H) with
   | some (.val v H') => if (!o.dst.any (T.hs hf).mt.contains || prefH H H') = true then some (v,H') else none
   | _ => none
 | .yld o' L :: args =>
  match o.dst.any (T.hs hf).pc.contains || o.dst.any (T.hs hf).mt.contains with
  | true => none
  | false => match ih (.yld o' L args H) with
   | some (.val v H') => some (v,H')
   | _ => none
 | _ => none
def isValue (o : Oper) : Bool :=
 match o.op with
 | .call c => match c.callee with
  | .value _ => true
  | _ => false
 | _ => false
def stepOps (P : Program) (T : EvT) (ih : Task -> Option ROut) (hf : FuncId) (n : Nat) (os : Array Oper) (l : List Oper) (e : Env) (H : Heap) : Option ROut :=
 match l with
 | [] => some (.st .normal e H)
 | o :: l => match agd os e o with
  | some true => if dstF n o.dst = true then
    match evs P (opTy o) (taking (T.hs hf) o) o.op.operands.toList e with
    | (vals,e1) => match (match isValue o with
      | true => stepVal T ih hf o vals H
      | false => aresF P T.wk (T.hs hf) o vals H) with
     | some (v,H') => ih (.ops hf n os l (put o.dst v e1) H')
     | none => none
   else none
  | some false => if dstF n o.dst = true then ih (.ops hf n os l (put o.dst (.tup []) e) H) else none
  | none => none
def stepT (P : Program) (T : EvT) (ih : Task -> Option ROut) : Task -> Option ROut
 | .call f vs H => stepCall P T ih f vs H
 | .yld o L ys H => stepYld T ih o L ys H
 | .code hf n ar c e H => stepCode P T ih hf n ar c e H
 | .ops hf n os l e H => stepOps P T ih hf n os l e H
noncomputable def runT (P : Program) (T : EvT) (k : Nat) : Task -> Option ROut:=Nat.rec (fun _ => none) (fun _ ih t => stepT P T ih t) k
structure EvOk (P : Program) (T : EvT) : Prop where
 mixed : P.follows .mixedOrders = true
 wide : WideOk P T.wk
 fn : ∀ f fn,T.tb f = some fn -> P.funcs[f]? = some fn /\ callable P f = true /\ fn.body.any (drawsOk (T.hs f)) = true /\ (T.hs f).gc = []
 orc : ∀ f vs H v H',T.orc f vs H = some (v,H') -> ACall P f vs H fun v2 H2 => v2 = v /\ H2 = H'
def Good (P : Program) (T : EvT) : Task -> ROut -> Prop
 | .call f vs H,.val v H' => ACall P f vs H fun v2 H2 => v2 = v /\ H2 = H'
 | .yld o L ys H,.val v H' => YCall P o L ys H fun v2 H2 => v2 = v /\ H2 = H'
 | .code hf n ar c e H,.st ex e' H' => awp P n (T.hs hf) ar c (fun ex2 e2 H2 => ex2 = ex /\ e2 = e' /\ H2 = H') e H
 | .ops hf n os l e H,.st ex e' H' => ex = .normal /\ arun P n (T.hs hf) os l (fun e2 H2 => e2 = e' /\ H2 = H') e H
 | _,_ => False
section
variable {P : Program} {T : EvT}
theorem apartB_ok {h : Hint} {o o' : Oper} {e : Env} (hb : apartB P h o o' e = true) : apartAt P h o o' e:=by
 unfold apartB at hb
 unfold apartAt
 generalize adrOf P h o = x at hb ⊢
 generalize adrOf P h o' = y at hb ⊢
 cases x with
 | none => cases hb
 | some x => cases y with
  | none => cases hb
  | some y =>
   obtain ⟨a,k,s⟩:=x
   obtain ⟨b,l,s'⟩:=y
   dsimp only at hb ⊢
   simp only [Bool.and_eq_true,Bool.or_eq_true] at hb
   obtain ⟨h1,h2⟩:=hb
   refine ⟨h1, ?_⟩
   generalize look e a = u at h2 ⊢
   generalize look e b = w at h2 ⊢
   cases u <;> first | (cases h2; done) | skip
   cases w <;> first | (cases h2; done) | skip
   simpa using h2
theorem dynB_ok {h : Hint} {ops : Array Oper} {e : Env} (hb : dynB P h ops e = true) : dynAll P h ops e:=fun p hp => apartB_ok (List.all_eq_true.1 hb p hp)
theorem revF_ok {n : Nat} {K : List AV -> Heap -> Prop} : ∀ {rs : List ResultVar} {e : Env} {H : Heap} {vs : List AV} {H' : Heap},revF P n rs e H = some (vs,H') -> K vs H' -> rev P n rs e H fun vs _ H => K vs H
 | [],e,H,vs,H',h,hk => by cases h; exact hk
 | .tmp t :: rs,e,H,vs,H',h,hk => by
  simp only [revF] at h
  obtain ⟨h1,h⟩:=oif h
  obtain ⟨r,h2,h3⟩:=mapS h
  cases h3
  exact ⟨h1,revF_ok (K:=fun vs H => K ((ev1 P none true (.tmp t) e).1 :: vs) H) h2 hk⟩
 | .cell t ty :: rs,e,H,vs,H',h,hk => by
  simp only [revF] at h
  obtain ⟨h1,h⟩:=oif h
  split at h
  ·rename_i v H1 hv
   obtain ⟨r,h2,h3⟩:=mapS h
   cases h3
   rw [rev_cell]
   refine ⟨h1, ?_⟩
   rw [hv]
   exact revF_ok (K:=fun vs H => K (v :: vs) H) h2 hk
  ·cases h
theorem retF_ok {K : AV -> Heap -> Prop} {vs : List AV} {v : AV} {H : Heap} (h : retF vs = some v) (hk : K v H) : retK K vs H:=by
 unfold retF at h
 unfold retK
 split at h
 ·cases h; exact hk
 ·rename_i hne
  obtain ⟨h1,h2⟩:=oif h
  cases h2
  split
  ·exact absurd rfl (hne _)
  ·exact ⟨fun x hx => List.all_eq_true.1 h1 x hx,hk⟩
theorem aroundF_ok {ar : Option Nat} {H : Heap} (h : aroundF ar H = true) : around ar H:=by
 unfold aroundF at h
 unfold around
 split at h
 ·trivial
 ·split at h
  ·rename_i cs hcs; exact ⟨cs,hcs⟩
  ·cases h
theorem dstF_ok {n : Nat} {d : Option Tmp} (h : dstF n d = true) : dstOk n d:=by
 cases d with
 | none => trivial
 | some d => exact (of_decide_eq_true h : d < n)
theorem PCall.of_nil {f : FuncId} {vs : List AV} {v : AV} (hc : ACall P f vs [] fun v2 _ => v2 = v) (hp : pureL vs = true) (hv : v.pure = true) : PCall P f vs v:=fun H =>
 ⟨hc.1,fun F G w us hcr => Calls.mono (hc.2 _ _ w us (hcr.hide (pureL_mem hp))) fun e w' he => by
  obtain ⟨u,rfl,v',H2,G',rfl,hcr',hext⟩:=he
  obtain ⟨h1,h2⟩:=hcr.unhide hv hcr' hext
  exact ⟨u,rfl,_,H,_,⟨rfl,rfl⟩,h1,h2⟩⟩
theorem step_call (E : EvOk P T) {ih : Task -> Option ROut} (hih : ∀ t out,ih t = some out -> Good P T t out) {f : FuncId} {vs : List AV} {H : Heap} {out : ROut} (h : stepCall P T ih f vs H = some out) : Good P T (.call f vs H) out:=by
 unfold stepCall at h
 split at h
 ·rename_i v H1 ho
  cases h
  exact E.orc f vs H v H1 ho
 ·split at h
  ·rename_i fn hfn
   obtain ⟨e1,e2,e3,e4⟩:=E.fn f fn hfn
   split at h
   ·rename_i c hb
    obtain ⟨hn,h⟩:=oif h
    have fin : ∀ (ex : Exit) (e : Env) (H' : Heap),(ex = .normal \/ ex = .ret) -> ih (.code f fn.ntmps none c (argsFrom 0 vs) H) = some (.st ex e H') ->
      ((revF P fn.ntmps fn.results.toList e H').bind fun r => (retF r.1).map fun v => ROut.val v r.2) = some out -> Good P T (.call f vs H) out:=by
     intro ex e H' hex hi hr
     obtain ⟨r,h1,h2⟩:=Option.bind_eq_some_iff.1 hr
     obtain ⟨v,h3,h4⟩:=mapS h2
     subst h4
     refine ACall.of (T.hs f) e4 E.mixed e3 e1 hb e2 hn (awp_mono c _ _ _ _ (fun ex2 e2 H2 hq => ?_) (hih _ _ hi))
     obtain ⟨rfl,rfl,rfl⟩:=hq
     rcases hex with rfl | rfl
     ·exact revF_ok (K:=fun vs H => retK _ vs H) h1 (retF_ok h3 ⟨rfl,rfl⟩)
     ·exact revF_ok (K:=fun vs H => retK _ vs H) h1 (retF_ok h3 ⟨rfl,rfl⟩)
    split at h
    ·rename_i hi; exact fin _ _ _ (.inl rfl) hi h
    ·rename_i hi; exact fin _ _ _ (.inr rfl) hi h
    ·cases h
   ·cases h
  ·cases h
theorem step_yld (E : EvOk P T) {ih : Task -> Option ROut} (hih : ∀ t out,ih t = some out -> Good P T t out) {o : Nat} {L : LoopRec} {ys : List AV} {H : Heap} {out : ROut} (h : stepYld T ih o L ys H = some out) : Good P T (.yld o L ys H) out:=by
 unfold stepYld at h
 split at h
 ·rename_i fn st av hfn hlo
  obtain ⟨e1,e2,e3,e4⟩:=E.fn _ fn hfn
  have h':=oif h
  clear h
  obtain ⟨⟨rfl,g2,g3,g4,g5,g6⟩,h⟩:=h'
  cases hi : ih (.code L.tag fn.ntmps (some o) L.assign (roundEnv av L.ps.toList ys (argsFrom 0 av)) H) with
  | none => rw [hi] at h; cases h
  | some q =>
   rw [hi] at h
   cases q with
   | val v H' => cases h
   | st ex0 e2 H2 =>
    cases ex0 with
    | normal =>
     dsimp only at h
     cases hlo2 : loopOf H2 o with
     | none => rw [hlo2] at h; cases h
     | some q2 =>
      obtain ⟨st2,av2⟩:=q2
      rw [hlo2] at h
      dsimp only at h
      have h':=oif h
      clear h
      obtain ⟨rfl,h⟩:=h'
      cases hi3 : ih (.code L.tag fn.ntmps (some o) L.body e2 (H2.set o (some (loopc (-1) av2)))) with
      | none => rw [hi3] at h; cases h
      | some q3 =>
       rw [hi3] at h
       cases q3 with
       | val v H' => cases h
       | st ex e3 H3 =>
        dsimp only at h
        cases hlo3 : loopOf H3 o with
        | none => rw [hlo3] at h; cases h
        | some q4 =>
         obtain ⟨st3,av3⟩:=q4
         rw [hlo3] at h
         dsimp only at h
         have h':=oif h
         clear h
         obtain ⟨rfl,h⟩:=h'
         obtain ⟨tag,ps,assign,body⟩:=L
         have main : ∀ (v : AV) (H' : Heap),out = .val v H' -> (∀ R : AV -> Heap -> Prop,R v H' -> match (generalizing:=false) ex with
           | .normal => R (.bool true) (H3.set o (some (loopc 0 av3)))
           | .ret => R (.bool false) (H3.set o (some (loopc (-2) av3)))
           | .exit k => R (.bool false) (H3.set o (some (loopc ((k : Int) + 1) av3)))
           | _ => False) -> Good P T (.yld o ⟨tag,ps,assign,body⟩ ys H) out:=by
          intro v H' he hR
          subst he
          refine ycall_of_awp E.mixed e4 ⟨g5,g6⟩ (fun p hp => of_decide_eq_true (List.all_eq_true.1 g4 p hp)) ys H _ av (loopOf_eq hlo) g2 g3 (awp_mono assign _ _ _ _ (fun ex2 e4 H4 hq => ?_) (hih _ _ hi))
          obtain ⟨rfl,rfl,rfl⟩:=hq
          refine ⟨rfl,av2,loopOf_eq hlo2,awp_mono body _ _ _ _ (fun ex5 e5 H5 hq => ?_) (hih _ _ hi3)⟩
          obtain ⟨rfl,rfl,rfl⟩:=hq
          exact ⟨av3,loopOf_eq hlo3,hR (fun v2 H2 => v2 = v /\ H2 = H') ⟨rfl,rfl⟩⟩
         cases ex with
         | normal => cases h; exact main _ _ rfl fun R hr => hr
         | ret => cases h; exact main _ _ rfl fun R hr => hr
         | exit k => cases h; exact main _ _ rfl fun R hr => hr
         | _ => cases h
    | _ => cases h
 ·cases h
theorem step_val (E : EvOk P T) {ih : Task -> Option ROut} (hih : ∀ t out,ih t = some out -> Good P T t out) {hf : FuncId} {o : Oper} (ho : isValue o = true) {vals : List AV} {H : Heap} {v : AV} {H' : Heap} (h : stepVal T ih hf o vals H = some (v,H'))
  {R : AV -> Heap -> Prop} (hr : R v H') : ares P (T.hs hf) o vals H R:=by
 obtain ⟨dst,op,ty,pos,after,guard⟩:=o
 cases op <;> first | cases ho | skip
 rename_i c
 obtain ⟨callee,args0,ts⟩:=c
 cases callee <;> first | cases ho | skip
 rename_i fo
 unfold stepVal at h
 cases vals with
 | nil => cases h
 | cons a args =>
  cases a <;> first | cases h | skip
  case fn f first captured =>
   cases f <;> first | cases h | skip
   rename_i f
   dsimp only at h
   cases hb : (Option.any (T.hs hf).pc.contains dst) with
   | true =>
    rw [hb] at h
    dsimp only at h
    have h':=oif h
    clear h
    obtain ⟨hp,h⟩:=h'
    cases hi : ih (.call f (first.map AV.borrow ++ args ++ captured.map AV.borrow) []) with
    | none => rw [hi] at h; cases h
    | some q =>
     rw [hi] at h
     cases q with
     | st _ _ _ => cases h
     | val v1 H1 =>
      dsimp only at h
      have h':=oif h
      clear h
      obtain ⟨hpv,h⟩:=h'
      cases h
      have hpc : PCall P f (first.map AV.borrow ++ args ++ captured.map AV.borrow) v:=PCall.of_nil (ACall.mono (show ACall P f _ [] (fun v2 H2 => v2 = v /\ H2 = H1) from hih _ _ hi) fun _ _ hq => hq.1) hp hpv
      simp only [ares,hb]
      cases hmt : Option.any (T.hs hf).mt.contains dst with
      | true => exact ⟨v,fun H2 _ => hpc H2,hr⟩
      | false => exact ⟨v,hpc,hr⟩
   | false =>
    rw [hb] at h
    dsimp only at h
    cases hi : ih (.call f (first.map AV.borrow ++ args ++ captured.map AV.borrow) H) with
    | none => rw [hi] at h; cases h
    | some q =>
     rw [hi] at h
     cases q with
     | st _ _ _ => cases h
     | val v1 H1 =>
      dsimp only at h
      have h':=oif h
      clear h
      obtain ⟨hpf,h⟩:=h'
      cases h
      have hA : ACall P f (first.map AV.borrow ++ args ++ captured.map AV.borrow) H (fun v2 H2 => v2 = v /\ H2 = H'):=hih _ _ hi
      simp only [ares,hb]
      cases hmt : Option.any (T.hs hf).mt.contains dst with
      | true =>
       rw [hmt,Bool.not_true,Bool.false_or] at hpf
       obtain ⟨ext,rfl⟩:=prefH_ok _ _ hpf
       exact ⟨v,ext,hA,hr⟩
      | false => exact hA.mono fun v2 H2 hq => by obtain ⟨rfl,rfl⟩:=hq; exact hr
  case yld o' L =>
   dsimp only at h
   cases hb : (Option.any (T.hs hf).pc.contains dst || Option.any (T.hs hf).mt.contains dst) with
   | true => rw [hb] at h; cases h
   | false =>
    rw [hb] at h
    rw [Bool.or_eq_false_iff] at hb
    dsimp only at h
    cases hi : ih (.yld o' L args H) with
    | none => rw [hi] at h; cases h
    | some q =>
     rw [hi] at h
     cases q with
     | st _ _ _ => cases h
     | val v1 H1 =>
      cases h
      simp only [ares]
      exact ⟨⟨hb.1,hb.2⟩,YCall.mono (show YCall P o' L args H (fun v2 H2 => v2 = v /\ H2 = H') from hih _ _ hi) fun v2 H2 hq => by obtain ⟨rfl,rfl⟩:=hq; exact hr⟩
theorem step_ops (E : EvOk P T) {ih : Task -> Option ROut} (hih : ∀ t out,ih t = some out -> Good P T t out) {hf : FuncId} {n : Nat} {os : Array Oper} {l : List Oper} {e : Env} {H : Heap} {out : ROut} (h : stepOps P T ih hf n os l e H = some out) : Good P T (.ops hf n os l e H) out:=by
 unfold stepOps at h
 cases l with
 | nil => cases h; exact ⟨rfl,rfl,rfl⟩
 | cons o l =>
  have next : ∀ {e1 : Env} {H1 : Heap},ih (.ops hf n os l e1 H1) = some out -> ∃ e' H',out = .st .normal e' H' /\ arun P n (T.hs hf) os l (fun e2 H2 => e2 = e' /\ H2 = H') e1 H1:=fun hi => by
   have hg:=hih _ _ hi
   cases out with
   | val v H' => exact hg.elim
   | st ex e' H' => obtain ⟨rfl,hg⟩:=hg; exact ⟨e',H',rfl,hg⟩
  dsimp only at h
  cases hag : agd os e o with
  | none => rw [hag] at h; cases h
  | some b =>
   rw [hag] at h
   cases b with
   | false =>
    dsimp only at h
    obtain ⟨hd,h⟩:=oif h
    obtain ⟨e',H',rfl,hg⟩:=next h
    refine ⟨rfl, ?_⟩
    show aop P n (T.hs hf) os o _ e H
    unfold aop
    rw [hag]
    exact ⟨dstF_ok hd,hg⟩
   | true =>
    dsimp only at h
    have h':=oif h
    clear h
    obtain ⟨hd,h⟩:=h'
    cases hv : (match isValue o with
      | true => stepVal T ih hf o (evs P (opTy o) (taking (T.hs hf) o) o.op.operands.toList e).1 H
      | false => aresF P T.wk (T.hs hf) o (evs P (opTy o) (taking (T.hs hf) o) o.op.operands.toList e).1 H) with
    | none => rw [hv] at h; cases h
    | some q =>
     obtain ⟨v,H1⟩:=q
     rw [hv] at h
     obtain ⟨e',H',rfl,hg⟩:=next h
     refine ⟨rfl, ?_⟩
     show aop P n (T.hs hf) os o _ e H
     unfold aop
     rw [hag]
     refine ⟨dstF_ok hd, ?_⟩
     cases hval : isValue o with
     | true => rw [hval] at hv; exact step_val E hih hval hv hg
     | false => rw [hval] at hv; exact aresF_ok E.wide hv hg
theorem step_code (E : EvOk P T) {ih : Task -> Option ROut} (hih : ∀ t out,ih t = some out -> Good P T t out) {hf : FuncId} {n : Nat} {ar : Option Nat} {c : Code} {e : Env} {H : Heap} {out : ROut} (h : stepCode P T ih hf n ar c e H = some out) : Good P T (.code hf n ar c e H) out:=by
 have part : ∀ {c : Code} {e : Env} {H : Heap} {out : ROut},ih (.code hf n ar c e H) = some out -> ∃ ex e' H',out = .st ex e' H' /\ awp P n (T.hs hf) ar c (fun ex2 e2 H2 => ex2 = ex /\ e2 = e' /\ H2 = H') e H:=fun {c e H out} hi => by
  have hg:=hih _ _ hi
  cases out with
  | val v H' => exact hg.elim
  | st ex e' H' => exact ⟨ex,e',H',rfl,hg⟩
 cases c with
 | skip => cases h; exact ⟨rfl,rfl,rfl⟩
 | ret => cases h; exact ⟨rfl,rfl,rfl⟩
 | exit id => cases h; exact ⟨rfl,rfl,rfl⟩
 | region id ops draw =>
  simp only [stepCode] at h
  cases hi : ih (.ops hf n ops ((T.hs hf).ord id ops) e H) with
  | none => rw [hi] at h; cases h
  | some q =>
   rw [hi] at h
   have hg:=hih _ _ hi
   cases q with
   | val v H' => cases h
   | st ex e1 H1 =>
    obtain ⟨rfl,hg⟩:=hg
    dsimp only at h
    obtain ⟨hdy,h⟩:=oif h
    cases h
    refine arun_mono' _ _ _ _ _ (fun e2 H2 hq => ?_) hg
    obtain ⟨rfl,rfl⟩:=hq
    refine ⟨fun hd => ?_,rfl,rfl,rfl⟩
    rw [hd] at hdy
    exact dynB_ok (by simpa using hdy)
 | seq a b =>
  simp only [stepCode] at h
  cases hi : ih (.code hf n ar a e H) with
  | none => rw [hi] at h; cases h
  | some q =>
   rw [hi] at h
   obtain ⟨ex,e1,H1,rfl,hg⟩:=part hi
   have other : ex ≠ .normal -> out = .st ex e1 H1 -> Good P T (.code hf n ar (.seq a b) e H) out:=fun hne he => by
    subst he
    refine awp_mono a _ _ _ _ (fun ex2 e2 H2 hq => ?_) hg
    obtain ⟨rfl,rfl,rfl⟩:=hq
    cases ex2 <;> first | exact absurd rfl hne | exact ⟨rfl,rfl,rfl⟩
   cases ex with
   | normal =>
    dsimp only at h
    obtain ⟨ex',e',H',rfl,hg2⟩:=part h
    refine awp_mono a _ _ _ _ (fun ex2 e2 H2 hq => ?_) hg
    obtain ⟨rfl,rfl,rfl⟩:=hq
    exact hg2
   | _ => cases h; exact other (by simp) rfl
 | cond c a b =>
  simp only [stepCode] at h
  cases hc : evo P none e c with
  | bool t =>
   rw [hc] at h
   dsimp only at h
   have hg : ∃ ex e' H',out = .st ex e' H' /\ awp P n (T.hs hf) ar (if t = true then a else b) (fun ex2 e2 H2 => ex2 = ex /\ e2 = e' /\ H2 = H') e H:=by
    cases t with
    | true => exact part h
    | false => exact part h
   obtain ⟨ex,e',H',rfl,hg⟩:=hg
   show awp P n (T.hs hf) ar (.cond c a b) _ e H
   simp only [awp,hc]
   cases t with
   | true => exact hg
   | false => exact hg
  | _ => rw [hc] at h; cases h
 | block id c =>
  simp only [stepCode] at h
  cases hi : ih (.code hf n ar c e H) with
  | none => rw [hi] at h; cases h
  | some q =>
   rw [hi] at h
   obtain ⟨ex,e1,H1,rfl,hg⟩:=part hi
   cases ex with
   | exit j =>
    dsimp only at h
    by_cases hj : j = id
    ·rw [if_pos hj] at h
     cases h
     refine awp_mono c _ _ _ _ (fun ex2 e2 H2 hq => ?_) hg
     obtain ⟨rfl,rfl,rfl⟩:=hq
     dsimp only
     rw [if_pos hj]
     exact ⟨rfl,rfl,rfl⟩
    ·rw [if_neg hj] at h
     cases h
     refine awp_mono c _ _ _ _ (fun ex2 e2 H2 hq => ?_) hg
     obtain ⟨rfl,rfl,rfl⟩:=hq
     dsimp only
     rw [if_neg hj]
     exact ⟨rfl,rfl,rfl⟩
   | _ =>
    cases h
    refine awp_mono c _ _ _ _ (fun ex2 e2 H2 hq => ?_) hg
    obtain ⟨rfl,rfl,rfl⟩:=hq
    exact ⟨rfl,rfl,rfl⟩
 | loop c =>
  simp only [stepCode] at h
  cases hi : ih (.code hf n ar c e H) with
  | none => rw [hi] at h; cases h
  | some q =>
   rw [hi] at h
   obtain ⟨ex,e1,H1,rfl,hg⟩:=part hi
   have other : ex ≠ .normal -> out = .st ex e1 H1 -> Good P T (.code hf n ar (.loop c) e H) out:=fun hne he => by
    subst he
    refine ⟨fun e' H' => e' = e /\ H' = H,fun _ _ => 0,⟨rfl,rfl⟩,fun e' H' hI => ?_⟩
    obtain ⟨rfl,rfl⟩:=hI
    refine awp_mono c _ _ _ _ (fun ex2 e2 H2 hq => ?_) hg
    obtain ⟨rfl,rfl,rfl⟩:=hq
    cases ex2 <;> first | exact absurd rfl hne | exact ⟨rfl,rfl,rfl⟩
   cases ex with
   | normal =>
    dsimp only at h
    obtain ⟨ex',e',H',rfl,I,μ,hI,hr⟩:=part h
    classical
    by_cases hold : I e H
    ·exact ⟨I,μ,hold,hr⟩
    ·refine ⟨fun e2 H2 => (e2 = e /\ H2 = H) \/ I e2 H2,fun e2 H2 => if e2 = e /\ H2 = H then μ e1 H1 + 1 else μ e2 H2,.inl ⟨rfl,rfl⟩,fun e2 H2 hI2 => ?_⟩
     have hne : ∀ {e3 : Env} {H3 : Heap},I e3 H3 -> ¬ (e3 = e /\ H3 = H):=fun h3 hh => hold (by rw [<- hh.1,<- hh.2]; exact h3)
     by_cases hat : e2 = e /\ H2 = H
     ·obtain ⟨rfl,rfl⟩:=hat
      refine awp_mono c _ _ _ _ (fun ex2 e3 H3 hq => ?_) hg
      obtain ⟨rfl,rfl,rfl⟩:=hq
      dsimp only
      refine ⟨.inr hI, ?_⟩
      rw [if_neg (hne hI),if_pos ⟨rfl,rfl⟩]
      omega
     ·have hI3 : I e2 H2:=hI2.resolve_left hat
      refine awp_mono c _ _ _ _ (fun ex2 e3 H3 hq => ?_) (hr e2 H2 hI3)
      cases ex2 with
      | normal =>
       refine ⟨.inr hq.1, ?_⟩
       dsimp only
       rw [if_neg hat,if_neg (hne hq.1)]
       exact hq.2
      | _ => exact hq
   | _ => cases h; exact other (by simp) rfl
 | rangeFunc g ps assign body =>
  simp only [stepCode] at h
  cases hg : evo P none e g with
  | fn f first captured =>
   rw [hg] at h
   cases f with
   | func f =>
    dsimp only at h
    have h':=oif h
    clear h
    obtain ⟨har,h⟩:=h'
    cases hi : ih (.call f (first.map AV.borrow ++ [.yld H.length ⟨hf,ps,assign,body⟩] ++ captured.map AV.borrow) (H ++ [some (loopc 0 (frameVals n e))])) with
    | none => rw [hi] at h; cases h
    | some q =>
     rw [hi] at h
     have hc:=hih _ _ hi
     cases q with
     | st _ _ _ => cases h
     | val v H2 =>
      dsimp only at h
      cases hlo : loopOf H2 H.length with
      | none => rw [hlo] at h; cases h
      | some q2 =>
       obtain ⟨st,av⟩:=q2
       rw [hlo] at h
       dsimp only at h
       have fin : ∀ ex : Exit,out = .st ex e (H2.set H.length none) -> (∀ Q : Exit -> Kt,Q ex e (H2.set H.length none) -> (st = 0 /\ Q .normal e (H2.set H.length none)) \/ (st = -2 /\ Q .ret e (H2.set H.length none)) \/ ∃ k : Nat,st = (k : Int) + 1 /\ Q (.exit k) e (H2.set H.length none)) ->
         Good P T (.code hf n ar (.rangeFunc g ps assign body) e H) out:=by
        intro ex he hQ
        subst he
        refine ⟨aroundF_ok har,hf,f,first,captured,hg,ACall.mono (show ACall P f _ _ (fun v2 H3 => v2 = v /\ H3 = H2) from hc) fun v2 H3 hq => ?_⟩
        obtain ⟨rfl,rfl⟩:=hq
        exact ⟨st,av,loopOf_eq hlo,hQ (fun ex2 e2 H2' => ex2 = ex /\ e2 = e /\ H2' = _) ⟨rfl,rfl,rfl⟩⟩
       by_cases h0 : st = 0
       ·rw [if_pos h0] at h
        cases h; exact fin _ rfl fun Q hq => .inl ⟨h0,hq⟩
       ·rw [if_neg h0] at h
        by_cases h2 : st = -2
        ·rw [if_pos h2] at h
         cases h; exact fin _ rfl fun Q hq => .inr (.inl ⟨h2,hq⟩)
        ·rw [if_neg h2] at h
         have h':=oif h
         clear h
         obtain ⟨hp,h⟩:=h'
         cases h
         exact fin _ rfl fun Q hq => .inr (.inr ⟨(st - 1).toNat,by omega,hq⟩)
   | _ => cases h
  | _ => rw [hg] at h; cases h
 | _ => cases h
theorem run_ok (E : EvOk P T) : ∀ (k : Nat) (t : Task) (out : ROut),runT P T k t = some out -> Good P T t out
 | 0,t,out,h => by cases h
 | k + 1,t,out,h => by
  have hih:=run_ok E k
  have h : stepT P T (runT P T k) t = some out:=h
  cases t with
  | call f vs H => exact step_call E hih h
  | yld o L ys H => exact step_yld E hih h
  | code hf n ar c e H => exact step_code E hih h
  | ops hf n os l e H => exact step_ops E hih h
theorem ACall.run (E : EvOk P T) (k : Nat) {f : FuncId} {vs : List AV} {H : Heap} {v : AV} {H' : Heap} (h : runT P T k (.call f vs H) = some (.val v H')) : ACall P f vs H fun v2 H2 => v2 = v /\ H2 = H':=run_ok E k _ _ h
theorem PCall.run (E : EvOk P T) (k : Nat) {f : FuncId} {vs : List AV} {v : AV} (hp : pureL vs = true) (hv : v.pure = true) (h : (match runT P T k (.call f vs []) with | some (.val v2 _) => some v2 | _ => none) = some v) : PCall P f vs v:=by
 cases hr : runT P T k (.call f vs []) with
 | none => rw [hr] at h; cases h
 | some q =>
  rw [hr] at h
  cases q with
  | st _ _ _ => cases h
  | val v2 H2 =>
   cases h
   exact PCall.of_nil ((ACall.run E k hr).mono fun _ _ hq => hq.1) hp hv
end
end Go.AI
namespace Go.AI
inductive ETree where
 | nil
 | node (l : ETree) (k : Nat) (fn : Func) (h : Hint) (r : ETree)
def ETree.find : ETree -> Nat -> Option (Func × Hint)
 | .nil,_ => none
 | .node l k fn h r,f => bif Nat.beq f k then some (fn,h) else bif Nat.blt f k then l.find f else r.find f
def FnOk (P : Program) (f : Nat) (fn : Func) (h : Hint) : Prop:=P.funcs[f]? = some fn /\ callable P f = true /\ fn.body.any (drawsOk h) = true /\ h.gc = []
def ETree.All (P : Program) : ETree -> Prop
 | .nil => True
 | .node l k fn h r => l.All P /\ FnOk P k fn h /\ r.All P
theorem ETree.find_ok {P : Program} : ∀ {t : ETree} {f : Nat} {fn : Func} {h : Hint},t.All P -> t.find f = some (fn,h) -> FnOk P f fn h
 | .nil,f,fn,h,_,hf => by cases hf
 | .node l k fn' h' r,f,fn,h,ha,hf => by
  simp only [ETree.find] at hf
  cases hb : Nat.beq f k with
  | true =>
   rw [hb] at hf
   cases hf
   have:=Nat.eq_of_beq_eq_true hb
   subst this
   exact ha.2.1
  | false =>
   rw [hb] at hf
   cases hl : Nat.blt f k with
   | true => rw [hl] at hf; exact ETree.find_ok ha.1 hf
   | false => rw [hl] at hf; exact ETree.find_ok ha.2.2 hf
def noHint : Hint:=⟨[],[],[],[],[],[],[]⟩
abbrev Orc:=FuncId -> List AV -> Heap -> Option (AV × Heap)
def noOrc : Orc:=fun _ _ _ => none
def OrcOk (P : Program) (o : Orc) : Prop:=∀ f vs H v H',o f vs H = some (v,H') -> ACall P f vs H fun v2 H2 => v2 = v /\ H2 = H'
theorem noOrc_ok (P : Program) : OrcOk P noOrc:=fun _ _ _ _ _ h => by cases h
def ETree.evt (t : ETree) (wk : List TypeId) (o : Orc) : EvT:=⟨fun f => (t.find f).map (·.1),fun f => ((t.find f).map (·.2)).getD noHint,wk,o⟩
theorem ETree.ok {P : Program} {t : ETree} {wk : List TypeId} {o : Orc} (hm : P.follows .mixedOrders = true) (hw : WideOk P wk) (ho : OrcOk P o) (ha : t.All P) : EvOk P (t.evt wk o):=by
 refine ⟨hm,hw,fun f fn hf => ?_,ho⟩
 obtain ⟨⟨fn',h⟩,h1,rfl⟩:=mapS hf
 have hh : (t.evt wk o).hs f = h:=by simp only [ETree.evt,h1]; rfl
 rw [hh]
 exact ETree.find_ok ha h1
end Go.AI
namespace Go.AI
open Go.Proofs
noncomputable def e5 : Hint:=hx [1,2,6,6,30,122,506,4090,24570,122874,516090,2088954,0x800000000000000000000000000a9202,1,2789890,6984194,15372802,1] [124,137,138,141,142,146,152,157] [31] [(1,[(1,some 5,true)]),(3,[(2,some 5,true)])] [51,60] [] []
theorem e5_k : FnOk Tryz.prog 5 Tryz.f5 e5:=⟨Tryz.func5,by kernel_rfl,by kernel_rfl,rfl⟩
noncomputable def e6 : Hint:=hm [206,462,8640,960,448,2097344,1,192] [15,16] [] []
theorem e6_k : FnOk Tryz.prog 6 Tryz.f6 e6:=⟨Tryz.func6,by kernel_rfl,by kernel_rfl,rfl⟩
noncomputable def e8 : Hint:=hm [14,776,4294968072,192,1288,240518169864,515396076808,240518173960,240518182152,31026843755784,66211215844616,31026843788552,31026843755784,31026843755784,0x200003800000508,0xa00003800000508,0x200003800010508,0x200003800000508,240518169864,132360,0xc00000000000020500,0x1c00000000000020500,0xc00000000000060500,0x80c00000000000060500,0xc00000000000020500,0xc00000000000020500,192] [42,80,85] [] []
theorem e8_k : FnOk Tryz.prog 8 Tryz.f8 e8:=⟨Tryz.func8,by kernel_rfl,by kernel_rfl,rfl⟩
noncomputable def e10 : Hint:=hm [3,2051,16,35,32803,35,99,268435491,16,16] [] [] []
theorem e10_k : FnOk Tryz.prog 10 Tryz.f10 e10:=⟨Tryz.func10,by kernel_rfl,by kernel_rfl,rfl⟩
noncomputable def e11 : Hint:=hm [3,1027,16,35,16419,35,33554467,16,16] [] [] []
theorem e11_k : FnOk Tryz.prog 11 Tryz.f11 e11:=⟨Tryz.func11,by kernel_rfl,by kernel_rfl,rfl⟩
noncomputable def e12 : Hint:=hm [6,38,3622,7718,3750,8392358,3622,3622,16] [] [] []
theorem e12_k : FnOk Tryz.prog 12 Tryz.f12 e12:=⟨Tryz.func12,by kernel_rfl,by kernel_rfl,rfl⟩
noncomputable def e15 : Hint:=hx [22,52,116,116,7516192884,16106127476,7516193140,282394100084,7516192884,7516192884,0x700000000000070,0xf00000000000070,0x700000000000470,0x8700000000000470,0x18700000000000470,0x700000000000470,0x200700000000000470,0x700000000000070,0x700000000000070,16] [74] [] [(10,[(6,some 2,true)])] [18] [] []
theorem e15_k : FnOk Tryz.prog 15 Tryz.f15 e15:=⟨Tryz.func15,by kernel_rfl,by kernel_rfl,rfl⟩
noncomputable def e17 : Hint:=hm [6,7170,15362,7362,7490,2104642,48,7170,48] [] [] []
theorem e17_k : FnOk Tryz.prog 17 Tryz.f17 e17:=⟨Tryz.func17,by kernel_rfl,by kernel_rfl,rfl⟩
noncomputable def e19 : Hint:=hm [6,2054,16,16] [] [] []
theorem e19_k : FnOk Tryz.prog 19 Tryz.f19 e19:=⟨Tryz.func19,by kernel_rfl,by kernel_rfl,rfl⟩
noncomputable def e22 : Hint:=hx [1,3,3,3,917507,1966083,917519,917507,917507,240518168579,515396075523,240518168627,240518168579,240518168579,3,1] [26,43] [63] [(2,[(1,some 0,true)])] [53] [] []
theorem e22_k : FnOk Tryz.prog 22 Tryz.f22 e22:=⟨Tryz.func22,by kernel_rfl,by kernel_rfl,rfl⟩
noncomputable def e23 : Hint:=hm [2,18,65554,12,34,4194338,12,8589934594,12,66,412316860482,962072674370,412316860610,412316860866,70781061038530,12,412316860482,0x38000000000002,0x78000000000002,0x38000000000602,0x38000000000a02,0x4038000000000a02,12,0x38000000000002,0x80000000000000000,12,12] [] [] []
theorem e23_k : FnOk Tryz.prog 23 Tryz.f23 e23:=⟨Tryz.func23,by kernel_rfl,by kernel_rfl,rfl⟩
noncomputable def e24 : Hint:=hx [90,2138,6234,481036343386,0xf00000185a,481036367962,481036449882,563430989805658,481036343386,481036343386,137242,399386,923674,0x20000000000e181a,923674,1972250,4069402,8263706,121509914,0x10000000000000000033e181a,1792,20846618,0x3800000000000000000003e181a,0x7800000000000000000003e181a,0x3800000000000000000103e181a,0x3800000000000000000703e181a,0x1003800000000000000000303e181a,0x3800000000000000000b03e181a,0x100003800000000000000000b03e181a,0x3800000000000000000003e181a,0x3800000000000000001903e181a,0x3800000000000000001903e181a,0x3800000000000000000003e181a,0x3800000000000000000003e181a,0x8000000000000000000000000000000000000e181a,1792,1792] [82,97,101,103,125,168,169,170] [] [(36,[(9,none,false)])] [131,158] [] []
theorem e24_k : FnOk Tryz.prog 24 Tryz.f24 e24:=⟨Tryz.func24,by kernel_rfl,by kernel_rfl,rfl⟩
noncomputable def e25 : Hint:=hx [2,4] [] [] [(1,[(2,none,false)])] [] [] []
theorem e25_k : FnOk Tryz.prog 25 Tryz.f25 e25:=⟨Tryz.func25,by kernel_rfl,by kernel_rfl,rfl⟩
noncomputable def e26 : Hint:=hm [3,2051,16,35,32803,35,99,72057594037927971,16,16] [] [] []
theorem e26_k : FnOk Tryz.prog 26 Tryz.f26 e26:=⟨Tryz.func26,by kernel_rfl,by kernel_rfl,rfl⟩
noncomputable def e27 : Hint:=hm [56,64] [] [] []
theorem e27_k : FnOk Tryz.prog 27 Tryz.f27 e27:=⟨Tryz.func27,by kernel_rfl,by kernel_rfl,rfl⟩
noncomputable def e33 : Hint:=hm [1,17,4,4] [6] [] []
theorem e33_k : FnOk Tryz.prog 33 Tryz.f33 e33:=⟨Tryz.func33,by kernel_rfl,by kernel_rfl,rfl⟩
noncomputable def e35 : Hint:=hm [28,280,1080,120,8240,1,16] [] [] []
theorem e35_k : FnOk Tryz.prog 35 Tryz.f35 e35:=⟨Tryz.func35,by kernel_rfl,by kernel_rfl,rfl⟩
noncomputable def e36 : Hint:=hm [7,64] [] [] []
theorem e36_k : FnOk Tryz.prog 36 Tryz.f36 e36:=⟨Tryz.func36,by kernel_rfl,by kernel_rfl,rfl⟩
noncomputable def e45 : Hint:=hm [1,3,5,13,4109,13,13,5,5,1] [] [9] []
theorem e45_k : FnOk Tryz.prog 45 Tryz.f45 e45:=⟨Tryz.func45,by kernel_rfl,by kernel_rfl,rfl⟩
noncomputable def e46 : Hint:=hm [1,3,1] [] [] []
theorem e46_k : FnOk Tryz.prog 46 Tryz.f46 e46:=⟨Tryz.func46,by kernel_rfl,by kernel_rfl,rfl⟩
noncomputable def e47 : Hint:=hm [2,514,4,67108866,4,1924145348610,4123168604162,1924145348626,9009123400089602,4,1924145348610,0x700000000000002,0xf00000000000002,0x700000000000042,0x4000000700000000000002,4,0x700000000000002,0xe0000000000000000000002,0x1e0000000000000000000002,0xe0000000000000000000102,0x80e0000000000000000000002,4,0xe0000000000000000000002,4] [] [] []
theorem e47_k : FnOk Tryz.prog 47 Tryz.f47 e47:=⟨Tryz.func47,by kernel_rfl,by kernel_rfl,rfl⟩
noncomputable def e48 : Hint:=hm [1,513,4,7169,15361,7193,7225,7289,531545,4,68719483905,4,7169,4] [] [] []
theorem e48_k : FnOk Tryz.prog 48 Tryz.f48 e48:=⟨Tryz.func48,by kernel_rfl,by kernel_rfl,rfl⟩
noncomputable def e49 : Hint:=hm [14,142,398,16777614,64,1166,4294968462,64,0x800000000084,64,0xe000000000084,8444249301319812,0xe000000001084,0x40e000000000084,64,0xe000000000084,0xe000000000000004,0x1e000000000000004,0xe000000000004004,0xe000000000000004,0xe000000000000004,64] [] [] []
theorem e49_k : FnOk Tryz.prog 49 Tryz.f49 e49:=⟨Tryz.func49,by kernel_rfl,by kernel_rfl,rfl⟩
noncomputable def e50 : Hint:=hm [12,108,492,1073741996,16,0x8000000000000c,16,524,0x400000000000020c,16,1032,0x10000000000000000000000000000,16,16] [] [] [42,53]
theorem e50_k : FnOk Tryz.prog 50 Tryz.f50 e50:=⟨Tryz.func50,by kernel_rfl,by kernel_rfl,rfl⟩
noncomputable def e51 : Hint:=hx [2,8,1032,24,524312,4,8,4] [20] [] [(1,[(3,some 0,true)]),(6,[(3,some 0,true)])] [] [] []
theorem e51_k : FnOk Tryz.prog 51 Tryz.f51 e51:=⟨Tryz.func51,by kernel_rfl,by kernel_rfl,rfl⟩
noncomputable def e52 : Hint:=hm [6,1] [3] [] []
theorem e52_k : FnOk Tryz.prog 52 Tryz.f52 e52:=⟨Tryz.func52,by kernel_rfl,by kernel_rfl,rfl⟩
noncomputable def e53 : Hint:=hm [28,88,8280,48,24,48] [] [] []
theorem e53_k : FnOk Tryz.prog 53 Tryz.f53 e53:=⟨Tryz.func53,by kernel_rfl,by kernel_rfl,rfl⟩
noncomputable def e54 : Hint:=hm [1,17,4,4] [6] [5,7] []
theorem e54_k : FnOk Tryz.prog 54 Tryz.f54 e54:=⟨Tryz.func54,by kernel_rfl,by kernel_rfl,rfl⟩
noncomputable def e55 : Hint:=hm [2,18,1810,3858,1874,1874,4196178,12,1810,1810,12] [23,28] [] []
theorem e55_k : FnOk Tryz.prog 55 Tryz.f55 e55:=⟨Tryz.func55,by kernel_rfl,by kernel_rfl,rfl⟩
noncomputable def e56 : Hint:=hm [279,24599,1879072789,4026556437,1879138325,1879269397,122138345493,259577298965,122138869781,122141491221,122140442645,0x400001c70034015,7168,122138345493,1879269397,0xe000000070016015,0x1e000000070016015,0xe000000070816015,0xe000000070816015,0xe000000071816015,0x4000e000000070816015,0xe000000070016015,0xe000000070016015,1879072789,7168] [28,34,49,50,59,61,71,79,85,86] [] []
theorem e56_k : FnOk Tryz.prog 56 Tryz.f56 e56:=⟨Tryz.func56,by kernel_rfl,by kernel_rfl,rfl⟩
noncomputable def e57 : Hint:=hm [28,88,4184,48,24,48] [] [] []
theorem e57_k : FnOk Tryz.prog 57 Tryz.f57 e57:=⟨Tryz.func57,by kernel_rfl,by kernel_rfl,rfl⟩
noncomputable def e58 : Hint:=hm [240,256] [] [] []
theorem e58_k : FnOk Tryz.prog 58 Tryz.f58 e58:=⟨Tryz.func58,by kernel_rfl,by kernel_rfl,rfl⟩
noncomputable def e59 : Hint:=hm [1,17,4,4] [6] [] []
theorem e59_k : FnOk Tryz.prog 59 Tryz.f59 e59:=⟨Tryz.func59,by kernel_rfl,by kernel_rfl,rfl⟩
noncomputable def e60 : Hint:=hm [12,64,48] [] [] []
theorem e60_k : FnOk Tryz.prog 60 Tryz.f60 e60:=⟨Tryz.func60,by kernel_rfl,by kernel_rfl,rfl⟩
noncomputable def e61 : Hint:=hm [30,62,40,1] [] [] []
theorem e61_k : FnOk Tryz.prog 61 Tryz.f61 e61:=⟨Tryz.func61,by kernel_rfl,by kernel_rfl,rfl⟩
noncomputable def e62 : Hint:=hm [63,32827,256,14680115,31457331,14681651,68734158387,14682675,72057594052608051,256,14680115,256] [17] [] [18]
theorem e62_k : FnOk Tryz.prog 62 Tryz.f62 e62:=⟨Tryz.func62,by kernel_rfl,by kernel_rfl,rfl⟩
noncomputable def e67 : Hint:=hm [2,4] [] [] []
theorem e67_k : FnOk Tryz.prog 67 Tryz.f67 e67:=⟨Tryz.func67,by kernel_rfl,by kernel_rfl,rfl⟩
noncomputable def e83 : Hint:=hm [3,35,7202,15394,7330,7458,67116322,16,7202,7202,16] [10] [] []
theorem e83_k : FnOk Tryz.prog 83 Tryz.f83 e83:=⟨Tryz.func83,by kernel_rfl,by kernel_rfl,rfl⟩
noncomputable def e84 : Hint:=hm [2,4] [] [] []
theorem e84_k : FnOk Tryz.prog 84 Tryz.f84 e84:=⟨Tryz.func84,by kernel_rfl,by kernel_rfl,rfl⟩
noncomputable def e85 : Hint:=hm [3,35,7202,15394,7330,7458,67116322,16,7202,7202,16] [10] [] []
theorem e85_k : FnOk Tryz.prog 85 Tryz.f85 e85:=⟨Tryz.func85,by kernel_rfl,by kernel_rfl,rfl⟩
noncomputable def e86 : Hint:=hm [2,4] [] [] []
theorem e86_k : FnOk Tryz.prog 86 Tryz.f86 e86:=⟨Tryz.func86,by kernel_rfl,by kernel_rfl,rfl⟩
noncomputable def e87 : Hint:=hm [7,64] [] [] []
theorem e87_k : FnOk Tryz.prog 87 Tryz.f87 e87:=⟨Tryz.func87,by kernel_rfl,by kernel_rfl,rfl⟩
noncomputable def e88 : Hint:=hm [6,16] [] [] []
theorem e88_k : FnOk Tryz.prog 88 Tryz.f88 e88:=⟨Tryz.func88,by kernel_rfl,by kernel_rfl,rfl⟩
noncomputable def e89 : Hint:=hm [6,8] [] [] []
theorem e89_k : FnOk Tryz.prog 89 Tryz.f89 e89:=⟨Tryz.func89,by kernel_rfl,by kernel_rfl,rfl⟩
noncomputable def e91 : Hint:=hm [1,9,4] [] [] []
theorem e91_k : FnOk Tryz.prog 91 Tryz.f91 e91:=⟨Tryz.func91,by kernel_rfl,by kernel_rfl,rfl⟩
noncomputable def e92 : Hint:=hm [1,1] [] [] []
theorem e92_k : FnOk Tryz.prog 92 Tryz.f92 e92:=⟨Tryz.func92,by kernel_rfl,by kernel_rfl,rfl⟩
noncomputable def e93 : Hint:=hm [3,16] [5] [] []
theorem e93_k : FnOk Tryz.prog 93 Tryz.f93 e93:=⟨Tryz.func93,by kernel_rfl,by kernel_rfl,rfl⟩
noncomputable def e94 : Hint:=hm [12,17179869196,16,44,549755813932,16,76,35184372088908,16,0x700000000000c,0xf00000000000c,0x700000000010c,0x700000000030c,0x100700000000030c,16,0x700000000050c,0x4000700000000050c,16,0x200000700000000000c,16,0x700000000000c,0x70000000000000000008,0xf0000000000000000008,0x70000000000000001008,0x20000000070000000000000000008,16,0x70000000000000000008,0x200000000000000000000000000000,16,16] [] [] []
theorem e94_k : FnOk Tryz.prog 94 Tryz.f94 e94:=⟨Tryz.func94,by kernel_rfl,by kernel_rfl,rfl⟩
noncomputable def e95 : Hint:=hm [9,41,553,16,16] [11] [] []
theorem e95_k : FnOk Tryz.prog 95 Tryz.f95 e95:=⟨Tryz.func95,by kernel_rfl,by kernel_rfl,rfl⟩
noncomputable def e96 : Hint:=hm [1,17,4,4] [6] [5,7] []
theorem e96_k : FnOk Tryz.prog 96 Tryz.f96 e96:=⟨Tryz.func96,by kernel_rfl,by kernel_rfl,rfl⟩
noncomputable def e97 : Hint:=hm [3,35,4131,16,99,524387,99,227,536871139,99,99,33,16] [13,39] [] []
theorem e97_k : FnOk Tryz.prog 97 Tryz.f97 e97:=⟨Tryz.func97,by kernel_rfl,by kernel_rfl,rfl⟩
noncomputable def e98 : Hint:=hm [6,8] [] [] []
theorem e98_k : FnOk Tryz.prog 98 Tryz.f98 e98:=⟨Tryz.func98,by kernel_rfl,by kernel_rfl,rfl⟩
noncomputable def e99 : Hint:=hm [3,16] [5] [] []
theorem e99_k : FnOk Tryz.prog 99 Tryz.f99 e99:=⟨Tryz.func99,by kernel_rfl,by kernel_rfl,rfl⟩
noncomputable def e100 : Hint:=hm [6,8] [] [] []
theorem e100_k : FnOk Tryz.prog 100 Tryz.f100 e100:=⟨Tryz.func100,by kernel_rfl,by kernel_rfl,rfl⟩
noncomputable def e101 : Hint:=hm [28,540,16,60,16] [] [] [12,14,19,21,24,25]
theorem e101_k : FnOk Tryz.prog 101 Tryz.f101 e101:=⟨Tryz.func101,by kernel_rfl,by kernel_rfl,rfl⟩
noncomputable def e102 : Hint:=hm [2,4] [] [] []
theorem e102_k : FnOk Tryz.prog 102 Tryz.f102 e102:=⟨Tryz.func102,by kernel_rfl,by kernel_rfl,rfl⟩
noncomputable def e103 : Hint:=hx [105,768] [10] [12] [] [] [] [2006,2007]
theorem e103_k : FnOk Tryz.prog 103 Tryz.f103 e103:=⟨Tryz.func103,by kernel_rfl,by kernel_rfl,rfl⟩
noncomputable def e104 : Hint:=hx [1365,525653,7168,9557,25941,91460,91456,72057594038019392,75072,0x400000000000010500,7168,7168] [21,31,41,60] [] [] [] [] [10,11]
theorem e104_k : FnOk Tryz.prog 104 Tryz.f104 e104:=⟨Tryz.func104,by kernel_rfl,by kernel_rfl,rfl⟩
noncomputable def e105 : Hint:=hm [3,387,899,419,65955,16,387,16] [] [] []
theorem e105_k : FnOk Tryz.prog 105 Tryz.f105 e105:=⟨Tryz.func105,by kernel_rfl,by kernel_rfl,rfl⟩
noncomputable def e106 : Hint:=hm [62,64] [] [] [30]
theorem e106_k : FnOk Tryz.prog 106 Tryz.f106 e106:=⟨Tryz.func106,by kernel_rfl,by kernel_rfl,rfl⟩
noncomputable def e107 : Hint:=hx [105,256] [9] [11] [] [] [] [2006,2007]
theorem e107_k : FnOk Tryz.prog 107 Tryz.f107 e107:=⟨Tryz.func107,by kernel_rfl,by kernel_rfl,rfl⟩
noncomputable def e108 : Hint:=hm [3,387,899,419,65955,16,387,16] [] [] []
theorem e108_k : FnOk Tryz.prog 108 Tryz.f108 e108:=⟨Tryz.func108,by kernel_rfl,by kernel_rfl,rfl⟩
noncomputable def e109 : Hint:=hm [6,8] [] [] []
theorem e109_k : FnOk Tryz.prog 109 Tryz.f109 e109:=⟨Tryz.func109,by kernel_rfl,by kernel_rfl,rfl⟩
noncomputable def e112 : Hint:=hm [449,961,473,8389057,449] [] [] []
theorem e112_k : FnOk Tryz.prog 112 Tryz.f112 e112:=⟨Tryz.func112,by kernel_rfl,by kernel_rfl,rfl⟩
noncomputable def e126 : Hint:=hm [1,4] [] [] []
theorem e126_k : FnOk Tryz.prog 126 Tryz.f126 e126:=⟨Tryz.func126,by kernel_rfl,by kernel_rfl,rfl⟩
noncomputable def e127 : Hint:=hm [3,16] [] [] []
theorem e127_k : FnOk Tryz.prog 127 Tryz.f127 e127:=⟨Tryz.func127,by kernel_rfl,by kernel_rfl,rfl⟩
noncomputable def e128 : Hint:=hm [3,387,899,419,65955,16,387,16] [] [] []
theorem e128_k : FnOk Tryz.prog 128 Tryz.f128 e128:=⟨Tryz.func128,by kernel_rfl,by kernel_rfl,rfl⟩
noncomputable def e129 : Hint:=hm [28,60,8388636,16,92,67108956,340,2199023255888,1,1,4503599627370512,16,16] [] [] []
theorem e129_k : FnOk Tryz.prog 129 Tryz.f129 e129:=⟨Tryz.func129,by kernel_rfl,by kernel_rfl,rfl⟩
noncomputable def e130 : Hint:=hm [12,40,16424,16,917512,1966088,917640,135135368,16,8796093939720,16,917512,16] [] [] []
theorem e130_k : FnOk Tryz.prog 130 Tryz.f130 e130:=⟨Tryz.func130,by kernel_rfl,by kernel_rfl,rfl⟩
noncomputable def e134 : Hint:=hm [3,35,3618,7714,3746,528034,16,3618,3618,16] [9] [] []
theorem e134_k : FnOk Tryz.prog 134 Tryz.f134 e134:=⟨Tryz.func134,by kernel_rfl,by kernel_rfl,rfl⟩
noncomputable def e136 : Hint:=hm [2,4] [] [] []
theorem e136_k : FnOk Tryz.prog 136 Tryz.f136 e136:=⟨Tryz.func136,by kernel_rfl,by kernel_rfl,rfl⟩
noncomputable def e137 : Hint:=hm [28,1044,52,16436,240,496,67109360,496,536871280,1,4294967312,1,16] [] [] []
theorem e137_k : FnOk Tryz.prog 137 Tryz.f137 e137:=⟨Tryz.func137,by kernel_rfl,by kernel_rfl,rfl⟩
noncomputable def e142 : Hint:=hm [6,14,526,12,4] [] [] [13,14]
theorem e142_k : FnOk Tryz.prog 142 Tryz.f142 e142:=⟨Tryz.func142,by kernel_rfl,by kernel_rfl,rfl⟩
noncomputable def e143 : Hint:=hm [6,34,546,16,8192,16,16] [] [] []
theorem e143_k : FnOk Tryz.prog 143 Tryz.f143 e143:=⟨Tryz.func143,by kernel_rfl,by kernel_rfl,rfl⟩
noncomputable def e144 : Hint:=hm [1,2] [] [] []
theorem e144_k : FnOk Tryz.prog 144 Tryz.f144 e144:=⟨Tryz.func144,by kernel_rfl,by kernel_rfl,rfl⟩
noncomputable def e145 : Hint:=hm [2,26,262170,786458,4,8590196762,4,4503599627632666,4,0x800000000004001a,0x800000000000001a,4,4] [] [] [8]
theorem e145_k : FnOk Tryz.prog 145 Tryz.f145 e145:=⟨Tryz.func145,by kernel_rfl,by kernel_rfl,rfl⟩
noncomputable def e146 : Hint:=hm [3,129,48,48] [8] [] []
theorem e146_k : FnOk Tryz.prog 146 Tryz.f146 e146:=⟨Tryz.func146,by kernel_rfl,by kernel_rfl,rfl⟩
noncomputable def e147 : Hint:=hm [12,44,36,32,16] [] [] []
theorem e147_k : FnOk Tryz.prog 147 Tryz.f147 e147:=⟨Tryz.func147,by kernel_rfl,by kernel_rfl,rfl⟩
noncomputable def e173 : Hint:=hm [3,16] [] [] []
theorem e173_k : FnOk Tryz.prog 173 Tryz.f173 e173:=⟨Tryz.func173,by kernel_rfl,by kernel_rfl,rfl⟩
noncomputable def e174 : Hint:=hm [2,4] [] [] []
theorem e174_k : FnOk Tryz.prog 174 Tryz.f174 e174:=⟨Tryz.func174,by kernel_rfl,by kernel_rfl,rfl⟩
noncomputable def e175 : Hint:=hm [3,16] [5] [] []
theorem e175_k : FnOk Tryz.prog 175 Tryz.f175 e175:=⟨Tryz.func175,by kernel_rfl,by kernel_rfl,rfl⟩
noncomputable def e176 : Hint:=hm [2,4] [] [] []
theorem e176_k : FnOk Tryz.prog 176 Tryz.f176 e176:=⟨Tryz.func176,by kernel_rfl,by kernel_rfl,rfl⟩
noncomputable def e177 : Hint:=hm [3,35,3618,7714,3746,528034,16,3618,3618,16] [9] [] []
theorem e177_k : FnOk Tryz.prog 177 Tryz.f177 e177:=⟨Tryz.func177,by kernel_rfl,by kernel_rfl,rfl⟩
noncomputable def e178 : Hint:=hm [3,16] [5] [] []
theorem e178_k : FnOk Tryz.prog 178 Tryz.f178 e178:=⟨Tryz.func178,by kernel_rfl,by kernel_rfl,rfl⟩
noncomputable def e181 : Hint:=hm [3,35,3618,7714,3746,528034,16,3618,3618,16] [9] [] []
theorem e181_k : FnOk Tryz.prog 181 Tryz.f181 e181:=⟨Tryz.func181,by kernel_rfl,by kernel_rfl,rfl⟩
noncomputable def e183 : Hint:=hm [3,35,32803,16,917507,1966083,917635,917891,269353347,16,918019,34360656387,16,917507,2048,35184372088832,16,16] [39,40] [] []
theorem e183_k : FnOk Tryz.prog 183 Tryz.f183 e183:=⟨Tryz.func183,by kernel_rfl,by kernel_rfl,rfl⟩
noncomputable def e184 : Hint:=hm [3,16] [5] [] []
theorem e184_k : FnOk Tryz.prog 184 Tryz.f184 e184:=⟨Tryz.func184,by kernel_rfl,by kernel_rfl,rfl⟩
noncomputable def e185 : Hint:=hm [2,10,136,24,65560,1,4] [] [] []
theorem e185_k : FnOk Tryz.prog 185 Tryz.f185 e185:=⟨Tryz.func185,by kernel_rfl,by kernel_rfl,rfl⟩
noncomputable def e186 : Hint:=hm [3,8] [] [] []
theorem e186_k : FnOk Tryz.prog 186 Tryz.f186 e186:=⟨Tryz.func186,by kernel_rfl,by kernel_rfl,rfl⟩
noncomputable def e195 : Hint:=hm [6,4] [] [] []
theorem e195_k : FnOk Tryz.prog 195 Tryz.f195 e195:=⟨Tryz.func195,by kernel_rfl,by kernel_rfl,rfl⟩
noncomputable def e196 : Hint:=hm [1,2] [] [] []
theorem e196_k : FnOk Tryz.prog 196 Tryz.f196 e196:=⟨Tryz.func196,by kernel_rfl,by kernel_rfl,rfl⟩
noncomputable def e197 : Hint:=hm [2,10,262154,786442,786442,4,537133066,4,0x400000004000a,4,0x1000000000000004000a,4,0x10000000000000000000004000a,4,0x100000000000000000000000000004000a,4,0x10000000000000000000000000000004000a,0x10000000000000000000000000000000000a,4,4] [] [] []
theorem e197_k : FnOk Tryz.prog 197 Tryz.f197 e197:=⟨Tryz.func197,by kernel_rfl,by kernel_rfl,rfl⟩
noncomputable def e198 : Hint:=hm [2,4] [] [] []
theorem e198_k : FnOk Tryz.prog 198 Tryz.f198 e198:=⟨Tryz.func198,by kernel_rfl,by kernel_rfl,rfl⟩
noncomputable def e199 : Hint:=hm [25,1049,48,81,65617,48,48] [18] [] [8]
theorem e199_k : FnOk Tryz.prog 199 Tryz.f199 e199:=⟨Tryz.func199,by kernel_rfl,by kernel_rfl,rfl⟩
noncomputable def e200 : Hint:=hm [2,4] [] [] []
theorem e200_k : FnOk Tryz.prog 200 Tryz.f200 e200:=⟨Tryz.func200,by kernel_rfl,by kernel_rfl,rfl⟩
noncomputable def e205 : Hint:=hm [19,51,3634,7730,3762,3634,3634,16] [9] [] [18,19]
theorem e205_k : FnOk Tryz.prog 205 Tryz.f205 e205:=⟨Tryz.func205,by kernel_rfl,by kernel_rfl,rfl⟩
noncomputable def e206 : Hint:=hm [28,16] [] [] []
theorem e206_k : FnOk Tryz.prog 206 Tryz.f206 e206:=⟨Tryz.func206,by kernel_rfl,by kernel_rfl,rfl⟩
noncomputable def e207 : Hint:=hm [2,1024,4,4] [] [] []
theorem e207_k : FnOk Tryz.prog 207 Tryz.f207 e207:=⟨Tryz.func207,by kernel_rfl,by kernel_rfl,rfl⟩
noncomputable def e208 : Hint:=hm [12,16] [] [] []
theorem e208_k : FnOk Tryz.prog 208 Tryz.f208 e208:=⟨Tryz.func208,by kernel_rfl,by kernel_rfl,rfl⟩
noncomputable def e209 : Hint:=hm [1,4] [] [] []
theorem e209_k : FnOk Tryz.prog 209 Tryz.f209 e209:=⟨Tryz.func209,by kernel_rfl,by kernel_rfl,rfl⟩
noncomputable def e210 : Hint:=hm [1,4] [] [] []
theorem e210_k : FnOk Tryz.prog 210 Tryz.f210 e210:=⟨Tryz.func210,by kernel_rfl,by kernel_rfl,rfl⟩
noncomputable def e211 : Hint:=hm [35,64] [12] [] []
theorem e211_k : FnOk Tryz.prog 211 Tryz.f211 e211:=⟨Tryz.func211,by kernel_rfl,by kernel_rfl,rfl⟩
noncomputable def e212 : Hint:=hx [124,4220,12412,12412,128,528508,128,2147487864,128,17592186048632,17592186044536,0x1000000000000068,128,128,352,0x400000000000000000160,0xc00000000000000000160,128,0x80000000000000000000160,128,1056,128] [] [56] [] [88,90,98,100] [] [12010,12011]
theorem e212_k : FnOk Tryz.prog 212 Tryz.f212 e212:=⟨Tryz.func212,by kernel_rfl,by kernel_rfl,rfl⟩
noncomputable def e213 : Hint:=hm [12,76,204,108,4194380,16,76,16] [] [] []
theorem e213_k : FnOk Tryz.prog 213 Tryz.f213 e213:=⟨Tryz.func213,by kernel_rfl,by kernel_rfl,rfl⟩
noncomputable def e214 : Hint:=hm [22,16] [] [] []
theorem e214_k : FnOk Tryz.prog 214 Tryz.f214 e214:=⟨Tryz.func214,by kernel_rfl,by kernel_rfl,rfl⟩
noncomputable def e215 : Hint:=hm [78,202,64] [] [] [9,20,26]
theorem e215_k : FnOk Tryz.prog 215 Tryz.f215 e215:=⟨Tryz.func215,by kernel_rfl,by kernel_rfl,rfl⟩
noncomputable def e217 : Hint:=hm [60,1048636,3145788,2147483680,192,192,17180917820,304,192,0x4000000100034,3124,15360,192,0x10000000000000000000034,49172,0x100000000000000000000004014,192,192,327680,192] [78,79,110,125] [] [46,48]
theorem e217_k : FnOk Tryz.prog 217 Tryz.f217 e217:=⟨Tryz.func217,by kernel_rfl,by kernel_rfl,rfl⟩
noncomputable def e218 : Hint:=hm [28,92,220,124,92,92,16] [] [] []
theorem e218_k : FnOk Tryz.prog 218 Tryz.f218 e218:=⟨Tryz.func218,by kernel_rfl,by kernel_rfl,rfl⟩
noncomputable def e219 : Hint:=hm [22,16] [] [] []
theorem e219_k : FnOk Tryz.prog 219 Tryz.f219 e219:=⟨Tryz.func219,by kernel_rfl,by kernel_rfl,rfl⟩
noncomputable def e220 : Hint:=hm [3,4097,48,48] [13] [] []
theorem e220_k : FnOk Tryz.prog 220 Tryz.f220 e220:=⟨Tryz.func220,by kernel_rfl,by kernel_rfl,rfl⟩
noncomputable def e221 : Hint:=hm [3,35,544,96,1,16] [7,8,11] [] []
theorem e221_k : FnOk Tryz.prog 221 Tryz.f221 e221:=⟨Tryz.func221,by kernel_rfl,by kernel_rfl,rfl⟩
noncomputable def e222 : Hint:=hm [21,277,789,115473,246545,117009,127249,115473,549755929361,115473,192] [14,31,32,41] [] []
theorem e222_k : FnOk Tryz.prog 222 Tryz.f222 e222:=⟨Tryz.func222,by kernel_rfl,by kernel_rfl,rfl⟩
noncomputable def e246 : Hint:=hm [7,1030,7174,1414,525446,64,64] [] [] []
theorem e246_k : FnOk Tryz.prog 246 Tryz.f246 e246:=⟨Tryz.func246,by kernel_rfl,by kernel_rfl,rfl⟩
noncomputable def e247 : Hint:=hm [3,387,899,419,65955,16,387,16] [] [] []
theorem e247_k : FnOk Tryz.prog 247 Tryz.f247 e247:=⟨Tryz.func247,by kernel_rfl,by kernel_rfl,rfl⟩
noncomputable def e248 : Hint:=hm [3,387,899,419,65955,16,387,16] [] [] []
theorem e248_k : FnOk Tryz.prog 248 Tryz.f248 e248:=⟨Tryz.func248,by kernel_rfl,by kernel_rfl,rfl⟩
noncomputable def e249 : Hint:=hm [1,513,4,7168,15360,7184,7216,1055792,4,7232,67116096,4,7168,4] [10] [] []
theorem e249_k : FnOk Tryz.prog 249 Tryz.f249 e249:=⟨Tryz.func249,by kernel_rfl,by kernel_rfl,rfl⟩
noncomputable def e250 : Hint:=hm [28,60,8252,16,65556,84,524372,1572948,144,134217872,1,536870996,848,274877907280,1,2199023255568,1,16] [] [] [45]
theorem e250_k : FnOk Tryz.prog 250 Tryz.f250 e250:=⟨Tryz.func250,by kernel_rfl,by kernel_rfl,rfl⟩
noncomputable def e251 : Hint:=hm [12,44,524332,16,76,274877906956,16,7696581394444,0xf000000000c,7696581394828,4511296208764940,16,7696581394444,520,0x400000000000000000,16,16] [] [] [68]
theorem e251_k : FnOk Tryz.prog 251 Tryz.f251 e251:=⟨Tryz.func251,by kernel_rfl,by kernel_rfl,rfl⟩
noncomputable def e252 : Hint:=hx [3,67,195,14680257,31457473,14680769,14681281,2162164929,14683329,3848305380545,8246351891649,3848305388737,3848305396929,3848305380545,3848305380545,14748865,15142081,0x4000000000000e70cc1,15142081,0x800000000000000000000000e50cc1,48,0x10000000000000000000000000e10cc1,14746817,14680257,14680257,48] [21,52] [] [] [36] [] [18]
theorem e252_k : FnOk Tryz.prog 252 Tryz.f252 e252:=⟨Tryz.func252,by kernel_rfl,by kernel_rfl,rfl⟩
noncomputable def e253 : Hint:=hm [3,387,899,419,65955,16,387,16] [] [] []
theorem e253_k : FnOk Tryz.prog 253 Tryz.f253 e253:=⟨Tryz.func253,by kernel_rfl,by kernel_rfl,rfl⟩
noncomputable def e254 : Hint:=hm [2,4] [] [] []
theorem e254_k : FnOk Tryz.prog 254 Tryz.f254 e254:=⟨Tryz.func254,by kernel_rfl,by kernel_rfl,rfl⟩
noncomputable def e256 : Hint:=hm [2,4] [] [] []
theorem e256_k : FnOk Tryz.prog 256 Tryz.f256 e256:=⟨Tryz.func256,by kernel_rfl,by kernel_rfl,rfl⟩
noncomputable def e259 : Hint:=hm [1,4] [] [] []
theorem e259_k : FnOk Tryz.prog 259 Tryz.f259 e259:=⟨Tryz.func259,by kernel_rfl,by kernel_rfl,rfl⟩
noncomputable def e263 : Hint:=hm [19,51,3634,7730,3762,3634,3634,16] [9] [] [18,19]
theorem e263_k : FnOk Tryz.prog 263 Tryz.f263 e263:=⟨Tryz.func263,by kernel_rfl,by kernel_rfl,rfl⟩
noncomputable def e266 : Hint:=hm [6,14,10,1] [] [] []
theorem e266_k : FnOk Tryz.prog 266 Tryz.f266 e266:=⟨Tryz.func266,by kernel_rfl,by kernel_rfl,rfl⟩
noncomputable def e267 : Hint:=hm [14,1036,16,28676,61444,28740,2125828,16,28676,16] [] [] []
theorem e267_k : FnOk Tryz.prog 267 Tryz.f267 e267:=⟨Tryz.func267,by kernel_rfl,by kernel_rfl,rfl⟩
noncomputable def e268 : Hint:=hm [6,8] [] [] []
theorem e268_k : FnOk Tryz.prog 268 Tryz.f268 e268:=⟨Tryz.func268,by kernel_rfl,by kernel_rfl,rfl⟩
noncomputable def e271 : Hint:=hm [7,16391,64,229382,491526,229766,230150,1073971206,64,229382,64] [15] [] []
theorem e271_k : FnOk Tryz.prog 271 Tryz.f271 e271:=⟨Tryz.func271,by kernel_rfl,by kernel_rfl,rfl⟩
noncomputable def e272 : Hint:=hm [3,16] [5] [] []
theorem e272_k : FnOk Tryz.prog 272 Tryz.f272 e272:=⟨Tryz.func272,by kernel_rfl,by kernel_rfl,rfl⟩
noncomputable def e273 : Hint:=hm [6,8] [] [] []
theorem e273_k : FnOk Tryz.prog 273 Tryz.f273 e273:=⟨Tryz.func273,by kernel_rfl,by kernel_rfl,rfl⟩
noncomputable def e274 : Hint:=hm [92,220,80,64] [] [] [17,19,24]
theorem e274_k : FnOk Tryz.prog 274 Tryz.f274 e274:=⟨Tryz.func274,by kernel_rfl,by kernel_rfl,rfl⟩
noncomputable def e275 : Hint:=hm [2,4] [] [] []
theorem e275_k : FnOk Tryz.prog 275 Tryz.f275 e275:=⟨Tryz.func275,by kernel_rfl,by kernel_rfl,rfl⟩
noncomputable def e276 : Hint:=hm [12,16] [] [] []
theorem e276_k : FnOk Tryz.prog 276 Tryz.f276 e276:=⟨Tryz.func276,by kernel_rfl,by kernel_rfl,rfl⟩
noncomputable def e293 : Hint:=hm [1,1] [] [] []
theorem e293_k : FnOk Tryz.prog 293 Tryz.f293 e293:=⟨Tryz.func293,by kernel_rfl,by kernel_rfl,rfl⟩
noncomputable def e295 : Hint:=hm [2,32,4,4] [] [] []
theorem e295_k : FnOk Tryz.prog 295 Tryz.f295 e295:=⟨Tryz.func295,by kernel_rfl,by kernel_rfl,rfl⟩
noncomputable def e300 : Hint:=hm [6,14,10,1] [] [] []
theorem e300_k : FnOk Tryz.prog 300 Tryz.f300 e300:=⟨Tryz.func300,by kernel_rfl,by kernel_rfl,rfl⟩
noncomputable def e301 : Hint:=hm [14,1036,16,28676,61444,28740,2125828,16,28676,16] [] [] []
theorem e301_k : FnOk Tryz.prog 301 Tryz.f301 e301:=⟨Tryz.func301,by kernel_rfl,by kernel_rfl,rfl⟩
noncomputable def e304 : Hint:=hm [33,161,41,8225] [] [] []
theorem e304_k : FnOk Tryz.prog 304 Tryz.f304 e304:=⟨Tryz.func304,by kernel_rfl,by kernel_rfl,rfl⟩
noncomputable def e305 : Hint:=hm [1,131073,4,17,4] [] [] []
theorem e305_k : FnOk Tryz.prog 305 Tryz.f305 e305:=⟨Tryz.func305,by kernel_rfl,by kernel_rfl,rfl⟩
noncomputable def e309 : Hint:=hm [3,387,899,419,65955,16,387,16] [] [] []
theorem e309_k : FnOk Tryz.prog 309 Tryz.f309 e309:=⟨Tryz.func309,by kernel_rfl,by kernel_rfl,rfl⟩
noncomputable def e310 : Hint:=hx [8199,7,23,2097159,23,33554439,23,55,1073741879,55,137438953511,39,70368744177671] [] [] [] [] [] [9,11]
theorem e310_k : FnOk Tryz.prog 310 Tryz.f310 e310:=⟨Tryz.func310,by kernel_rfl,by kernel_rfl,rfl⟩
noncomputable def e318 : Hint:=hm [1,4] [] [] []
theorem e318_k : FnOk Tryz.prog 318 Tryz.f318 e318:=⟨Tryz.func318,by kernel_rfl,by kernel_rfl,rfl⟩
noncomputable def e324 : Hint:=hm [2,66,4,2147483650,4,10,2199023255562,6597069766666,4,0x8002000000000a,4,0x800002000000000a,4,0x4000000002000000000a,4,0x1000000000000002000000000a,4,0x1000000000000000000000000002,4,4] [] [] []
theorem e324_k : FnOk Tryz.prog 324 Tryz.f324 e324:=⟨Tryz.func324,by kernel_rfl,by kernel_rfl,rfl⟩
noncomputable def e330 : Hint:=hm [1,4] [] [] []
theorem e330_k : FnOk Tryz.prog 330 Tryz.f330 e330:=⟨Tryz.func330,by kernel_rfl,by kernel_rfl,rfl⟩
noncomputable def e331 : Hint:=hm [3,67,451,33219,963,134218691,451,451,48] [43] [] []
theorem e331_k : FnOk Tryz.prog 331 Tryz.f331 e331:=⟨Tryz.func331,by kernel_rfl,by kernel_rfl,rfl⟩
noncomputable def e332 : Hint:=hm [3,35,65571,35,16] [] [] []
theorem e332_k : FnOk Tryz.prog 332 Tryz.f332 e332:=⟨Tryz.func332,by kernel_rfl,by kernel_rfl,rfl⟩
noncomputable def e333 : Hint:=hm [1,4] [] [] []
theorem e333_k : FnOk Tryz.prog 333 Tryz.f333 e333:=⟨Tryz.func333,by kernel_rfl,by kernel_rfl,rfl⟩
noncomputable def e334 : Hint:=hm [1,4] [] [] []
theorem e334_k : FnOk Tryz.prog 334 Tryz.f334 e334:=⟨Tryz.func334,by kernel_rfl,by kernel_rfl,rfl⟩
noncomputable def e339 : Hint:=hm [1,1] [] [] []
theorem e339_k : FnOk Tryz.prog 339 Tryz.f339 e339:=⟨Tryz.func339,by kernel_rfl,by kernel_rfl,rfl⟩
noncomputable def e341 : Hint:=hm [12,16] [] [] []
theorem e341_k : FnOk Tryz.prog 341 Tryz.f341 e341:=⟨Tryz.func341,by kernel_rfl,by kernel_rfl,rfl⟩
noncomputable def e355 : Hint:=hm [7,64] [] [] []
theorem e355_k : FnOk Tryz.prog 355 Tryz.f355 e355:=⟨Tryz.func355,by kernel_rfl,by kernel_rfl,rfl⟩
noncomputable def e356 : Hint:=hm [3,16] [] [] []
theorem e356_k : FnOk Tryz.prog 356 Tryz.f356 e356:=⟨Tryz.func356,by kernel_rfl,by kernel_rfl,rfl⟩
noncomputable def e357 : Hint:=hm [1,4] [] [] []
theorem e357_k : FnOk Tryz.prog 357 Tryz.f357 e357:=⟨Tryz.func357,by kernel_rfl,by kernel_rfl,rfl⟩
noncomputable def e361 : Hint:=hm [3,1027,16,12291,28675,12323,16789507,16,12291,16] [] [] []
theorem e361_k : FnOk Tryz.prog 361 Tryz.f361 e361:=⟨Tryz.func361,by kernel_rfl,by kernel_rfl,rfl⟩
noncomputable def evTree : ETree:=(.node (.node (.node (.node (.node (.node (.node (.node .nil 5 Tryz.f5 e5 .nil) 6 Tryz.f6 e6 .nil) 8 Tryz.f8 e8 (.node .nil 10 Tryz.f10 e10 .nil)) 11 Tryz.f11 e11 (.node (.node (.node .nil 12 Tryz.f12 e12 .nil) 15 Tryz.f15 e15 .nil) 17 Tryz.f17 e17 (.node .nil 19 Tryz.f19 e19 .nil))) 22 Tryz.f22 e22 (.node (.node (.node (.node .nil 23 Tryz.f23 e23 .nil) 24 Tryz.f24 e24 .nil) 25 Tryz.f25 e25 (.node .nil 26 Tryz.f26 e26 .nil)) 27 Tryz.f27 e27 (.node (.node (.node .nil 33 Tryz.f33 e33 .nil) 35 Tryz.f35 e35 .nil) 36 Tryz.f36 e36 (.node .nil 45 Tryz.f45 e45 .nil)))) 46 Tryz.f46 e46 (.node (.node (.node (.node (.node .nil 47 Tryz.f47 e47 .nil) 48 Tryz.f48 e48 .nil) 49 Tryz.f49 e49 (.node .nil 50 Tryz.f50 e50 .nil)) 51 Tryz.f51 e51 (.node (.node (.node .nil 52 Tryz.f52 e52 .nil) 53 Tryz.f53 e53 .nil) 54 Tryz.f54 e54 (.node .nil 55 Tryz.f55 e55 .nil))) 56 Tryz.f56 e56 (.node (.node (.node (.node .nil 57 Tryz.f57 e57 .nil) 58 Tryz.f58 e58 .nil) 59 Tryz.f59 e59 (.node .nil 60 Tryz.f60 e60 .nil)) 61 Tryz.f61 e61 (.node (.node .nil 62 Tryz.f62 e62 .nil) 67 Tryz.f67 e67 (.node .nil 83 Tryz.f83 e83 .nil))))) 84 Tryz.f84 e84 (.node (.node (.node (.node (.node (.node .nil 85 Tryz.f85 e85 .nil) 86 Tryz.f86 e86 .nil) 87 Tryz.f87 e87 (.node .nil 88 Tryz.f88 e88 .nil)) 89 Tryz.f89 e89 (.node (.node (.node .nil 91 Tryz.f91 e91 .nil) 92 Tryz.f92 e92 .nil) 93 Tryz.f93 e93 (.node .nil 94 Tryz.f94 e94 .nil))) 95 Tryz.f95 e95 (.node (.node (.node (.node .nil 96 Tryz.f96 e96 .nil) 97 Tryz.f97 e97 .nil) 98 Tryz.f98 e98 (.node .nil 99 Tryz.f99 e99 .nil)) 100 Tryz.f100 e100 (.node (.node (.node .nil 101 Tryz.f101 e101 .nil) 102 Tryz.f102 e102 .nil) 103 Tryz.f103 e103 (.node .nil 104 Tryz.f104 e104 .nil)))) 105 Tryz.f105 e105 (.node (.node (.node (.node (.node .nil 106 Tryz.f106 e106 .nil) 107 Tryz.f107 e107 .nil) 108 Tryz.f108 e108 (.node .nil 109 Tryz.f109 e109 .nil)) 112 Tryz.f112 e112 (.node (.node (.node .nil 126 Tryz.f126 e126 .nil) 127 Tryz.f127 e127 .nil) 128 Tryz.f128 e128 (.node .nil 129 Tryz.f129 e129 .nil))) 130 Tryz.f130 e130 (.node (.node (.node (.node .nil 134 Tryz.f134 e134 .nil) 136 Tryz.f136 e136 .nil) 137 Tryz.f137 e137 (.node .nil 142 Tryz.f142 e142 .nil)) 143 Tryz.f143 e143 (.node (.node .nil 144 Tryz.f144 e144 .nil) 145 Tryz.f145 e145 (.node .nil 146 Tryz.f146 e146 .nil)))))) 147 Tryz.f147 e147 (.node (.node (.node (.node (.node (.node (.node .nil 173 Tryz.f173 e173 .nil) 174 Tryz.f174 e174 .nil) 175 Tryz.f175 e175 (.node .nil 176 Tryz.f176 e176 .nil)) 177 Tryz.f177 e177 (.node (.node (.node .nil 178 Tryz.f178 e178 .nil) 181 Tryz.f181 e181 .nil) 183 Tryz.f183 e183 (.node .nil 184 Tryz.f184 e184 .nil))) 185 Tryz.f185 e185 (.node (.node (.node (.node .nil 186 Tryz.f186 e186 .nil) 195 Tryz.f195 e195 .nil) 196 Tryz.f196 e196 (.node .nil 197 Tryz.f197 e197 .nil)) 198 Tryz.f198 e198 (.node (.node (.node .nil 199 Tryz.f199 e199 .nil) 200 Tryz.f200 e200 .nil) 205 Tryz.f205 e205 (.node .nil 206 Tryz.f206 e206 .nil)))) 207 Tryz.f207 e207 (.node (.node (.node (.node (.node .nil 208 Tryz.f208 e208 .nil) 209 Tryz.f209 e209 .nil) 210 Tryz.f210 e210 (.node .nil 211 Tryz.f211 e211 .nil)) 212 Tryz.f212 e212 (.node (.node (.node .nil 213 Tryz.f213 e213 .nil) 214 Tryz.f214 e214 .nil) 215 Tryz.f215 e215 (.node .nil 217 Tryz.f217 e217 .nil))) 218 Tryz.f218 e218 (.node (.node (.node (.node .nil 219 Tryz.f219 e219 .nil) 220 Tryz.f220 e220 .nil) 221 Tryz.f221 e221 (.node .nil 222 Tryz.f222 e222 .nil)) 246 Tryz.f246 e246 (.node (.node .nil 247 Tryz.f247 e247 .nil) 248 Tryz.f248 e248 (.node .nil 249 Tryz.f249 e249 .nil))))) 250 Tryz.f250 e250 (.node (.node (.node (.node (.node (.node .nil 251 Tryz.f251 e251 .nil) 252 Tryz.f252 e252 .nil) 253 Tryz.f253 e253 (.node .nil 254 Tryz.f254 e254 .nil)) 256 Tryz.f256 e256 (.node (.node (.node .nil 259 Tryz.f259 e259 .nil) 263 Tryz.f263 e263 .nil) 266 Tryz.f266 e266 (.node .nil 267 Tryz.f267 e267 .nil))) 268 Tryz.f268 e268 (.node (.node (.node (.node .nil 271 Tryz.f271 e271 .nil) 272 Tryz.f272 e272 .nil) 273 Tryz.f273 e273 (.node .nil 274 Tryz.f274 e274 .nil)) 275 Tryz.f275 e275 (.node (.node .nil 276 Tryz.f276 e276 .nil) 293 Tryz.f293 e293 (.node .nil 295 Tryz.f295 e295 .nil)))) 300 Tryz.f300 e300 (.node (.node (.node (.node (.node .nil 301 Tryz.f301 e301 .nil) 304 Tryz.f304 e304 .nil) 305 Tryz.f305 e305 (.node .nil 309 Tryz.f309 e309 .nil)) 310 Tryz.f310 e310 (.node (.node (.node .nil 318 Tryz.f318 e318 .nil) 324 Tryz.f324 e324 .nil) 330 Tryz.f330 e330 (.node .nil 331 Tryz.f331 e331 .nil))) 332 Tryz.f332 e332 (.node (.node (.node (.node .nil 333 Tryz.f333 e333 .nil) 334 Tryz.f334 e334 .nil) 339 Tryz.f339 e339 (.node .nil 341 Tryz.f341 e341 .nil)) 355 Tryz.f355 e355 (.node (.node .nil 356 Tryz.f356 e356 .nil) 357 Tryz.f357 e357 (.node .nil 361 Tryz.f361 e361 .nil)))))))
theorem evTree_all : evTree.All Tryz.prog:=⟨⟨⟨⟨⟨⟨⟨⟨trivial,e5_k,trivial⟩,e6_k,trivial⟩,e8_k,⟨trivial,e10_k,trivial⟩⟩,e11_k,⟨⟨⟨trivial,e12_k,trivial⟩,e15_k,trivial⟩,e17_k,⟨trivial,e19_k,trivial⟩⟩⟩,e22_k,⟨⟨⟨⟨trivial,e23_k,trivial⟩,e24_k,trivial⟩,e25_k,⟨trivial,e26_k,trivial⟩⟩,e27_k,⟨⟨⟨trivial,e33_k,trivial⟩,e35_k,trivial⟩,e36_k,⟨trivial,e45_k,trivial⟩⟩⟩⟩,e46_k,⟨⟨⟨⟨⟨trivial,e47_k,trivial⟩,e48_k,trivial⟩,e49_k,⟨trivial,e50_k,trivial⟩⟩,e51_k,⟨⟨⟨trivial,e52_k,trivial⟩,e53_k,trivial⟩,e54_k,⟨trivial,e55_k,trivial⟩⟩⟩,e56_k,⟨⟨⟨⟨trivial,e57_k,trivial⟩,e58_k,trivial⟩,e59_k,⟨trivial,e60_k,trivial⟩⟩,e61_k,⟨⟨trivial,e62_k,trivial⟩,e67_k,⟨trivial,e83_k,trivial⟩⟩⟩⟩⟩,e84_k,⟨⟨⟨⟨⟨⟨trivial,e85_k,trivial⟩,e86_k,trivial⟩,e87_k,⟨trivial,e88_k,trivial⟩⟩,e89_k,⟨⟨⟨trivial,e91_k,trivial⟩,e92_k,trivial⟩,e93_k,⟨trivial,e94_k,trivial⟩⟩⟩,e95_k,⟨⟨⟨⟨trivial,e96_k,trivial⟩,e97_k,trivial⟩,e98_k,⟨trivial,e99_k,trivial⟩⟩,e100_k,⟨⟨⟨trivial,e101_k,trivial⟩,e102_k,trivial⟩,e103_k,⟨trivial,e104_k,trivial⟩⟩⟩⟩,e105_k,⟨⟨⟨⟨⟨trivial,e106_k,trivial⟩,e107_k,trivial⟩,e108_k,⟨trivial,e109_k,trivial⟩⟩,e112_k,⟨⟨⟨trivial,e126_k,trivial⟩,e127_k,trivial⟩,e128_k,⟨trivial,e129_k,trivial⟩⟩⟩,e130_k,⟨⟨⟨⟨trivial,e134_k,trivial⟩,e136_k,trivial⟩,e137_k,⟨trivial,e142_k,trivial⟩⟩,e143_k,⟨⟨trivial,e144_k,trivial⟩,e145_k,⟨trivial,e146_k,trivial⟩⟩⟩⟩⟩⟩,e147_k,⟨⟨⟨⟨⟨⟨⟨trivial,e173_k,trivial⟩,e174_k,trivial⟩,e175_k,⟨trivial,e176_k,trivial⟩⟩,e177_k,⟨⟨⟨trivial,e178_k,trivial⟩,e181_k,trivial⟩,e183_k,⟨trivial,e184_k,trivial⟩⟩⟩,e185_k,⟨⟨⟨⟨trivial,e186_k,trivial⟩,e195_k,trivial⟩,e196_k,⟨trivial,e197_k,trivial⟩⟩,e198_k,⟨⟨⟨trivial,e199_k,trivial⟩,e200_k,trivial⟩,e205_k,⟨trivial,e206_k,trivial⟩⟩⟩⟩,e207_k,⟨⟨⟨⟨⟨trivial,e208_k,trivial⟩,e209_k,trivial⟩,e210_k,⟨trivial,e211_k,trivial⟩⟩,e212_k,⟨⟨⟨trivial,e213_k,trivial⟩,e214_k,trivial⟩,e215_k,⟨trivial,e217_k,trivial⟩⟩⟩,e218_k,⟨⟨⟨⟨trivial,e219_k,trivial⟩,e220_k,trivial⟩,e221_k,⟨trivial,e222_k,trivial⟩⟩,e246_k,⟨⟨trivial,e247_k,trivial⟩,e248_k,⟨trivial,e249_k,trivial⟩⟩⟩⟩⟩,e250_k,⟨⟨⟨⟨⟨⟨trivial,e251_k,trivial⟩,e252_k,trivial⟩,e253_k,⟨trivial,e254_k,trivial⟩⟩,e256_k,⟨⟨⟨trivial,e259_k,trivial⟩,e263_k,trivial⟩,e266_k,⟨trivial,e267_k,trivial⟩⟩⟩,e268_k,⟨⟨⟨⟨trivial,e271_k,trivial⟩,e272_k,trivial⟩,e273_k,⟨trivial,e274_k,trivial⟩⟩,e275_k,⟨⟨trivial,e276_k,trivial⟩,e293_k,⟨trivial,e295_k,trivial⟩⟩⟩⟩,e300_k,⟨⟨⟨⟨⟨trivial,e301_k,trivial⟩,e304_k,trivial⟩,e305_k,⟨trivial,e309_k,trivial⟩⟩,e310_k,⟨⟨⟨trivial,e318_k,trivial⟩,e324_k,trivial⟩,e330_k,⟨trivial,e331_k,trivial⟩⟩⟩,e332_k,⟨⟨⟨⟨trivial,e333_k,trivial⟩,e334_k,trivial⟩,e339_k,⟨trivial,e341_k,trivial⟩⟩,e355_k,⟨⟨trivial,e356_k,trivial⟩,e357_k,⟨trivial,e361_k,trivial⟩⟩⟩⟩⟩⟩⟩
theorem mixedE : Tryz.prog.follows .mixedOrders = true:=by kernel_rfl
end Go.AI
namespace Go.AI
open Go.MapKept Go.Maps Go.WideElems Go.WideShapes
def insI (x : Int) : List Int -> List Int
 | [] => [x]
 | y :: l => if x <= y then x :: y :: l else y :: insI x l
def isortI : List Int -> List Int
 | [] => []
 | x :: l => insI x (isortI l)
theorem insI_perm (x : Int) : ∀ l,(insI x l).Perm (x :: l)
 | [] => .refl _
 | y :: l => by
  unfold insI
  split
  ·exact .refl _
  ·exact ((insI_perm x l).cons y).trans (.swap _ _ _)
theorem isortI_perm : ∀ l,(isortI l).Perm l
 | [] => .refl _
 | x :: l => (insI_perm x _).trans ((isortI_perm l).cons x)
theorem insI_sorted {x : Int} : ∀ {l : List Int},l.Pairwise (· <= ·) -> (insI x l).Pairwise (· <= ·)
 | [],_ => by simp [insI]
 | y :: l,h => by
  unfold insI
  split
  ·rename_i hxy
   refine List.Pairwise.cons (fun z hz => ?_) h
   rcases List.mem_cons.1 hz with rfl | hz
   ·exact hxy
   ·exact Int.le_trans hxy ((List.pairwise_cons.1 h).1 z hz)
  ·rename_i hxy
   obtain ⟨h1,h2⟩:=List.pairwise_cons.1 h
   refine List.Pairwise.cons (fun z hz => ?_) (insI_sorted h2)
   rcases List.mem_cons.1 ((insI_perm x l).mem_iff.1 hz) with rfl | hz
   ·omega
   ·exact h1 z hz
theorem isortI_sorted : ∀ l : List Int,(isortI l).Pairwise (· <= ·)
 | [] => .nil
 | _ :: l => insI_sorted (isortI_sorted l)
theorem isortI_eq {l l' : List Int} (h : l'.Perm l) : l'.mergeSort (fun x y => decide (x <= y)) = isortI l:=by
 have tr : ∀ a b c : Int,leI a b = true -> leI b c = true -> leI a c = true:=fun a b c h1 h2 => by simp only [leI,decide_eq_true_eq] at *; exact Int.le_trans h1 h2
 have to : ∀ a b : Int,(leI a b || leI b a) = true:=fun a b => by simp only [leI,Bool.or_eq_true,decide_eq_true_eq]; exact Int.le_total a b
 refine List.Perm.eq_of_pairwise (le:=fun a b => a <= b) (fun a b _ _ h1 h2 => Int.le_antisymm h1 h2) ?_ (isortI_sorted l) (((List.mergeSort_perm l' _).trans h).trans (isortI_perm l).symm)
 exact (List.pairwise_mergeSort tr to l').imp fun {a b} hab => by simpa [leI] using hab
def intA : AV -> Int
 | .int _ n => n
 | _ => 0
def isI64 : AV -> Bool
 | .int .i64 n => (Lit.int .i64 n).wf
 | _ => false
def intsOf (es : List (AV × AV)) : List Int:=es.map fun p => intA p.1
def okKeys (es : List (AV × AV)) : Bool:=es.all (fun p => isI64 p.1) && distF es
theorem isI64_eq {a : AV} (h : isI64 a = true) : ∃ n,a = .int .i64 n /\ (Lit.int .i64 n).wf = true:=by
 unfold isI64 at h
 split at h
 ·exact ⟨_,rfl,h⟩
 ·cases h
abbrev RT : Value -> Option (DataW Unit × List MemPlace):=fun _ => some (.lit (.bool true),[])
section
variable {P : Program} {F : Nat -> Prop} {G : Gh} {w : World} {H : Heap}
theorem map_owns {k : TypeId} (hk : P.underlying k = some (.int .i64)) {vs : List AV} {us : List Value} (hc : CRel F G vs H us w) {o : Nat} {um : Value} (hm : VRel G w (.mapr o) um) {es : List (AV × AV)}
  (he : mapOf H (.mapr o) = some es) (hok : okKeys es = true) (hlen : es.length <= maxLen) :
  ∃ b D0,um = .map (some b) /\ w.ownsMap P k RT b es.length D0 /\ (intKeys D0).Perm (intsOf es) /\ Maps.size D0 = es.length:=by
 simp only [okKeys,Bool.and_eq_true] at hok
 obtain ⟨hk1,hk2⟩:=hok
 have hd:=distF_ok hk2
 rcases map_at hc hm he with ⟨h,_⟩ | ⟨o',b,ms,cl,ho,rfl,hob,hkb,hms,hl,hH,hrel⟩
 ·cases h
 cases ho
 obtain ⟨hcl,hborn⟩:=map_births hc hH hob hkb hms
 have key : ∀ (i : Nat) (x : MapEntry),ms[i]? = some x -> ∃ (p : AV × AV) (n : Int),es[i]? = some p /\ p.1 = .int .i64 n /\ x.key = encZ n /\ (Lit.int .i64 n).wf = true:=fun i x hx => by
  have hlt:=(Array.getElem?_eq_some_iff.1 hx).1
  have hp : es[i]? = some (es[i]'(by omega)):=List.getElem?_eq_getElem _
  obtain ⟨n,hn,hw⟩:=isI64_eq (List.all_eq_true.1 hk1 _ (List.mem_of_getElem? hp))
  have hv:=(hrel i _ x hp hx).2.2.1
  rw [hn] at hv
  refine ⟨_,n,hp,hn, ?_,hw⟩
  generalize x.key = y at hv ⊢
  cases hv; rfl
 have hR : ∀ x ∈ ms.toList,∃ (i : Nat) (p : AV × AV) (n : Int),ms[i]? = some x /\ es[i]? = some p /\ p.1 = .int .i64 n /\ rd P k RT x = some (.int .i64 n,.lit (.bool true)):=fun x hx => by
  obtain ⟨i,hi⟩:=List.getElem?_of_mem hx
  rw [Array.getElem?_toList] at hi
  obtain ⟨p,n,h1,h2,h3,h4⟩:=key i x hi
  refine ⟨i,p,n,hi,h1,h2, ?_⟩
  have : keyOf P k x.key = some (.int .i64 n):=by
   rw [h3]
   simp [keyOf,hk,mapKey,encZ,h4]
  simp [rd,this,RT]
 have hmap : ms.toList.map (fun x => intOf (rg P k RT x).1) = intsOf es:=by
  apply List.ext_getElem?
  intro i
  unfold intsOf
  rw [List.getElem?_map,List.getElem?_map,Array.getElem?_toList]
  cases hx : ms[i]? with
  | none =>
   have : es[i]? = none:=List.getElem?_eq_none (by have:=Array.getElem?_eq_none_iff.1 hx; omega)
   rw [this]; rfl
  | some x =>
   obtain ⟨p,n,h1,h2,h3,h4⟩:=key i x hx
   have : keyOf P k x.key = some (.int .i64 n):=by
    rw [h3]
    simp [keyOf,hk,mapKey,encZ,h4]
   rw [h1]
   simp [rg,rd,this,RT,intOf,h2,intA]
 have hkeys : ms.toList.map (·.key) = (intsOf es).map encZ:=by
  apply List.ext_getElem?
  intro i
  unfold intsOf
  rw [List.getElem?_map,List.getElem?_map,List.getElem?_map,Array.getElem?_toList]
  cases hx : ms[i]? with
  | none =>
   have : es[i]? = none:=List.getElem?_eq_none (by have:=Array.getElem?_eq_none_iff.1 hx; omega)
   rw [this]; rfl
  | some x =>
   obtain ⟨p,n,h1,h2,h3,h4⟩:=key i x hx
   rw [h1]
   simp [h2,h3,intA]
 have hborns : ms.toList.map (·.born) = List.range ms.size:=by
  apply List.ext_getElem?
  intro i
  rw [List.getElem?_map,Array.getElem?_toList]
  cases hx : ms[i]? with
  | none =>
   have:=Array.getElem?_eq_none_iff.1 hx
   rw [List.getElem?_eq_none (by simpa using this)]; rfl
  | some x =>
   have:=(Array.getElem?_eq_some_iff.1 hx).1
   rw [List.getElem?_eq_getElem (by simpa using this)]
   simp [hborn i x hx]
 have hnd : (intsOf es).Nodup:=by
  refine List.pairwise_map.2 (hd.imp_of_mem fun {p q} hp hq h e => ?_)
  obtain ⟨n,hn,_⟩:=isI64_eq (List.all_eq_true.1 hk1 _ hp)
  obtain ⟨m,hm,_⟩:=isI64_eq (List.all_eq_true.1 hk1 _ hq)
  rw [hn,hm] at h e
  simp [intA] at e
  subst e
  simp [keyEq,keyEq1] at h
 refine ⟨b,_,rfl,⟨ms,cl,hms,⟨by omega,⟨fun x hx => ?_, ?_, ?_⟩,fun x hx => ?_⟩,by omega,rfl⟩, ?_, ?_⟩
 ·obtain ⟨i,hi⟩:=List.getElem?_of_mem hx
  rw [Array.getElem?_toList] at hi
  have:=(Array.getElem?_eq_some_iff.1 hi).1
  rw [hborn i x hi]; omega
 ·rw [hborns]; exact List.nodup_range
 ·rw [hkeys]
  exact List.pairwise_map.2 (hnd.imp fun h e => h (encZ_inj e))
 ·obtain ⟨i,p,n,_,_,_,h⟩:=hR x hx
  exact ⟨_,h⟩
 ·show (List.map _ _).Perm _
  rw [<- hmap,show (ms.toList.map fun x => intOf (rg P k RT x).1) = (ms.toList.map (rg P k RT)).map fun p => intOf p.1 by rw [List.map_map]; rfl]
  exact (sorted_perm _).map _
 ·show List.length _ = _
  rw [(sorted_perm _).length_eq,List.length_map,Array.length_toList,hl]
theorem ext_below (hF : ∀ b,F b -> b < w.heap.size) {w' : World} (hb : RowKit.Below w.heap.size w w') {g : Nat} (hg : w.heap.size <= g) (k : Kind) : Ext F G w (G.setKind g k) w':=by
 have ne : ∀ b,b < w.heap.size -> b ≠ g:=fun b h e => by omega
 refine ⟨hb.size,⟨fun _ _ h => h,fun b C E hc => ?_,fun b hlt _ => ⟨Nat.lt_of_lt_of_le hlt hb.size,G.kind_set_ne k (ne b hlt)⟩,fun b off v hs hc => ?_⟩,fun b h => G.kind_set_ne k (ne b (hF b h)),fun b h => hb.block b (hF b h),⟨hb.os,hb.tape,hb.output⟩⟩
 ·exact ⟨C,(hb.block b (Array.getElem?_eq_some_iff.1 hc).1).trans hc,rfl⟩
 ·have hlt:=cell_lt hc
  exact ⟨(G.safe_set_ne k (ne b hlt)).2 hs,(hb.cell (p:=⟨b,off,none⟩) hlt).trans hc⟩
theorem KOut.below {vs : List AV} {us : List Value} (hc : CRel F G vs H us w) {w' : World} (hb : RowKit.Below w.heap.size w w') {g : Nat} (hg : w.heap.size <= g) {R : AV -> Heap -> Prop} {v : AV} {u : Value} (hR : R v H)
  (hv : VRel (G.setKind g .imm) w' v u) (ht : toks v u = []) : KOut F G w R u w':=by
 have he:=ext_below (F:=F) (G:=G) hc.h.fore hb hg .imm
 have hne : ∀ b,b < w.heap.size -> (G.setKind g .imm).kind b = G.kind b /\ w'.heap[b]? = w.heap[b]?:=fun b hlt => ⟨G.kind_set_ne .imm (by omega),hb.block b hlt⟩
 refine ⟨v,H,_,hR,⟨.cons hv (tok_nil_all ht _ _ _) (.nil _ _ _),hc.h.ext he rfl fun b hb' => ?_,fun b => ?_⟩,he⟩
 ·rcases hb' with ⟨o',cs,h1,h2⟩ | hb'
  ·exact hne b (hc.h.block_lt h1 h2)
  ·obtain ⟨_,_,C,E,t3⟩:=hc.h.tok_of_pos hb'
   exact hne b (Array.getElem?_eq_some_iff.1 t3).1
 ·rw [hcnt_ext (G:=G) (w:=w) (G':=G.setKind g .imm) rfl fun o' cs b' h1 h2 => (hne b' (hc.h.block_lt h1 h2)).2,tcnt_cons,tcnt_nil,ht]
  have:=hc.cnt b
  simp
  omega
theorem ints_rel {w' : World} {base e : Nat} {v : Value} {ss : List Int} (h : w'.ownsRow base e 1 v ss.length (ss.map encZ)) :
  ∃ g,base <= g /\ ∀ G : Gh,VRel (G.setKind g .imm) w' (.sl none (ss.map (.int .i64))) v:=by
 obtain ⟨hl,h⟩:=h
 rcases h with ⟨rfl,h0⟩ | ⟨g,cap,cur,rfl,hbg,hg,h1,h2,h3,h4⟩
 ·obtain rfl:=List.eq_nil_of_length_eq_zero h0
  exact ⟨base,Nat.le_refl _,fun G => .slnil none⟩
 ·refine ⟨g,hbg,fun G => ?_⟩
  have hlen : (ss.map (AV.int .i64)).length = ss.length:=List.length_map ..
  have hcat : cat (ss.map (AV.int .i64)) = ss.map (AV.int .i64):=by
   unfold cat
   rw [List.flatMap_map]
   clear hl hlen h4 h1
   induction ss with
   | nil => rfl
   | cons x l ih => rw [List.flatMap_cons,ih]; rfl
  rw [<- hlen]
  refine .sl none _ 1 g 0 cap (fun i => encZ (ss[i]?.getD 0)) (fun a ha => ?_) (fun _ h => by cases h) (by rw [hlen]; exact h1) h2 (fun i c hi => ?_) (fun i c hi => ?_)
  ·obtain ⟨n,_,rfl⟩:=List.mem_map.1 ha; rfl
  ·rw [hcat,List.getElem?_map] at hi
   cases hs : ss[i]? with
   | none => rw [hs] at hi; cases hi
   | some n =>
    rw [hs] at hi; cases hi
    refine ⟨rfl, ?_, ?_⟩
    ·unfold Gh.safe; rw [G.kind_set]; trivial
    ·have hin : (cur.toList.take (ss.length * 1))[i]? = some (encZ n):=by rw [h4,List.getElem?_map,hs]; rfl
     have hci : cur[i]? = some (encZ n):=by
      rw [List.getElem?_take] at hin
      split at hin
      ·rwa [Array.getElem?_toList] at hin
      ·cases hin
     simp [World.cell?,hg,hci]
  ·rw [hcat,List.getElem?_map] at hi
   cases hs : ss[i]? with
   | none => rw [hs] at hi; cases hi
   | some n =>
    rw [hs] at hi; cases hi
    exact .int _ _
end
end Go.AI
namespace Go.Proofs
open Go.RowKit Go.Maps Go.Sort Go.Shelf Go.AI
def Tryz.keysA_ren : Go.Shelf.Ren:=⟨fun | 7 => 256 | 10 => 304 | n => n,fun | 23 => 83 | 26 => 3 | 3 => 4 | 28 => 310 | 0 => 0 | 27 => 309 | 33 => 248 | 4 => 4 | n => n,fun | n => n⟩
theorem Tryz.keysA : Go.Proofs.SlLaysZI.n7 Tryz.prog Tryz.keysA_ren:={
 mixed:=by kernel_rfl
 f7:=⟨Tryz.f256.name,by decide,Tryz.func256.trans (congrArg some (by kernel_rfl))⟩
 f10:=⟨Tryz.f304.name,by decide,Tryz.func304.trans (congrArg some (by kernel_rfl))⟩
 t0:=Tryz.underlying0
 a0:=Tryz.isAgg0
 z0:=Tryz.sizeOf0
 v0:=Tryz.zeroValue0
 t4:=Tryz.underlying4
 a4:=Tryz.isAgg4
 z4:=Tryz.sizeOf4
 v4:=Tryz.zeroValue4
 t23:=Tryz.underlying83
 a23:=Tryz.isAgg83
 z23:=Tryz.sizeOf83
 v23:=Tryz.zeroValue83
 t26:=Tryz.underlying3
 a26:=Tryz.isAgg3
 z26:=Tryz.sizeOf3
 v26:=Tryz.zeroValue3
 t27:=Tryz.underlying309
 a27:=Tryz.isAgg309
 z27:=Tryz.sizeOf309
 v27:=Tryz.zeroValue309
 t28:=Tryz.underlying310
 a28:=Tryz.isAgg310
 z28:=Tryz.sizeOf310
 v28:=Tryz.zeroValue310
 t33:=Tryz.underlying248
 a33:=Tryz.isAgg248
 z33:=Tryz.sizeOf248
 v33:=Tryz.zeroValue248 }
def Tryz.sortedA_ren : Go.Shelf.Ren:=⟨fun | 6 => 255 | 8 => 302 | 9 => 303 | 11 => 327 | 13 => 329 | 12 => 328 | 23 => 353 | 24 => 354 | 14 => 344 | 15 => 345 | 16 => 346 | 17 => 347 | 18 => 348 | 19 => 349 | 20 => 350 | 21 => 351 | 22 => 352 | 25 => 363 | 26 => 364 | 27 => 365 | 28 => 366 | 29 => 367 | 30 => 338 | 31 => 369 | n => n,fun | 26 => 3 | 28 => 310 | 24 => 38 | 0 => 0 | 3 => 3 | 37 => 352 | 48 => 376 | 50 => 378 | 4 => 4 | 40 => 370 | 39 => 369 | 45 => 131 | 5 => 5 | 9 => 9 | 51 => 382 | 55 => 346 | 57 => 388 | 58 => 59 | 33 => 248 | n => n,fun | n => n⟩
theorem Tryz.sortedA : Go.Proofs.SlLaysZI.n6 Tryz.prog Tryz.sortedA_ren:={
 mixed:=by kernel_rfl
 f6:=⟨Tryz.f255.name,by decide,Tryz.func255.trans (congrArg some (by kernel_rfl))⟩
 f8:=⟨Tryz.f302.name,by decide,Tryz.func302.trans (congrArg some (by kernel_rfl))⟩
 f11:=⟨Tryz.f327.name,by decide,Tryz.func327.trans (congrArg some (by kernel_rfl))⟩
 t0:=Tryz.underlying0
 a0:=Tryz.isAgg0
 z0:=Tryz.sizeOf0
 v0:=Tryz.zeroValue0
 t24:=Tryz.underlying38
 a24:=Tryz.isAgg38
 z24:=Tryz.sizeOf38
 v24:=Tryz.zeroValue38
 t26:=Tryz.underlying3
 a26:=Tryz.isAgg3
 z26:=Tryz.sizeOf3
 v26:=Tryz.zeroValue3
 t28:=Tryz.underlying310
 a28:=Tryz.isAgg310
 z28:=Tryz.sizeOf310
 v28:=Tryz.zeroValue310
 i26:=by kernel_rfl }
def Tryz.sortA_ren : Go.Shelf.Ren:=⟨fun | 5 => 303 | 8 => 329 | 7 => 328 | 19 => 353 | 20 => 354 | 10 => 344 | 11 => 345 | 12 => 346 | 13 => 347 | 14 => 348 | 15 => 349 | 16 => 350 | 17 => 351 | 18 => 352 | 30 => 363 | 31 => 364 | 32 => 365 | 33 => 366 | 34 => 367 | 35 => 338 | 40 => 369 | n => n,fun | 23 => 38 | 25 => 3 | 3 => 3 | 32 => 352 | 22 => 38 | 0 => 0 | 44 => 376 | 46 => 378 | 4 => 4 | 36 => 370 | 35 => 369 | 41 => 131 | 5 => 5 | 9 => 9 | 53 => 382 | 57 => 346 | 63 => 388 | 64 => 59 | n => n,fun | n => n⟩
theorem Tryz.sortA : Go.Proofs.SlLaysM.n5 Tryz.prog Tryz.sortA_ren:={
 mixed:=by kernel_rfl
 f5:=⟨Tryz.f303.name,by decide,Tryz.func303.trans (congrArg some (by kernel_rfl))⟩
 f7:=⟨Tryz.f328.name,by decide,Tryz.func328.trans (congrArg some (by kernel_rfl))⟩
 f8:=Tryz.func329.trans (congrArg some (by kernel_rfl))
 f10:=⟨Tryz.f344.name,by decide,Tryz.func344.trans (congrArg some (by kernel_rfl))⟩
 f11:=⟨Tryz.f345.name,by decide,Tryz.func345.trans (congrArg some (by kernel_rfl))⟩
 f12:=⟨Tryz.f346.name,by decide,Tryz.func346.trans (congrArg some (by kernel_rfl))⟩
 f13:=⟨Tryz.f347.name,by decide,Tryz.func347.trans (congrArg some (by kernel_rfl))⟩
 f14:=⟨Tryz.f348.name,by decide,Tryz.func348.trans (congrArg some (by kernel_rfl))⟩
 f15:=⟨Tryz.f349.name,by decide,Tryz.func349.trans (congrArg some (by kernel_rfl))⟩
 f16:=⟨Tryz.f350.name,by decide,Tryz.func350.trans (congrArg some (by kernel_rfl))⟩
 f17:=⟨Tryz.f351.name,by decide,Tryz.func351.trans (congrArg some (by kernel_rfl))⟩
 f18:=⟨Tryz.f352.name,by decide,Tryz.func352.trans (congrArg some (by kernel_rfl))⟩
 f19:=Tryz.func353.trans (congrArg some (by kernel_rfl))
 f20:=Tryz.func354.trans (congrArg some (by kernel_rfl))
 f30:=⟨Tryz.f363.name,by decide,Tryz.func363.trans (congrArg some (by kernel_rfl))⟩
 f31:=Tryz.func364.trans (congrArg some (by kernel_rfl))
 f32:=Tryz.func365.trans (congrArg some (by kernel_rfl))
 f33:=⟨Tryz.f366.name,by decide,Tryz.func366.trans (congrArg some (by kernel_rfl))⟩
 f34:=⟨Tryz.f367.name,by decide,Tryz.func367.trans (congrArg some (by kernel_rfl))⟩
 f35:=⟨Tryz.f338.name,by decide,Tryz.func338.trans (congrArg some (by kernel_rfl))⟩
 f40:=⟨Tryz.f369.name,by decide,Tryz.func369.trans (congrArg some (by kernel_rfl))⟩
 t0:=Tryz.underlying0
 a0:=Tryz.isAgg0
 z0:=Tryz.sizeOf0
 v0:=Tryz.zeroValue0
 t3:=Tryz.underlying3
 a3:=Tryz.isAgg3
 z3:=Tryz.sizeOf3
 v3:=Tryz.zeroValue3
 t4:=Tryz.underlying4
 a4:=Tryz.isAgg4
 z4:=Tryz.sizeOf4
 v4:=Tryz.zeroValue4
 t5:=Tryz.underlying5
 a5:=Tryz.isAgg5
 z5:=Tryz.sizeOf5
 v5:=Tryz.zeroValue5
 t9:=Tryz.underlying9
 a9:=Tryz.isAgg9
 z9:=Tryz.sizeOf9
 v9:=Tryz.zeroValue9
 t22:=Tryz.underlying38
 a22:=Tryz.isAgg38
 z22:=Tryz.sizeOf38
 v22:=Tryz.zeroValue38
 t23:=Tryz.underlying38
 a23:=Tryz.isAgg38
 z23:=Tryz.sizeOf38
 v23:=Tryz.zeroValue38
 t25:=Tryz.underlying3
 a25:=Tryz.isAgg3
 z25:=Tryz.sizeOf3
 v25:=Tryz.zeroValue3
 t32:=Tryz.underlying352
 a32:=Tryz.isAgg352
 z32:=Tryz.sizeOf352
 v32:=Tryz.zeroValue352
 t35:=Tryz.underlying369
 a35:=Tryz.isAgg369
 z35:=Tryz.sizeOf369
 v35:=Tryz.zeroValue369
 t36:=Tryz.underlying370
 a36:=Tryz.isAgg370
 z36:=Tryz.sizeOf370
 v36:=Tryz.zeroValue370
 t41:=Tryz.underlying131
 a41:=Tryz.isAgg131
 z41:=Tryz.sizeOf131
 v41:=Tryz.zeroValue131
 t44:=Tryz.underlying376
 a44:=Tryz.isAgg376
 z44:=Tryz.sizeOf376
 v44:=Tryz.zeroValue376
 t46:=Tryz.underlying378
 a46:=Tryz.isAgg378
 z46:=Tryz.sizeOf378
 v46:=Tryz.zeroValue378
 t53:=Tryz.underlying382
 a53:=Tryz.isAgg382
 z53:=Tryz.sizeOf382
 v53:=Tryz.zeroValue382
 t57:=Tryz.underlying346
 a57:=Tryz.isAgg346
 z57:=Tryz.sizeOf346
 v57:=Tryz.zeroValue346
 t63:=Tryz.underlying388
 a63:=Tryz.isAgg388
 z63:=Tryz.sizeOf388
 v63:=Tryz.zeroValue388
 t64:=Tryz.underlying59
 a64:=Tryz.isAgg59
 z64:=Tryz.sizeOf59
 v64:=Tryz.zeroValue59 }
theorem Tryz.sortsA (m : Nat) : AnyZI.SortsIn Tryz.prog Tryz.sortedA_ren Fence.wide m :=
  ⟨fun blk off cap ss W hH hblk hsz => callsIn_wide.2 (AnyM.slices_Sort_int Tryz.sortA blk off cap ss W hH hblk hsz),
   fun p cap W => callsIn_wide.2 (AnyM.slices_Sort_int_none Tryz.sortA p cap W)⟩
end Go.Proofs
namespace Go.AI
open Go.RowKit Go.Maps Go.Sort Go.Shelf Go.Proofs
theorem sorted_call {H : Heap} {ob o : Nat} {es : List (AV × AV)} (h1 : H[ob]? = some (some [.mapr o])) (h2 : mapOf H (.mapr o) = some es) (h3 : okKeys es = true) (h4 : es.length <= 1073741824) :
    ACall Tryz.prog 255 [.fn (.func 304) [] [.ptr ob 0]] H fun v H' => v = .sl none ((isortI (intsOf es)).map (.int .i64)) /\ H' = H := by
  refine ⟨by kernel_rfl, fun F G w us hc => ?_⟩
  have hlen := hc.l.len
  obtain ⟨u, rfl⟩ : ∃ u, us = [u] := by
    match us, hlen with
    | [u], _ => exact ⟨u, rfl⟩
  have hx := hc.l.rel 0 _ _ rfl rfl
  cases hx with
  | fn _ _ _ fi ca k1 k2 k3 k4 =>
  obtain rfl : fi = #[] := by
    have : fi.size = 0 := k1.symm
    exact Array.eq_empty_of_size_eq_zero this
  obtain ⟨x, rfl⟩ : ∃ x, ca = #[x] := by
    have : ca.size = 1 := k2.symm
    exact ⟨ca[0], by apply Array.ext; · simp [this]
                     · intro i hi1 hi2; simp at hi2; subst hi2; rfl⟩
  have hp := k4 0 _ x rfl rfl
  cases hp with
  | ptr _ _ B hB hCE =>
  obtain ⟨C, E, hC⟩ := hCE
  obtain ⟨_, C', E', hC', hle, hrow⟩ := (hc.h.obj ob _ B h1 hB).of_cells hC
  rw [hC] at hC'
  cases hC'
  have h0 : C[0]? = some (C[0]'(by simp at hle; omega)) := Array.getElem?_eq_getElem _
  generalize C[0]'(by simp at hle; omega) = um at h0
  obtain ⟨_, hm, _⟩ := hrow 0 _ um rfl h0
  obtain ⟨b, D0, rfl, hown, hperm, hsz⟩ := map_owns (P := Tryz.prog) (k := Tryz.keysA_ren.t 26) (by kernel_rfl) hc hm h2 h3 (by unfold maxLen; omega)
  have hcell : w.cell? ⟨B, 0, none⟩ = some (.map (some b)) := by simp [World.cell?, hC, h0]
  have hseq : SeqGives Fence.wide 2 Tryz.prog 304 #[.pointer (some ⟨B, 0, none⟩)] encZ (fun ss => ss.Perm (intKeys D0)) (Maps.size D0) w :=
    AnyZI.keys_gives (ρ := Tryz.keysA_ren) { Tryz.keysA with } Fence.wide _ trivial rfl (by omega) B b es.length D0 w (Array.getElem?_eq_some_iff.1 hC).1 hcell hown
  have cS := AnyZI.sorted_in Tryz.sortedA Fence.wide 5 trivial trivial trivial trivial rfl (by omega) (Tryz.sortsA _) (enters_of Tryz.func303 (by kernel_rfl) rfl) 304 #[.pointer (some ⟨B, 0, none⟩)] trivial (enters_of Tryz.func304 (by kernel_rfl) rfl) _ _ (by rw [hsz]; unfold maxLen; omega) (by rw [hsz]; omega) _ hseq
  change CallsIn _ _ Tryz.prog 255 _ _ _ at cS
  refine (callsIn_wide (n := 5)).1 (cS.mono ?_)
  rintro e w' ⟨v, ss, rfl, hS, hrow2, hnil, hbel⟩
  have hs : ss.mergeSort (fun x y => decide (x <= y)) = isortI (intsOf es) := isortI_eq (hS.trans hperm)
  rw [hs] at hrow2
  have hl2 : ss.length = (isortI (intsOf es)).length := by rw [(hS.trans hperm).length_eq, (isortI_perm _).length_eq]
  rw [hl2] at hrow2
  obtain ⟨g, hg, hv⟩ := ints_rel hrow2
  exact ⟨v, rfl, KOut.below hc hbel hg ⟨rfl, rfl⟩ (hv G) (toks_owned rfl _)⟩
def srtOrc : Orc:=fun f vs H => bif Nat.beq f 255 then
  match vs with
  | [.fn (.func s) [] [.ptr ob 0]] => bif Nat.beq s 304 then match H[ob]? with
   | some (some [.mapr o]) => match mapOf H (.mapr o) with
    | some es => bif okKeys es && Nat.ble es.length 1073741824 then some (.sl none ((isortI (intsOf es)).map (.int .i64)),H) else none
    | none => none
   | _ => none
   else none
  | _ => none
 else none
theorem srtOrc_ok : OrcOk Tryz.prog srtOrc:=by
 intro f vs H v H' h
 unfold srtOrc at h
 cases hf : Nat.beq f 255 with
 | false => rw [hf] at h; cases h
 | true =>
  rw [hf] at h
  have:=Nat.eq_of_beq_eq_true hf
  subst this
  dsimp only [cond_true] at h
  split at h
  ·rename_i s ob
   cases hs : Nat.beq s 304 with
   | false => rw [hs] at h; cases h
   | true =>
    rw [hs] at h
    have:=Nat.eq_of_beq_eq_true hs
    subst this
    dsimp only [cond_true] at h
    split at h
    ·rename_i o h1
     split at h
     ·rename_i es h2
      cases h3 : (okKeys es && Nat.ble es.length 1073741824) with
      | false => rw [h3] at h; cases h
      | true =>
       rw [h3] at h
       cases h
       simp only [Bool.and_eq_true] at h3
       exact sorted_call h1 h2 h3.1 (Nat.le_of_ble_eq_true h3.2)
     ·cases h
    ·cases h
  ·cases h
end Go.AI
