/- The abstract walk as a program that computes: operations. -/
import Derived.Test.YtdgagjhjpffeaaaGreatDoorAizg
import Derived.Test.YtdgagjhjpffeaaaGreatDoorMj
import Derived.Test.YtdgagjhjpffeaaaGreatDoorProg
import Derived.KernelRfl
import Derived.Below
import Derived.Shelf.SlIterI.Nil
import Derived.Shelf.SortM.Plain
import Derived.Shelf.SortM.SortNone
import Derived.Ground.GgzProg
import Derived.Ground.SlgmProg
set_option linter.unusedSimpArgs false
set_option linter.unusedVariables false
namespace Go.AI
open Go.MapKept
def abinF (op : BinOp) (a b : AV) : Option AV :=
 match a, b with
 | .int k x, .int k' y =>
  match op with
  | .shl => if 0 <= y then some (.int k (k.wrap (x * 2 ^ (min y.toNat k.bits)))) else none
  | .shr => if 0 <= y then some (.int k (x.fdiv (2 ^ (min y.toNat k.bits)))) else none
  | .add => if k = k' then some (.int k (k.wrap (x + y))) else none
  | .sub => if k = k' then some (.int k (k.wrap (x - y))) else none
  | .mul => if k = k' then some (.int k (k.wrap (x * y))) else none
  | .quo => if k = k' /\ y ≠ 0 then some (.int k (k.wrap (x.tdiv y))) else none
  | .rem => if k = k' /\ y ≠ 0 then some (.int k (x.tmod y)) else none
  | .and => if k = k' then some (.int k (k.wrap (BitVec.ofInt k.bits x &&& BitVec.ofInt k.bits y).toNat)) else none
  | .or => if k = k' then some (.int k (k.wrap (BitVec.ofInt k.bits x ||| BitVec.ofInt k.bits y).toNat)) else none
  | .xor => if k = k' then some (.int k (k.wrap (BitVec.ofInt k.bits x ^^^ BitVec.ofInt k.bits y).toNat)) else none
  | .andNot => if k = k' then some (.int k (k.wrap (BitVec.ofInt k.bits x &&& ~~~ BitVec.ofInt k.bits y).toNat)) else none
  | .eql => if k = k' then some (.bool (x == y)) else none
  | .neq => if k = k' then some (.bool (x != y)) else none
  | .lss => if k = k' then some (.bool (decide (x < y))) else none
  | .leq => if k = k' then some (.bool (decide (x <= y))) else none
  | .gtr => if k = k' then some (.bool (decide (x > y))) else none
  | .geq => if k = k' then some (.bool (decide (x ≥ y))) else none
 | .str x, .str y =>
  match op with
  | .add => if x.size + y.size <= 9223372036854775807 then some (.str (x ++ y)) else none
  | .eql => some (.bool (x.data.toList == y.data.toList))
  | .neq => some (.bool !(x.data.toList == y.data.toList))
  | .lss => some (.bool (Op.bytesLess x.data.toList y.data.toList))
  | .leq => some (.bool (Op.bytesLess x.data.toList y.data.toList || x.data.toList == y.data.toList))
  | .gtr => some (.bool !(Op.bytesLess x.data.toList y.data.toList || x.data.toList == y.data.toList))
  | .geq => some (.bool !(Op.bytesLess x.data.toList y.data.toList))
  | _ => none
 | _, _ => none
theorem oif {α : Type} {c : Prop} [Decidable c] {x : Option α} {v : α} (h : (if c then x else none) = some v) : c /\ x = some v := by
 split at h
 ·rename_i hc; exact ⟨hc, h⟩
 ·cases h
theorem abinF_ok {op : BinOp} {a b v : AV} {R : AV -> Prop} (h : abinF op a b = some v) (hr : R v) : abin op a b R := by
 unfold abinF at h
 unfold abin
 split at h
 ·cases op <;> obtain ⟨h1, h2⟩ := oif h <;> cases h2 <;> first | exact ⟨h1, hr⟩ | exact ⟨h1.1, h1.2, hr⟩
 ·simp only [ByteArray.toList_eq]
  cases op <;> first | (cases h; done) | (obtain ⟨h1, h2⟩ := oif h; cases h2; exact ⟨h1, hr⟩) | (cases h; exact hr)
 ·cases h
def abinopF (P : Program) (op : BinOp) (t : TypeId) (a b : AV) : Option AV :=
 match op, aeql P t a b with
 | .eql, some r => some (.bool r)
 | .neq, some r => some (.bool !r)
 | _, _ => abinF op a b
theorem abinopF_ok {P : Program} {op : BinOp} {t : TypeId} {a b v : AV} {R : AV -> Prop} (h : abinopF P op t a b = some v) (hr : R v) : abinop P op t a b R := by
 unfold abinopF at h
 unfold abinop
 generalize aeql P t a b = q at h ⊢
 cases q with
 | none => cases op <;> exact abinF_ok h hr
 | some r => cases op <;> first | exact abinF_ok h hr | (cases h; exact hr)
def nilcmpF (P : Program) (op : BinOp) (t : TypeId) (a : AV) : Option AV :=
 match P.underlying t with
 | some (.slice _) => match op, a with
  | .eql, .sl _ (_ :: _) => some (.bool false)
  | .neq, .sl _ (_ :: _) => some (.bool true)
  | .eql, .msl _ _ _ _ => some (.bool false)
  | .neq, .msl _ _ _ _ => some (.bool true)
  | _, _ => none
 | _ => none
theorem nilcmpF_ok {P : Program} {op : BinOp} {t : TypeId} {a v : AV} {R : AV -> Prop} (h : nilcmpF P op t a = some v) (hr : R v) : nilcmp P op t a R := by
 unfold nilcmpF at h
 unfold nilcmp
 split at h
 ·rename_i e he
  simp only [he]
  split at h <;> cases h <;> exact hr
 ·cases h
def asliceF (P : Program) (t : TypeId) (x : AV) (lo hi mx : Option Int) : Option AV :=
 match P.underlying t, x with
 | some .string, .str s =>
  if mx = none /\ 0 <= lo.getD 0 /\ lo.getD 0 <= hi.getD s.size /\ hi.getD s.size <= s.size then some (.str (s.extract (lo.getD 0).toNat (hi.getD s.size).toNat)) else none
 | some (.slice e), .sl own es =>
  if 0 <= lo.getD 0 /\ lo.getD 0 <= hi.getD es.length /\ hi.getD es.length <= es.length /\ es.all (fun x => x.cells.length == P.cellsOf e) = true /\ (P.info? e).isSome = true then
   match mx with
   | none => some (.sl (if hi.getD es.length = es.length then own else none) ((es.take (hi.getD es.length).toNat).drop (lo.getD 0).toNat))
   | some m => if m = hi.getD es.length then some (.sl (some (P.cellsOf e)) ((es.take (hi.getD es.length).toNat).drop (lo.getD 0).toNat)) else none
  else none
 | some (.pointer ta), .cptr cs off => if lo = none /\ hi = none /\ mx = none then
   match P.underlying ta with
   | some (.array n e) => if P.cellsOf e = 1 /\ off + n <= cs.length /\ n <= 9223372036854775807 then some (.sl none ((cs.drop off).take n)) else none
   | _ => none
  else none
 | some (.array n e), .cptr cs off => if (lo = none /\ hi = none /\ mx = none) /\ P.cellsOf e = 1 /\ off + n <= cs.length /\ n <= 9223372036854775807 then some (.sl none ((cs.drop off).take n)) else none
 | _, _ => none
theorem all_len {es : List AV} {k : Nat} (h : es.all (fun x => x.cells.length == k) = true) : ∀ x ∈ es, x.cells.length = k := fun x hx => by
 have := List.all_eq_true.1 h x hx
 simpa using this
theorem asliceF_ok {P : Program} {t : TypeId} {x v : AV} {lo hi mx : Option Int} {R : AV -> Prop} (h : asliceF P t x lo hi mx = some v) (hr : R v) : aslice P t x lo hi mx R := by
 unfold asliceF at h
 unfold aslice
 split at h
 ·rename_i hu
  simp only [hu]
  obtain ⟨h1, h2⟩ := oif h
  cases h2
  exact ⟨h1.1, h1.2.1, h1.2.2.1, h1.2.2.2, hr⟩
 ·rename_i hu
  simp only [hu]
  obtain ⟨⟨h1, h2, h3, h4, h5⟩, h⟩ := oif h
  refine ⟨h1, h2, h3, all_len h4, h5, ?_⟩
  split at h
  ·cases h; exact hr
  ·obtain ⟨h6, h⟩ := oif h
   cases h; exact ⟨h6, hr⟩
 ·rename_i hu
  simp only [hu]
  obtain ⟨⟨h1, h2, h3⟩, h⟩ := oif h
  refine ⟨h1, h2, h3, ?_⟩
  split at h
  ·rename_i ha
   simp only [ha]
   obtain ⟨⟨g1, g2, g3⟩, h⟩ := oif h
   cases h; exact ⟨g1, g2, g3, hr⟩
  ·cases h
 ·rename_i hu
  simp only [hu]
  obtain ⟨h1, h⟩ := oif h
  cases h
  exact ⟨h1.1, h1.2.1, h1.2.2.1, h1.2.2.2, hr⟩
 ·cases h
def aappendF (P : Program) (e : TypeId) (mt ln : Bool) (H : Heap) (a : AV) (xs : List AV) : Option (AV × Heap) :=
 if xs.all (fun x => x.cells.length == P.cellsOf e) = true then
  match mt, a with
  | false, .sl own es => if own = some (P.cellsOf e) /\ (es.length + xs.length) * P.bytesOf e <= 140737488355328 /\ es.length + xs.length <= 9223372036854775807 then some (.sl (bif ln then none else some (P.cellsOf e)) (es ++ xs), H) else none
  | true, .msl ob off len sz => match H[ob]? with
   | some (some []) => if off = 0 /\ len = 0 /\ sz = P.cellsOf e /\ xs.length * P.bytesOf e <= 140737488355328 /\ xs.length <= 9223372036854775807 then
     some (.msl H.length 0 xs.length (P.cellsOf e), H.set ob none ++ [some ((cat xs).map borrow1)]) else none
   | _ => none
  | _, _ => none
 else none
theorem aappendF_ok {P : Program} {e : TypeId} {mt ln : Bool} {H : Heap} {a : AV} {xs : List AV} {v : AV} {H' : Heap} {R : AV -> Heap -> Prop} (h : aappendF P e mt ln H a xs = some (v, H')) (hr : R v H') : aappend P e mt ln H a xs R := by
 unfold aappendF at h
 unfold aappend
 obtain ⟨h0, h⟩ := oif h
 refine ⟨all_len h0, ?_⟩
 split at h
 ·obtain ⟨⟨h1, h2, h3⟩, h⟩ := oif h
  cases h
  exact ⟨h1, h2, h3, hr⟩
 ·split at h
  ·rename_i hob
   obtain ⟨⟨h1, h2, h3, h4, h5⟩, h⟩ := oif h
   cases h
   exact ⟨h1, h2, h3, hob, h4, h5, hr⟩
  ·cases h
 ·cases h
def isIntK (k : IntKind) : AV -> Bool
 | .int k' _ => decide (k' = k)
 | _ => false
def isStrA : AV -> Bool
 | .str _ => true
 | _ => false
def keysF (P : Program) (wk : List TypeId) (kt : TypeId) (ks : List AV) : Bool :=
 match P.underlying kt with
 | some (.int k) => ks.all (isIntK k)
 | some .string => ks.all isStrA
 | some _ => wk.contains kt && ks.all fun a => match keyV a with
  | some v => (keyOf P kt v).isSome
  | none => false
 | none => false
def WideOk (P : Program) (wk : List TypeId) : Prop := ∀ kt ∈ wk, WideMaps.KeyLaw P kt
theorem keysF_ok {P : Program} {wk : List TypeId} {kt : TypeId} {ks : List AV} (hw : WideOk P wk) (h : keysF P wk kt ks = true) : keysIn P kt ks := by
 unfold keysF at h
 split at h
 ·rename_i k hk
  refine ⟨_, KLaw.plain hk, fun a ha => ?_⟩
  have := List.all_eq_true.1 h a ha
  cases a <;> first | cases this | skip
  rename_i k' n
  exact ⟨_, rfl, (by simpa [isIntK] using this : k' = k)⟩
 ·rename_i hk
  refine ⟨_, KLaw.plain hk, fun a ha => ?_⟩
  have := List.all_eq_true.1 h a ha
  cases a <;> first | cases this | skip
  exact ⟨_, rfl, trivial⟩
 ·simp only [Bool.and_eq_true] at h
  refine ⟨_, KLaw.wide (hw kt (by simpa using h.1)), fun a ha => ?_⟩
  have := List.all_eq_true.1 h.2 a ha
  split at this
  ·rename_i v hv
   exact ⟨v, hv, Option.isSome_iff_exists.1 this⟩
  ·cases this
 ·cases h
def distF (es : List (AV × AV)) : Bool := match es with
 | [] => true
 | p :: es => es.all (fun q => !keyEq p.1 q.1) && distF es
theorem distF_ok {es : List (AV × AV)} (h : distF es = true) : distK es := by
 induction es with
 | nil => exact List.Pairwise.nil
 | cons p es ih =>
  simp only [distF, Bool.and_eq_true] at h
  exact List.Pairwise.cons (fun q hq => by simpa using List.all_eq_true.1 h.1 q hq) (ih h.2)
def arangeF (P : Program) (t : TypeId) (H : Heap) (x : AV) : Option (AV × Heap) :=
 match P.underlying t, x with
 | some .string, .str s => some (.it H.length, H ++ [some (iterS s 0)])
 | some (.map _ _), .nilm => some (.it H.length, H ++ [some [.nilm]])
 | some (.map _ _), .mapr o' => match mapOf H (.mapr o') with
  | some es => some (.it H.length, H ++ [some (iterM o' es.length [])])
  | none => none
 | _, _ => none
theorem arangeF_ok {P : Program} {t : TypeId} {H : Heap} {x v : AV} {H' : Heap} {R : AV -> Heap -> Prop} (h : arangeF P t H x = some (v, H')) (hr : R v H') : arange P t H x R := by
 unfold arangeF at h
 unfold arange
 split at h
 ·rename_i hu; simp only [hu]; cases h; exact hr
 ·rename_i hu; simp only [hu]; cases h; exact hr
 ·rename_i hu
  simp only [hu]
  split at h
  ·rename_i es he
   simp only [he]; cases h; exact hr
  ·cases h
 ·cases h
def unseen (n : Nat) (seen : List AV) : List Nat := (List.range n).filter fun i => !(seenOf seen).contains (i : Int)
def anextF (str : Bool) (H : Heap) (o' : Nat) : Option (AV × Heap) :=
 match str, H[o']? with
 | true, some (some [.str s, .int .i64 pos]) =>
  if pos.toNat < s.size then some (.tup [.bool true, .int .i64 pos.toNat, .int .i32 (Utf8.decode s pos.toNat).1], H.set o' (some (iterS s ((pos.toNat + (Utf8.decode s pos.toNat).2 : Nat) : Int))))
  else some (.tup [.bool false], H)
 | false, some (some [.nilm]) => some (.tup [.bool false], H)
 | false, some (some [.mapr m, .int .i64 since, .tup seen]) => match mapOf H (.mapr m) with
  | some es => if since = es.length then match unseen es.length seen with
   | [] => some (.tup [.bool false], H)
   | [i] => match es[i]? with
    | some p => some (.tup [.bool true, p.1.borrow, p.2.borrow], H.set o' (some [.mapr m, .int .i64 since, .tup (seen ++ [.int .i64 i])]))
    | none => none
   | _ => none
   else none
  | none => none
 | _, _ => none
theorem mem_unseen {n : Nat} {seen : List AV} {i : Nat} : i ∈ unseen n seen ↔ i < n /\ (i : Int) ∉ seenOf seen := by
 simp [unseen, List.mem_filter]
theorem anextF_ok {str : Bool} {H : Heap} {o' : Nat} {v : AV} {H' : Heap} {R : AV -> Heap -> Prop} (h : anextF str H o' = some (v, H')) (hr : R v H') : anext str H o' R := by
 unfold anextF at h
 unfold anext
 split at h
 ·rename_i ho
  simp only [ho]
  split at h
  ·rename_i hc; rw [if_pos hc]; cases h; exact hr
  ·rename_i hc; rw [if_neg hc]; cases h; exact hr
 ·rename_i ho; simp only [ho]; cases h; exact hr
 ·rename_i m since seen ho
  simp only [ho]
  split at h
  ·rename_i es he
   simp only [he]
   obtain ⟨hs, h⟩ := oif h
   refine ⟨hs, ?_⟩
   split at h
   ·rename_i hun
    cases h
    refine ⟨fun _ => hr, fun i p hp hns => ?_⟩
    have : i ∈ unseen es.length seen := mem_unseen.2 ⟨(List.getElem?_eq_some_iff.1 hp).1, hns⟩
    rw [hun] at this; cases this
   ·rename_i i hun
    have hi : i ∈ unseen es.length seen := by rw [hun]; exact List.mem_singleton.2 rfl
    obtain ⟨hi1, hi2⟩ := mem_unseen.1 hi
    split at h
    ·rename_i p hp
     cases h
     refine ⟨fun hall => absurd (hall i hi1) hi2, fun j q hq hns => ?_⟩
     have : j ∈ unseen es.length seen := mem_unseen.2 ⟨(List.getElem?_eq_some_iff.1 hq).1, hns⟩
     rw [hun] at this
     obtain rfl := List.mem_singleton.1 this
     rw [hp] at hq; cases hq
     exact hr
    ·cases h
   ·cases h
  ·cases h
 ·cases h
def aentryF (H : Heap) (o' : Nat) : Option (AV × Heap) :=
 match H[o']? with
 | some (some [.mapr m, .int .i64 since, .tup seen]) => match mapOf H (.mapr m), seen.getLast? with
  | some es, some (.int .i64 i) => if since = es.length then match es[i.toNat]? with
   | some p => some (.tup [p.1.borrow, p.2.borrow], H)
   | none => none
   else none
  | _, _ => none
 | _ => none
theorem aentryF_ok {H : Heap} {o' : Nat} {v : AV} {H' : Heap} {R : AV -> Heap -> Prop} (h : aentryF H o' = some (v, H')) (hr : R v H') : aentry H o' R := by
 unfold aentryF at h
 unfold aentry
 split at h
 ·rename_i m since seen ho
  simp only [ho]
  split at h
  ·rename_i es i he hl
   simp only [he, hl]
   obtain ⟨hs, h⟩ := oif h
   refine ⟨hs, ?_⟩
   split at h
   ·rename_i p hp
    cases h
    exact ⟨p, hp, hr⟩
   ·cases h
  ·cases h
 ·cases h
def aresF (P : Program) (wk : List TypeId) (h : Hint) (o : Oper) (vals : List AV) (H : Heap) : Option (AV × Heap) :=
 match o.op, vals with
 | .move _, [a] => some (a, H)
 | .assign _, [a] => some (a, H)
 | .pick _ _ _, [.bool c, a, b] => some (if c = true then a else b, H)
 | .box _ _, [a] => if a.isVal = true then some (.ptr H.length 0, H ++ [some a.cells]) else none
 | .alloc e, [] => match zeroAV P e with
  | some z => some (.ptr H.length 0, H ++ [some z.cells])
  | none => none
 | .build t ps, vs => (vBuild P t (ps.toList.map (·.1)) vs).map fun v => (v, H)
 | .buildSlice t len ps, vs =>
  match P.underlying t with
  | some (.slice e) => if 0 < P.cellsOf e /\ len * P.cellsOf e <= 16777216 /\ ps.toList.map (·.1) = List.range len /\ vs.all (fun v => v.isVal && v.cells.length == P.cellsOf e) = true /\ zeroOk P e = true then
    match o.dst.any h.mt.contains with
    | true => some (.msl H.length 0 len (P.cellsOf e), H ++ [some (cat (vs.map AV.borrow))])
    | false => some (.sl (some (P.cellsOf e)) (vs.map AV.borrow), H)
   else none
  | _ => none
 | .makeSlice t _ _, [.int _ n, .int _ c] =>
  match P.underlying t with
  | some (.slice e) => if n = c /\ 0 <= n /\ n * P.bytesOf e <= 140737488355328 /\ n <= 9223372036854775807 /\ (P.info? e).isSome = true then
    match zeroAV P e with
    | some z => if z.cells.length = P.cellsOf e /\ 0 < P.cellsOf e then some (.msl H.length 0 n.toNat (P.cellsOf e), H ++ [some (List.replicate n.toNat z.cells).flatten]) else none
    | none => none
   else none
  | _ => none
 | .load t _, [a] => vLoad P (o.dst.any h.tk.contains) t a H
 | .store t _ _, [a, v] => (vStore P t a v H).map fun H' => (.undef, H')
 | .nilCheck _, [a] => (vNil a).map fun v => (v, H)
 | .binOp op t _ y _, [a, b] => match nilSide y with
  | true => (nilcmpF P op t a).map fun v => (v, H)
  | false => (abinopF P op t a b).map fun v => (v, H)
 | .unOp op _ _, [a] => (vUn op a).map fun v => (v, H)
 | .convert src dst _, [a] =>
  match P.underlying src, P.underlying dst, a with
  | some _, some (.int k), .int _ n => some (.int k (k.wrap n), H)
  | some .string, some .string, .str s => some (.str s, H)
  | some (.slice e), some .string, .sl _ es => if (match P.underlying e with | some (.int .u8) => true | _ => false) = true /\ es.all isByte = true then some (.str (byteStr es), H) else none
  | _, _, _ => none
 | .makeFunc fn first _, vs => some (.fn fn (vs.take first.size) (vs.drop first.size), H)
 | .slice t _ lo hi mx, x :: rest =>
  match bounds3 lo.isSome hi.isSome mx.isSome rest with
  | some (l, hh, m) => (asliceF P t x l hh m).map fun v => (v, H)
  | none => none
 | .fieldAddr s _ f, [x] => (vField P (fieldAt P s f) x).map fun v => (v, H)
 | .field t _ f, [x] => (vPart P (fieldAt P t f) x).map fun v => (v, H)
 | .extract _ i, [x] => (vExtract x i).map fun v => (v, H)
 | .indexAddr t _ _, [x, i] => (vIndexAddr P (P.underlying t) x i).map fun v => (v, H)
 | .index t _ _, [x, i] => (vIndex P (P.underlying t) x i).map fun v => (v, H)
 | .makeMap _ none, [] => some (.mapr H.length, H ++ [some (mapc [])])
 | .range t _, [x] => arangeF P t H x
 | .next _ str, [.it o'] => anextF str H o'
 | .entry _, [.it o'] => aentryF H o'
 | .lookup t _ _ ok, [m, k] =>
  match P.underlying t with
  | some (.map kt et) => match mapOf H m with
   | some es => if keysF P wk kt (k :: es.map (·.1)) = true /\ distF es = true then
     match zeroAV P et with
     | some z => some (lkres ok z (afind k es 0), H)
     | none => none
    else none
   | none => none
  | _ => none
 | .mapUpdate t _ _ _, [.mapr o', k, v] =>
  match P.underlying t with
  | some (.map kt _) => match mapOf H (.mapr o') with
   | some es => if keysF P wk kt (k :: es.map (·.1)) = true /\ distF es = true /\ v.isVal = true then some (.undef, H.set o' (some (mapc (mapUpd es k v)))) else none
   | none => none
  | _ => none
 | .call c, vs =>
  match c.callee with
  | .builtin .len => match vs with
   | [x] => (vLen (c.argTypes[0]?.bind P.underlying) x).map fun v => (v, H)
   | _ => none
  | .builtin .append => match vs, c.argTypes.toList with
   | [a, b], [t, t'] => if t = t' then match P.underlying t with
    | some (.slice e) => if 0 < P.cellsOf e /\ zeroOk P e = true then match asrc P e (o.dst.any h.mt.contains || o.dst.any h.tk.contains) H b with
     | some xs => aappendF P e (o.dst.any h.mt.contains) (o.dst.any h.pc.contains) H a xs
     | none => none
     else none
    | _ => none
    else none
   | _, _ => none
  | .builtin .min => match vs with
   | [.int k a, .int k' b] => if k = k' then some (.int k (if b < a then b else a), H) else none
   | _ => none
  | .builtin .max => match vs with
   | [.int k a, .int k' b] => if k = k' then some (.int k (if b > a then b else a), H) else none
   | _ => none
  | _ => none
 | _, _ => none
theorem mapS {α β : Type} {x : Option α} {f : α -> β} {y : β} (h : x.map f = some y) : ∃ a, x = some a /\ f a = y := by
 cases x with
 | none => cases h
 | some a => exact ⟨a, rfl, by simpa using h⟩
set_option maxHeartbeats 1000000 in
theorem aresF_ok {P : Program} {wk : List TypeId} (hw : WideOk P wk) {h : Hint} {o : Oper} {vals : List AV} {H : Heap} {v : AV} {H' : Heap} {R : AV -> Heap -> Prop} (hx : aresF P wk h o vals H = some (v, H')) (hr : R v H') : ares P h o vals H R := by
 unfold aresF at hx
 split at hx <;> rename_i heq
 ·cases hx; simp only [ares, heq]; exact hr
 ·cases hx; simp only [ares, heq]; exact hr
 ·cases hx; simp only [ares, heq]; exact hr
 ·obtain ⟨h1, h2⟩ := oif hx
  cases h2; simp only [ares, heq]; exact ⟨h1, hr⟩
 ·split at hx
  ·rename_i z hz
   cases hx; simp only [ares, heq]; exact ⟨z, hz, hr⟩
  ·cases hx
 ·obtain ⟨a, h1, h2⟩ := mapS hx
  cases h2
  unfold vBuild at h1
  simp only [ares, heq]
  split at h1
  ·rename_i fs hu
   simp only [hu]
   obtain ⟨g1, h1⟩ := oif h1
   split at h1
   ·rename_i z hz
    obtain ⟨cs, g2, rfl⟩ := mapS h1
    exact ⟨z, cs, g1, hz, g2, hr⟩
   ·cases h1
  ·rename_i n e hu
   simp only [hu]
   obtain ⟨g1, h1⟩ := oif h1
   split at h1
   ·rename_i z hz
    obtain ⟨cs, g2, rfl⟩ := mapS h1
    exact ⟨z, cs, g1, hz, g2, hr⟩
   ·cases h1
  ·cases h1
 ·split at hx
  ·rename_i e hu
   obtain ⟨⟨g1, g2, g3, g4, g5⟩, hx⟩ := oif hx
   simp only [ares, heq, hu]
   refine ⟨g1, g2, g3, fun x hx' => ?_, g5, ?_⟩
   ·have := List.all_eq_true.1 g4 x hx'
    simpa using this
   ·split at hx
    ·rename_i hm
     cases hx; simp only [hm]; exact hr
    ·rename_i hm
     cases hx; simp only [hm]; exact hr
  ·cases hx
 ·split at hx
  ·rename_i e hu
   obtain ⟨⟨g1, g2, g3, g4, g5⟩, hx⟩ := oif hx
   split at hx
   ·rename_i z hz
    obtain ⟨⟨g6, g7⟩, hx⟩ := oif hx
    cases hx
    simp only [ares, heq, hu]
    exact ⟨g1, g2, g3, g4, g5, z, hz, g6, g7, hr⟩
   ·cases hx
  ·cases hx
 · -- load
  unfold vLoad at hx
  split at hx
  ·split at hx
   ·rename_i cs hob
    split at hx
    ·rename_i x hl
     split at hx
     ·rename_i htk
      obtain ⟨⟨g1, g2⟩, hx⟩ := oif hx
      cases hx
      simp only [ares, heq, hob, hl, htk]
      exact ⟨g1, g2, hr⟩
     ·rename_i htk
      cases hx
      simp only [ares, heq, hob, hl, htk]
      exact hr
    ·cases hx
   ·cases hx
  ·split at hx
   ·rename_i x hl
    cases hx
    simp only [ares, heq, hl]
    exact hr
   ·cases hx
  ·cases hx
 · -- store
  obtain ⟨a, h1, h2⟩ := mapS hx
  cases h2
  unfold vStore at h1
  split at h1
  ·split at h1
   ·rename_i cs hob
    obtain ⟨⟨g1, g2, g3, g4⟩, h1⟩ := oif h1
    cases h1
    simp only [ares, heq, hob]
    exact ⟨g1, g2, g3, g4, hr⟩
   ·cases h1
  ·cases h1
 ·obtain ⟨a, h1, h2⟩ := mapS hx
  cases h2
  unfold vNil at h1
  split at h1 <;> cases h1 <;> (simp only [ares, heq]; exact hr)
 ·split at hx
  ·rename_i hn
   obtain ⟨a, h1, h2⟩ := mapS hx
   cases h2
   simp only [ares, heq, hn]
   exact nilcmpF_ok h1 hr
  ·rename_i hn
   obtain ⟨a, h1, h2⟩ := mapS hx
   cases h2
   simp only [ares, heq, hn]
   exact abinopF_ok h1 hr
 ·obtain ⟨a, h1, h2⟩ := mapS hx
  cases h2
  unfold vUn at h1
  split at h1 <;> cases h1 <;> (simp only [ares, heq]; exact hr)
 ·split at hx
  ·rename_i g1 g2
   cases hx
   simp only [ares, heq, g1, g2]; exact hr
  ·rename_i g1 g2
   cases hx
   simp only [ares, heq, g1, g2]; exact hr
  ·rename_i g1 g2
   obtain ⟨⟨g3, g4⟩, hx⟩ := oif hx
   cases hx
   simp only [ares, heq, g1, g2]
   refine ⟨?_, fun x hx' => List.all_eq_true.1 g4 x hx', hr⟩
   split at g3
   ·assumption
   ·cases g3
  ·cases hx
 ·cases hx; simp only [ares, heq]; exact hr
 ·split at hx
  ·rename_i hb
   obtain ⟨a, h1, h2⟩ := mapS hx
   cases h2
   simp only [ares, heq, hb]
   exact asliceF_ok h1 hr
  ·cases hx
 ·obtain ⟨a, h1, h2⟩ := mapS hx
  cases h2
  unfold vField fieldAt at h1
  simp only [ares, heq]
  split at h1
  ·rename_i fd hfd
   split at hfd
   ·rename_i fs hu
    simp only [hu, hfd]
    obtain ⟨g1, h1⟩ := oif h1
    refine ⟨g1, ?_⟩
    unfold vOff at h1
    split at h1 <;> cases h1 <;> exact hr
   ·cases hfd
  ·cases h1
 ·obtain ⟨a, h1, h2⟩ := mapS hx
  cases h2
  unfold vPart fieldAt at h1
  split at h1
  ·rename_i fd cs hfd
   split at hfd
   ·rename_i fs hu
    simp only [ares, heq, hu, hfd, h1]
    exact hr
   ·cases hfd
  ·cases h1
 ·obtain ⟨a, h1, h2⟩ := mapS hx
  cases h2
  unfold vExtract at h1
  split at h1
  ·simp only [ares, heq]
   exact ⟨_, h1, hr⟩
  ·cases h1
 ·obtain ⟨a, h1, h2⟩ := mapS hx
  cases h2
  unfold vIndexAddr at h1
  split at h1
  ·split at h1
   ·rename_i e own es hu
    obtain ⟨g1, h1⟩ := oif h1
    simp only [ares, heq, hu]
    obtain ⟨x, g2, h1⟩ := Option.bind_eq_some_iff.1 h1
    obtain ⟨⟨g3, g4⟩, h1⟩ := oif h1
    cases h1
    exact ⟨g1, x, g2, g3, g4, hr⟩
   ·rename_i hu
    obtain ⟨⟨g1, g2, g3, g4⟩, h1⟩ := oif h1
    cases h1
    simp only [ares, heq, hu]
    exact ⟨g1, g2, g3, g4, hr⟩
   ·rename_i hu
    obtain ⟨⟨g1, g2, g3⟩, h1⟩ := oif h1
    cases h1
    simp only [ares, heq, hu]
    exact ⟨g1, g2, g3, hr⟩
   ·rename_i hu
    obtain ⟨⟨g1, g2, g3⟩, h1⟩ := oif h1
    cases h1
    simp only [ares, heq, hu]
    exact ⟨g1, g2, g3, hr⟩
   ·cases h1
  ·cases h1
 ·obtain ⟨a, h1, h2⟩ := mapS hx
  cases h2
  unfold vIndex at h1
  split at h1
  ·split at h1
   ·rename_i hu
    obtain ⟨⟨g1, g2⟩, h1⟩ := oif h1
    cases h1
    simp only [ares, heq, hu]
    exact ⟨g1, g2, hr⟩
   ·rename_i hu
    obtain ⟨⟨g1, g2, g3⟩, h1⟩ := oif h1
    simp only [ares, heq, hu]
    exact ⟨g1, g2, g3, _, h1, hr⟩
   ·cases h1
  ·cases h1
 ·cases hx; simp only [ares, heq]; exact hr
 ·simp only [ares, heq]; exact arangeF_ok hx hr
 ·simp only [ares, heq]; exact anextF_ok hx hr
 ·simp only [ares, heq]; exact aentryF_ok hx hr
 ·split at hx
  ·rename_i hu
   split at hx
   ·rename_i es he
    obtain ⟨⟨g1, g2⟩, hx⟩ := oif hx
    split at hx
    ·rename_i z hz
     cases hx
     simp only [ares, heq, hu, he]
     exact ⟨keysF_ok hw g1, distF_ok g2, z, hz, hr⟩
    ·cases hx
   ·cases hx
  ·cases hx
 ·split at hx
  ·rename_i hu
   split at hx
   ·rename_i es he
    obtain ⟨⟨g1, g2, g3⟩, hx⟩ := oif hx
    cases hx
    simp only [ares, heq, hu, he]
    exact ⟨keysF_ok hw g1, distF_ok g2, g3, hr⟩
   ·cases hx
  ·cases hx
 ·rename_i c
  split at hx
  ·rename_i hcal
   split at hx
   ·obtain ⟨a, h1, h2⟩ := mapS hx
    cases h2
    unfold vLen at h1
    split at h1 <;> cases h1 <;> (rename_i hu; simp only [ares, heq, hcal, hu]; exact hr)
   ·cases hx
  ·rename_i hcal
   split at hx
   ·rename_i hat
    obtain ⟨g0, hx⟩ := oif hx
    split at hx
    ·rename_i e hu
     obtain ⟨⟨g1, g2⟩, hx⟩ := oif hx
     split at hx
     ·rename_i xs hs
      simp only [ares, heq, hcal, hat, hu, hs]
      exact ⟨g0, g1, g2, aappendF_ok hx hr⟩
     ·cases hx
    ·cases hx
   ·cases hx
  ·rename_i hcal
   split at hx
   ·obtain ⟨g1, hx⟩ := oif hx
    cases hx
    simp only [ares, heq, hcal]
    exact ⟨g1, hr⟩
   ·cases hx
  ·rename_i hcal
   split at hx
   ·obtain ⟨g1, hx⟩ := oif hx
    cases hx
    simp only [ares, heq, hcal]
    exact ⟨g1, hr⟩
   ·cases hx
  ·cases hx
 ·cases hx
end Go.AI
namespace Go.AI
inductive Task where
 | call (f : FuncId) (vs : List AV) (H : Heap)
 | yld (o : Nat) (L : LoopRec) (ys : List AV) (H : Heap)
 | code (hf : FuncId) (n : Nat) (ar : Option Nat) (c : Code) (e : Env) (H : Heap)
 | ops (hf : FuncId) (n : Nat) (os : Array Oper) (l : List Oper) (e : Env) (H : Heap)
inductive ROut where
 | val (v : AV) (H : Heap)
 | st (ex : Exit) (e : Env) (H : Heap)
structure EvT where
 tb : FuncId -> Option Func
 hs : FuncId -> Hint
 wk : List TypeId
 orc : FuncId -> List AV -> Heap -> Option (AV × Heap)
def loopOf (H : Heap) (o : Nat) : Option (Int × List AV) :=
 match H[o]? with
 | some (some [.tup [.int .i64 st], .tup av]) => some (st, av)
 | _ => none
theorem loopOf_eq {H : Heap} {o : Nat} {st : Int} {av : List AV} (h : loopOf H o = some (st, av)) : H[o]? = some (some (loopc st av)) := by
 unfold loopOf at h
 split at h
 ·rename_i hh; cases h; exact hh
 ·cases h
def revF (P : Program) (n : Nat) : List ResultVar -> Env -> Heap -> Option (List AV × Heap)
 | [], _, H => some ([], H)
 | .tmp t :: rs, e, H => if t < n then (revF P n rs (ev1 P none true (.tmp t) e).2 H).map fun r => ((ev1 P none true (.tmp t) e).1 :: r.1, r.2) else none
 | .cell t ty :: rs, e, H => if t < n then match vRead P ty (look e t) H with
   | some (v, H') => (revF P n rs e H').map fun r => (v :: r.1, r.2)
   | none => none
  else none
def retF : List AV -> Option AV
 | [v] => some v
 | vs => if vs.all AV.isVal = true then some (.tup vs) else none
def aroundF (ar : Option Nat) (H : Heap) : Bool :=
 match ar with
 | none => true
 | some o => match H[o]? with
  | some (some _) => true
  | _ => false
def dstF (n : Nat) : Option Tmp -> Bool
 | some d => decide (d < n)
 | none => true
def stepCall (P : Program) (T : EvT) (ih : Task -> Option ROut) (f : FuncId) (vs : List AV) (H : Heap) : Option ROut :=
 match T.orc f vs H with
 | some (v, H') => some (.val v H')
 | none => match T.tb f with
  | some fn => match fn.body with
   | some c => if vs.length <= fn.ntmps then
     match ih (.code f fn.ntmps none c (argsFrom 0 vs) H) with
     | some (.st .normal e H') => (revF P fn.ntmps fn.results.toList e H').bind fun r => (retF r.1).map fun v => .val v r.2
     | some (.st .ret e H') => (revF P fn.ntmps fn.results.toList e H').bind fun r => (retF r.1).map fun v => .val v r.2
     | _ => none
    else none
   | none => none
  | none => none
def stepYld (T : EvT) (ih : Task -> Option ROut) (o : Nat) (L : LoopRec) (ys : List AV) (H : Heap) : Option ROut :=
 match T.tb L.tag, loopOf H o with
 | some fn, some (st, av) =>
  if st = 0 /\ av.length = fn.ntmps /\ L.ps.toList.length = ys.length /\ L.ps.toList.all (fun p => decide (p < fn.ntmps)) = true /\ drawsOk (T.hs L.tag) L.assign = true /\ drawsOk (T.hs L.tag) L.body = true then
   match ih (.code L.tag fn.ntmps (some o) L.assign (roundEnv av L.ps.toList ys (argsFrom 0 av)) H) with
   | some (.st .normal e2 H2) => match loopOf H2 o with
    | some (st2, av2) => if st2 = 0 then
      match ih (.code L.tag fn.ntmps (some o) L.body e2 (H2.set o (some (loopc (-1) av2)))) with
      | some (.st ex _ H3) => match loopOf H3 o with
       | some (st3, av3) => if st3 = -1 then match ex with
         | .normal => some (.val (.bool true) (H3.set o (some (loopc 0 av3))))
         | .ret => some (.val (.bool false) (H3.set o (some (loopc (-2) av3))))
         | .exit k => some (.val (.bool false) (H3.set o (some (loopc ((k : Int) + 1) av3))))
         | _ => none
        else none
       | none => none
      | _ => none
     else none
    | none => none
   | _ => none
  else none
 | _, _ => none
def apartB (P : Program) (h : Hint) (o o' : Oper) (e : Env) : Bool :=
 match adrOf P h o, adrOf P h o' with
 | some (a, k, s), some (b, l, s') => (s || s') && match look e a, look e b with
  | .ptr o1 f1, .ptr o2 f2 => !(o1 == o2) || (decide (f1 + k <= f2) || decide (f2 + l <= f1))
  | _, _ => false
 | _, _ => false
def dynB (P : Program) (h : Hint) (ops : Array Oper) (e : Env) : Bool := (dynPairs h ops).all fun p => apartB P h p.1 p.2 e
def stepCode (P : Program) (T : EvT) (ih : Task -> Option ROut) (hf : FuncId) (n : Nat) (ar : Option Nat) (c : Code) (e : Env) (H : Heap) : Option ROut :=
 match c with
 | .skip => some (.st .normal e H)
 | .ret => some (.st .ret e H)
 | .exit id => some (.st (.exit id) e H)
 | .region id ops _ => match ih (.ops hf n ops ops.toList e H) with
  | some (.st .normal e1 H1) =>
   if (!((T.hs hf).dn id) || dynB P (T.hs hf) ops e1) = true then
    match frzs ((T.hs hf).at id) (clean ((T.hs hf).lv id) e1) H1 with
    | (e2, H2) => some (.st .normal e2 (gcut ((T.hs hf).ct id) e2 H2))
   else none
  | _ => none
 | .seq a b => match ih (.code hf n ar a e H) with
  | some (.st .normal e1 H1) => ih (.code hf n ar b e1 H1)
  | r => r
 | .cond c a b => match evo P none e c with
  | .bool t => if t = true then ih (.code hf n ar a e H) else ih (.code hf n ar b e H)
  | _ => none
 | .block id c => match ih (.code hf n ar c e H) with
  | some (.st (.exit j) e1 H1) => if j = id then some (.st .normal e1 H1) else some (.st (.exit j) e1 H1)
  | r => r
 | .loop c => match ih (.code hf n ar c e H) with
  | some (.st .normal e1 H1) => ih (.code hf n ar (.loop c) e1 H1)
  | r => r
 | .rangeFunc g ps assign body => match evo P none e g with
  | .fn (.func f) first captured => if aroundF ar H = true then
    match ih (.call f (first.map AV.borrow ++ [.yld H.length ⟨hf, ps, assign, body⟩] ++ captured.map AV.borrow) (H ++ [some (loopc 0 (frameVals n e))])) with
    | some (.val _ H2) => match loopOf H2 H.length with
     | some (st, _) => if st = 0 then some (.st .normal e (H2.set H.length none)) else if st = -2 then some (.st .ret e (H2.set H.length none)) else
       if 0 < st then some (.st (.exit (st - 1).toNat) e (H2.set H.length none)) else none
     | none => none
    | _ => none
   else none
  | _ => none
 | _ => none
def stepVal (T : EvT) (ih : Task -> Option ROut) (hf : FuncId) (o : Oper) (vals : List AV) (H : Heap) : Option (AV × Heap) :=
 match vals with
 | .fn (.func f) first captured :: args =>
  match o.dst.any (T.hs hf).pc.contains || o.dst.any (T.hs hf).mt.contains with
  | true => if pureL (first.map AV.borrow ++ args ++ captured.map AV.borrow) = true then match ih (.call f (first.map AV.borrow ++ args ++ captured.map AV.borrow) []) with
    | some (.val v _) => if v.pure = true then some (v, H) else none
    | _ => none
   else none
  | false => match ih (.call f (first.map AV.borrow ++ args ++ captured.map AV.borrow) H) with
   | some (.val v H') => some (v, H')
   | _ => none
 | .yld o' L :: args =>
  match o.dst.any (T.hs hf).pc.contains || o.dst.any (T.hs hf).mt.contains with
  | true => none
  | false => match ih (.yld o' L args H) with
   | some (.val v H') => some (v, H')
   | _ => none
 | _ => none
def isValue (o : Oper) : Bool :=
 match o.op with
 | .call c => match c.callee with
  | .value _ => true
  | _ => false
 | _ => false
def stepOps (P : Program) (T : EvT) (ih : Task -> Option ROut) (hf : FuncId) (n : Nat) (os : Array Oper) (l : List Oper) (e : Env) (H : Heap) : Option ROut :=
 match l with
 | [] => some (.st .normal e H)
 | o :: l => match agd os e o with
  | some true => if dstF n o.dst = true then
    match evs P (opTy o) (taking (T.hs hf) o) o.op.operands.toList e with
    | (vals, e1) => match (match isValue o with
      | true => stepVal T ih hf o vals H
      | false => aresF P T.wk (T.hs hf) o vals H) with
     | some (v, H') => ih (.ops hf n os l (put o.dst v e1) H')
     | none => none
   else none
  | some false => if dstF n o.dst = true then ih (.ops hf n os l (put o.dst (.tup []) e) H) else none
  | none => none
def stepT (P : Program) (T : EvT) (ih : Task -> Option ROut) : Task -> Option ROut
 | .call f vs H => stepCall P T ih f vs H
 | .yld o L ys H => stepYld T ih o L ys H
 | .code hf n ar c e H => stepCode P T ih hf n ar c e H
 | .ops hf n os l e H => stepOps P T ih hf n os l e H
noncomputable def runT (P : Program) (T : EvT) (k : Nat) : Task -> Option ROut := Nat.rec (fun _ => none) (fun _ ih t => stepT P T ih t) k
structure EvOk (P : Program) (T : EvT) : Prop where
 mixed : P.follows .mixedOrders = true
 wide : WideOk P T.wk
 fn : ∀ f fn, T.tb f = some fn -> P.funcs[f]? = some fn /\ callable P f = true /\ fn.body.any (drawsOk (T.hs f)) = true /\ (T.hs f).gc = []
 orc : ∀ f vs H v H', T.orc f vs H = some (v, H') -> ACall P f vs H fun v2 H2 => v2 = v /\ H2 = H'
def Good (P : Program) (T : EvT) : Task -> ROut -> Prop
 | .call f vs H, .val v H' => ACall P f vs H fun v2 H2 => v2 = v /\ H2 = H'
 | .yld o L ys H, .val v H' => YCall P o L ys H fun v2 H2 => v2 = v /\ H2 = H'
 | .code hf n ar c e H, .st ex e' H' => awp P n (T.hs hf) ar c (fun ex2 e2 H2 => ex2 = ex /\ e2 = e' /\ H2 = H') e H
 | .ops hf n os l e H, .st ex e' H' => ex = .normal /\ arun P n (T.hs hf) os l (fun e2 H2 => e2 = e' /\ H2 = H') e H
 | _, _ => False
section
variable {P : Program} {T : EvT}
theorem apartB_ok {h : Hint} {o o' : Oper} {e : Env} (hb : apartB P h o o' e = true) : apartAt P h o o' e := by
 unfold apartB at hb
 unfold apartAt
 generalize adrOf P h o = x at hb ⊢
 generalize adrOf P h o' = y at hb ⊢
 cases x with
 | none => cases hb
 | some x => cases y with
  | none => cases hb
  | some y =>
   obtain ⟨a, k, s⟩ := x
   obtain ⟨b, l, s'⟩ := y
   dsimp only at hb ⊢
   simp only [Bool.and_eq_true, Bool.or_eq_true] at hb
   obtain ⟨h1, h2⟩ := hb
   refine ⟨h1, ?_⟩
   generalize look e a = u at h2 ⊢
   generalize look e b = w at h2 ⊢
   cases u <;> first | (cases h2; done) | skip
   cases w <;> first | (cases h2; done) | skip
   simpa using h2
theorem dynB_ok {h : Hint} {ops : Array Oper} {e : Env} (hb : dynB P h ops e = true) : dynAll P h ops e := fun p hp => apartB_ok (List.all_eq_true.1 hb p hp)
theorem revF_ok {n : Nat} {K : List AV -> Heap -> Prop} : ∀ {rs : List ResultVar} {e : Env} {H : Heap} {vs : List AV} {H' : Heap}, revF P n rs e H = some (vs, H') -> K vs H' -> rev P n rs e H fun vs _ H => K vs H
 | [], e, H, vs, H', h, hk => by cases h; exact hk
 | .tmp t :: rs, e, H, vs, H', h, hk => by
  simp only [revF] at h
  obtain ⟨h1, h⟩ := oif h
  obtain ⟨r, h2, h3⟩ := mapS h
  cases h3
  exact ⟨h1, revF_ok (K := fun vs H => K ((ev1 P none true (.tmp t) e).1 :: vs) H) h2 hk⟩
 | .cell t ty :: rs, e, H, vs, H', h, hk => by
  simp only [revF] at h
  obtain ⟨h1, h⟩ := oif h
  split at h
  ·rename_i v H1 hv
   obtain ⟨r, h2, h3⟩ := mapS h
   cases h3
   rw [rev_cell]
   refine ⟨h1, ?_⟩
   rw [hv]
   exact revF_ok (K := fun vs H => K (v :: vs) H) h2 hk
  ·cases h
theorem retF_ok {K : AV -> Heap -> Prop} {vs : List AV} {v : AV} {H : Heap} (h : retF vs = some v) (hk : K v H) : retK K vs H := by
 unfold retF at h
 unfold retK
 split at h
 ·cases h; exact hk
 ·rename_i hne
  obtain ⟨h1, h2⟩ := oif h
  cases h2
  split
  ·exact absurd rfl (hne _)
  ·exact ⟨fun x hx => List.all_eq_true.1 h1 x hx, hk⟩
theorem aroundF_ok {ar : Option Nat} {H : Heap} (h : aroundF ar H = true) : around ar H := by
 unfold aroundF at h
 unfold around
 split at h
 ·trivial
 ·split at h
  ·rename_i cs hcs; exact ⟨cs, hcs⟩
  ·cases h
theorem dstF_ok {n : Nat} {d : Option Tmp} (h : dstF n d = true) : dstOk n d := by
 cases d with
 | none => trivial
 | some d => exact (of_decide_eq_true h : d < n)
theorem PCall.of_nil {f : FuncId} {vs : List AV} {v : AV} (hc : ACall P f vs [] fun v2 _ => v2 = v) (hp : pureL vs = true) (hv : v.pure = true) : PCall P f vs v := fun H =>
 ⟨hc.1, fun F G w us hcr => Calls.mono (hc.2 _ _ w us (hcr.hide (pureL_mem hp))) fun e w' he => by
  obtain ⟨u, rfl, v', H2, G', rfl, hcr', hext⟩ := he
  obtain ⟨h1, h2⟩ := hcr.unhide hv hcr' hext
  exact ⟨u, rfl, _, H, _, ⟨rfl, rfl⟩, h1, h2⟩⟩
theorem step_call (E : EvOk P T) {ih : Task -> Option ROut} (hih : ∀ t out, ih t = some out -> Good P T t out) {f : FuncId} {vs : List AV} {H : Heap} {out : ROut} (h : stepCall P T ih f vs H = some out) : Good P T (.call f vs H) out := by
 unfold stepCall at h
 split at h
 ·rename_i v H1 ho
  cases h
  exact E.orc f vs H v H1 ho
 ·split at h
  ·rename_i fn hfn
   obtain ⟨e1, e2, e3, e4⟩ := E.fn f fn hfn
   split at h
   ·rename_i c hb
    obtain ⟨hn, h⟩ := oif h
    have fin : ∀ (ex : Exit) (e : Env) (H' : Heap), (ex = .normal \/ ex = .ret) -> ih (.code f fn.ntmps none c (argsFrom 0 vs) H) = some (.st ex e H') ->
      ((revF P fn.ntmps fn.results.toList e H').bind fun r => (retF r.1).map fun v => ROut.val v r.2) = some out -> Good P T (.call f vs H) out := by
     intro ex e H' hex hi hr
     obtain ⟨r, h1, h2⟩ := Option.bind_eq_some_iff.1 hr
     obtain ⟨v, h3, h4⟩ := mapS h2
     subst h4
     refine ACall.of (T.hs f) e4 E.mixed e3 e1 hb e2 hn (awp_mono c _ _ _ _ (fun ex2 e2 H2 hq => ?_) (hih _ _ hi))
     obtain ⟨rfl, rfl, rfl⟩ := hq
     rcases hex with rfl | rfl
     ·exact revF_ok (K := fun vs H => retK _ vs H) h1 (retF_ok h3 ⟨rfl, rfl⟩)
     ·exact revF_ok (K := fun vs H => retK _ vs H) h1 (retF_ok h3 ⟨rfl, rfl⟩)
    split at h
    ·rename_i hi; exact fin _ _ _ (.inl rfl) hi h
    ·rename_i hi; exact fin _ _ _ (.inr rfl) hi h
    ·cases h
   ·cases h
  ·cases h
theorem step_yld (E : EvOk P T) {ih : Task -> Option ROut} (hih : ∀ t out, ih t = some out -> Good P T t out) {o : Nat} {L : LoopRec} {ys : List AV} {H : Heap} {out : ROut} (h : stepYld T ih o L ys H = some out) : Good P T (.yld o L ys H) out := by
 unfold stepYld at h
 split at h
 ·rename_i fn st av hfn hlo
  obtain ⟨e1, e2, e3, e4⟩ := E.fn _ fn hfn
  have h' := oif h
  clear h
  obtain ⟨⟨rfl, g2, g3, g4, g5, g6⟩, h⟩ := h'
  cases hi : ih (.code L.tag fn.ntmps (some o) L.assign (roundEnv av L.ps.toList ys (argsFrom 0 av)) H) with
  | none => rw [hi] at h; cases h
  | some q =>
   rw [hi] at h
   cases q with
   | val v H' => cases h
   | st ex0 e2 H2 =>
    cases ex0 with
    | normal =>
     dsimp only at h
     cases hlo2 : loopOf H2 o with
     | none => rw [hlo2] at h; cases h
     | some q2 =>
      obtain ⟨st2, av2⟩ := q2
      rw [hlo2] at h
      dsimp only at h
      have h' := oif h
      clear h
      obtain ⟨rfl, h⟩ := h'
      cases hi3 : ih (.code L.tag fn.ntmps (some o) L.body e2 (H2.set o (some (loopc (-1) av2)))) with
      | none => rw [hi3] at h; cases h
      | some q3 =>
       rw [hi3] at h
       cases q3 with
       | val v H' => cases h
       | st ex e3 H3 =>
        dsimp only at h
        cases hlo3 : loopOf H3 o with
        | none => rw [hlo3] at h; cases h
        | some q4 =>
         obtain ⟨st3, av3⟩ := q4
         rw [hlo3] at h
         dsimp only at h
         have h' := oif h
         clear h
         obtain ⟨rfl, h⟩ := h'
         obtain ⟨tag, ps, assign, body⟩ := L
         have main : ∀ (v : AV) (H' : Heap), out = .val v H' -> (∀ R : AV -> Heap -> Prop, R v H' -> match (generalizing := false) ex with
           | .normal => R (.bool true) (H3.set o (some (loopc 0 av3)))
           | .ret => R (.bool false) (H3.set o (some (loopc (-2) av3)))
           | .exit k => R (.bool false) (H3.set o (some (loopc ((k : Int) + 1) av3)))
           | _ => False) -> Good P T (.yld o ⟨tag, ps, assign, body⟩ ys H) out := by
          intro v H' he hR
          subst he
          refine ycall_of_awp E.mixed e4 ⟨g5, g6⟩ (fun p hp => of_decide_eq_true (List.all_eq_true.1 g4 p hp)) ys H _ av (loopOf_eq hlo) g2 g3 (awp_mono assign _ _ _ _ (fun ex2 e4 H4 hq => ?_) (hih _ _ hi))
          obtain ⟨rfl, rfl, rfl⟩ := hq
          refine ⟨rfl, av2, loopOf_eq hlo2, awp_mono body _ _ _ _ (fun ex5 e5 H5 hq => ?_) (hih _ _ hi3)⟩
          obtain ⟨rfl, rfl, rfl⟩ := hq
          exact ⟨av3, loopOf_eq hlo3, hR (fun v2 H2 => v2 = v /\ H2 = H') ⟨rfl, rfl⟩⟩
         cases ex with
         | normal => cases h; exact main _ _ rfl fun R hr => hr
         | ret => cases h; exact main _ _ rfl fun R hr => hr
         | exit k => cases h; exact main _ _ rfl fun R hr => hr
         | _ => cases h
    | _ => cases h
 ·cases h
theorem step_val (E : EvOk P T) {ih : Task -> Option ROut} (hih : ∀ t out, ih t = some out -> Good P T t out) {hf : FuncId} {o : Oper} (ho : isValue o = true) {vals : List AV} {H : Heap} {v : AV} {H' : Heap} (h : stepVal T ih hf o vals H = some (v, H'))
  {R : AV -> Heap -> Prop} (hr : R v H') : ares P (T.hs hf) o vals H R := by
 obtain ⟨dst, op, ty, pos, after, guard⟩ := o
 cases op <;> first | cases ho | skip
 rename_i c
 obtain ⟨callee, args0, ts⟩ := c
 cases callee <;> first | cases ho | skip
 rename_i fo
 unfold stepVal at h
 cases vals with
 | nil => cases h
 | cons a args =>
  cases a <;> first | cases h | skip
  case fn f first captured =>
   cases f <;> first | cases h | skip
   rename_i f
   dsimp only at h
   cases hb : (Option.any (T.hs hf).pc.contains dst || Option.any (T.hs hf).mt.contains dst) with
   | true =>
    rw [hb] at h
    dsimp only at h
    have h' := oif h
    clear h
    obtain ⟨hp, h⟩ := h'
    cases hi : ih (.call f (first.map AV.borrow ++ args ++ captured.map AV.borrow) []) with
    | none => rw [hi] at h; cases h
    | some q =>
     rw [hi] at h
     cases q with
     | st _ _ _ => cases h
     | val v1 H1 =>
      dsimp only at h
      have h' := oif h
      clear h
      obtain ⟨hpv, h⟩ := h'
      cases h
      have hpc : PCall P f (first.map AV.borrow ++ args ++ captured.map AV.borrow) v := PCall.of_nil (ACall.mono (show ACall P f _ [] (fun v2 H2 => v2 = v /\ H2 = H1) from hih _ _ hi) fun _ _ hq => hq.1) hp hpv
      simp only [ares]
      cases hpcb : Option.any (T.hs hf).pc.contains dst with
      | true =>
       cases hmt : Option.any (T.hs hf).mt.contains dst with
       | true => exact ⟨v, fun H2 _ => hpc H2, hr⟩
       | false => exact ⟨v, hpc, hr⟩
      | false =>
       rw [hpcb, Bool.false_or] at hb
       rw [hb]
       exact ⟨v, [], (hpc H).mono fun v2 H2 hq => ⟨hq.1, by rw [List.append_nil]; exact hq.2⟩, by rw [List.append_nil]; exact hr⟩
   | false =>
    rw [hb] at h
    rw [Bool.or_eq_false_iff] at hb
    dsimp only at h
    cases hi : ih (.call f (first.map AV.borrow ++ args ++ captured.map AV.borrow) H) with
    | none => rw [hi] at h; cases h
    | some q =>
     rw [hi] at h
     cases q with
     | st _ _ _ => cases h
     | val v1 H1 =>
      cases h
      simp only [ares, hb.1, hb.2]
      exact ACall.mono (show ACall P f _ H (fun v2 H2 => v2 = v /\ H2 = H') from hih _ _ hi) fun v2 H2 hq => by obtain ⟨rfl, rfl⟩ := hq; exact hr
  case yld o' L =>
   dsimp only at h
   cases hb : (Option.any (T.hs hf).pc.contains dst || Option.any (T.hs hf).mt.contains dst) with
   | true => rw [hb] at h; cases h
   | false =>
    rw [hb] at h
    rw [Bool.or_eq_false_iff] at hb
    dsimp only at h
    cases hi : ih (.yld o' L args H) with
    | none => rw [hi] at h; cases h
    | some q =>
     rw [hi] at h
     cases q with
     | st _ _ _ => cases h
     | val v1 H1 =>
      cases h
      simp only [ares]
      exact ⟨⟨hb.1, hb.2⟩, YCall.mono (show YCall P o' L args H (fun v2 H2 => v2 = v /\ H2 = H') from hih _ _ hi) fun v2 H2 hq => by obtain ⟨rfl, rfl⟩ := hq; exact hr⟩
theorem step_ops (E : EvOk P T) {ih : Task -> Option ROut} (hih : ∀ t out, ih t = some out -> Good P T t out) {hf : FuncId} {n : Nat} {os : Array Oper} {l : List Oper} {e : Env} {H : Heap} {out : ROut} (h : stepOps P T ih hf n os l e H = some out) : Good P T (.ops hf n os l e H) out := by
 unfold stepOps at h
 cases l with
 | nil => cases h; exact ⟨rfl, rfl, rfl⟩
 | cons o l =>
  have next : ∀ {e1 : Env} {H1 : Heap}, ih (.ops hf n os l e1 H1) = some out -> ∃ e' H', out = .st .normal e' H' /\ arun P n (T.hs hf) os l (fun e2 H2 => e2 = e' /\ H2 = H') e1 H1 := fun hi => by
   have hg := hih _ _ hi
   cases out with
   | val v H' => exact hg.elim
   | st ex e' H' => obtain ⟨rfl, hg⟩ := hg; exact ⟨e', H', rfl, hg⟩
  dsimp only at h
  cases hag : agd os e o with
  | none => rw [hag] at h; cases h
  | some b =>
   rw [hag] at h
   cases b with
   | false =>
    dsimp only at h
    obtain ⟨hd, h⟩ := oif h
    obtain ⟨e', H', rfl, hg⟩ := next h
    refine ⟨rfl, ?_⟩
    show aop P n (T.hs hf) os o _ e H
    unfold aop
    rw [hag]
    exact ⟨dstF_ok hd, hg⟩
   | true =>
    dsimp only at h
    have h' := oif h
    clear h
    obtain ⟨hd, h⟩ := h'
    cases hv : (match isValue o with
      | true => stepVal T ih hf o (evs P (opTy o) (taking (T.hs hf) o) o.op.operands.toList e).1 H
      | false => aresF P T.wk (T.hs hf) o (evs P (opTy o) (taking (T.hs hf) o) o.op.operands.toList e).1 H) with
    | none => rw [hv] at h; cases h
    | some q =>
     obtain ⟨v, H1⟩ := q
     rw [hv] at h
     obtain ⟨e', H', rfl, hg⟩ := next h
     refine ⟨rfl, ?_⟩
     show aop P n (T.hs hf) os o _ e H
     unfold aop
     rw [hag]
     refine ⟨dstF_ok hd, ?_⟩
     cases hval : isValue o with
     | true => rw [hval] at hv; exact step_val E hih hval hv hg
     | false => rw [hval] at hv; exact aresF_ok E.wide hv hg
theorem step_code (E : EvOk P T) {ih : Task -> Option ROut} (hih : ∀ t out, ih t = some out -> Good P T t out) {hf : FuncId} {n : Nat} {ar : Option Nat} {c : Code} {e : Env} {H : Heap} {out : ROut} (h : stepCode P T ih hf n ar c e H = some out) : Good P T (.code hf n ar c e H) out := by
 have part : ∀ {c : Code} {e : Env} {H : Heap} {out : ROut}, ih (.code hf n ar c e H) = some out -> ∃ ex e' H', out = .st ex e' H' /\ awp P n (T.hs hf) ar c (fun ex2 e2 H2 => ex2 = ex /\ e2 = e' /\ H2 = H') e H := fun {c e H out} hi => by
  have hg := hih _ _ hi
  cases out with
  | val v H' => exact hg.elim
  | st ex e' H' => exact ⟨ex, e', H', rfl, hg⟩
 cases c with
 | skip => cases h; exact ⟨rfl, rfl, rfl⟩
 | ret => cases h; exact ⟨rfl, rfl, rfl⟩
 | exit id => cases h; exact ⟨rfl, rfl, rfl⟩
 | region id ops draw =>
  simp only [stepCode] at h
  cases hi : ih (.ops hf n ops ops.toList e H) with
  | none => rw [hi] at h; cases h
  | some q =>
   rw [hi] at h
   have hg := hih _ _ hi
   cases q with
   | val v H' => cases h
   | st ex e1 H1 =>
    obtain ⟨rfl, hg⟩ := hg
    dsimp only at h
    obtain ⟨hdy, h⟩ := oif h
    cases h
    refine arun_mono' _ _ _ _ _ (fun e2 H2 hq => ?_) hg
    obtain ⟨rfl, rfl⟩ := hq
    refine ⟨fun hd => ?_, rfl, rfl, rfl⟩
    rw [hd] at hdy
    exact dynB_ok (by simpa using hdy)
 | seq a b =>
  simp only [stepCode] at h
  cases hi : ih (.code hf n ar a e H) with
  | none => rw [hi] at h; cases h
  | some q =>
   rw [hi] at h
   obtain ⟨ex, e1, H1, rfl, hg⟩ := part hi
   have other : ex ≠ .normal -> out = .st ex e1 H1 -> Good P T (.code hf n ar (.seq a b) e H) out := fun hne he => by
    subst he
    refine awp_mono a _ _ _ _ (fun ex2 e2 H2 hq => ?_) hg
    obtain ⟨rfl, rfl, rfl⟩ := hq
    cases ex2 <;> first | exact absurd rfl hne | exact ⟨rfl, rfl, rfl⟩
   cases ex with
   | normal =>
    dsimp only at h
    obtain ⟨ex', e', H', rfl, hg2⟩ := part h
    refine awp_mono a _ _ _ _ (fun ex2 e2 H2 hq => ?_) hg
    obtain ⟨rfl, rfl, rfl⟩ := hq
    exact hg2
   | _ => cases h; exact other (by simp) rfl
 | cond c a b =>
  simp only [stepCode] at h
  cases hc : evo P none e c with
  | bool t =>
   rw [hc] at h
   dsimp only at h
   have hg : ∃ ex e' H', out = .st ex e' H' /\ awp P n (T.hs hf) ar (if t = true then a else b) (fun ex2 e2 H2 => ex2 = ex /\ e2 = e' /\ H2 = H') e H := by
    cases t with
    | true => exact part h
    | false => exact part h
   obtain ⟨ex, e', H', rfl, hg⟩ := hg
   show awp P n (T.hs hf) ar (.cond c a b) _ e H
   simp only [awp, hc]
   cases t with
   | true => exact hg
   | false => exact hg
  | _ => rw [hc] at h; cases h
 | block id c =>
  simp only [stepCode] at h
  cases hi : ih (.code hf n ar c e H) with
  | none => rw [hi] at h; cases h
  | some q =>
   rw [hi] at h
   obtain ⟨ex, e1, H1, rfl, hg⟩ := part hi
   cases ex with
   | exit j =>
    dsimp only at h
    by_cases hj : j = id
    ·rw [if_pos hj] at h
     cases h
     refine awp_mono c _ _ _ _ (fun ex2 e2 H2 hq => ?_) hg
     obtain ⟨rfl, rfl, rfl⟩ := hq
     dsimp only
     rw [if_pos hj]
     exact ⟨rfl, rfl, rfl⟩
    ·rw [if_neg hj] at h
     cases h
     refine awp_mono c _ _ _ _ (fun ex2 e2 H2 hq => ?_) hg
     obtain ⟨rfl, rfl, rfl⟩ := hq
     dsimp only
     rw [if_neg hj]
     exact ⟨rfl, rfl, rfl⟩
   | _ =>
    cases h
    refine awp_mono c _ _ _ _ (fun ex2 e2 H2 hq => ?_) hg
    obtain ⟨rfl, rfl, rfl⟩ := hq
    exact ⟨rfl, rfl, rfl⟩
 | loop c =>
  simp only [stepCode] at h
  cases hi : ih (.code hf n ar c e H) with
  | none => rw [hi] at h; cases h
  | some q =>
   rw [hi] at h
   obtain ⟨ex, e1, H1, rfl, hg⟩ := part hi
   have other : ex ≠ .normal -> out = .st ex e1 H1 -> Good P T (.code hf n ar (.loop c) e H) out := fun hne he => by
    subst he
    refine ⟨fun e' H' => e' = e /\ H' = H, fun _ _ => 0, ⟨rfl, rfl⟩, fun e' H' hI => ?_⟩
    obtain ⟨rfl, rfl⟩ := hI
    refine awp_mono c _ _ _ _ (fun ex2 e2 H2 hq => ?_) hg
    obtain ⟨rfl, rfl, rfl⟩ := hq
    cases ex2 <;> first | exact absurd rfl hne | exact ⟨rfl, rfl, rfl⟩
   cases ex with
   | normal =>
    dsimp only at h
    obtain ⟨ex', e', H', rfl, I, μ, hI, hr⟩ := part h
    classical
    by_cases hold : I e H
    ·exact ⟨I, μ, hold, hr⟩
    ·refine ⟨fun e2 H2 => (e2 = e /\ H2 = H) \/ I e2 H2, fun e2 H2 => if e2 = e /\ H2 = H then μ e1 H1 + 1 else μ e2 H2, .inl ⟨rfl, rfl⟩, fun e2 H2 hI2 => ?_⟩
     have hne : ∀ {e3 : Env} {H3 : Heap}, I e3 H3 -> ¬ (e3 = e /\ H3 = H) := fun h3 hh => hold (by rw [<- hh.1, <- hh.2]; exact h3)
     by_cases hat : e2 = e /\ H2 = H
     ·obtain ⟨rfl, rfl⟩ := hat
      refine awp_mono c _ _ _ _ (fun ex2 e3 H3 hq => ?_) hg
      obtain ⟨rfl, rfl, rfl⟩ := hq
      dsimp only
      refine ⟨.inr hI, ?_⟩
      rw [if_neg (hne hI), if_pos ⟨rfl, rfl⟩]
      omega
     ·have hI3 : I e2 H2 := hI2.resolve_left hat
      refine awp_mono c _ _ _ _ (fun ex2 e3 H3 hq => ?_) (hr e2 H2 hI3)
      cases ex2 with
      | normal =>
       refine ⟨.inr hq.1, ?_⟩
       dsimp only
       rw [if_neg hat, if_neg (hne hq.1)]
       exact hq.2
      | _ => exact hq
   | _ => cases h; exact other (by simp) rfl
 | rangeFunc g ps assign body =>
  simp only [stepCode] at h
  cases hg : evo P none e g with
  | fn f first captured =>
   rw [hg] at h
   cases f with
   | func f =>
    dsimp only at h
    have h' := oif h
    clear h
    obtain ⟨har, h⟩ := h'
    cases hi : ih (.call f (first.map AV.borrow ++ [.yld H.length ⟨hf, ps, assign, body⟩] ++ captured.map AV.borrow) (H ++ [some (loopc 0 (frameVals n e))])) with
    | none => rw [hi] at h; cases h
    | some q =>
     rw [hi] at h
     have hc := hih _ _ hi
     cases q with
     | st _ _ _ => cases h
     | val v H2 =>
      dsimp only at h
      cases hlo : loopOf H2 H.length with
      | none => rw [hlo] at h; cases h
      | some q2 =>
       obtain ⟨st, av⟩ := q2
       rw [hlo] at h
       dsimp only at h
       have fin : ∀ ex : Exit, out = .st ex e (H2.set H.length none) -> (∀ Q : Exit -> Kt, Q ex e (H2.set H.length none) -> (st = 0 /\ Q .normal e (H2.set H.length none)) \/ (st = -2 /\ Q .ret e (H2.set H.length none)) \/ ∃ k : Nat, st = (k : Int) + 1 /\ Q (.exit k) e (H2.set H.length none)) ->
         Good P T (.code hf n ar (.rangeFunc g ps assign body) e H) out := by
        intro ex he hQ
        subst he
        refine ⟨aroundF_ok har, hf, f, first, captured, hg, ACall.mono (show ACall P f _ _ (fun v2 H3 => v2 = v /\ H3 = H2) from hc) fun v2 H3 hq => ?_⟩
        obtain ⟨rfl, rfl⟩ := hq
        exact ⟨st, av, loopOf_eq hlo, hQ (fun ex2 e2 H2' => ex2 = ex /\ e2 = e /\ H2' = _) ⟨rfl, rfl, rfl⟩⟩
       by_cases h0 : st = 0
       ·rw [if_pos h0] at h
        cases h; exact fin _ rfl fun Q hq => .inl ⟨h0, hq⟩
       ·rw [if_neg h0] at h
        by_cases h2 : st = -2
        ·rw [if_pos h2] at h
         cases h; exact fin _ rfl fun Q hq => .inr (.inl ⟨h2, hq⟩)
        ·rw [if_neg h2] at h
         have h' := oif h
         clear h
         obtain ⟨hp, h⟩ := h'
         cases h
         exact fin _ rfl fun Q hq => .inr (.inr ⟨(st - 1).toNat, by omega, hq⟩)
   | _ => cases h
  | _ => rw [hg] at h; cases h
 | _ => cases h
theorem run_ok (E : EvOk P T) : ∀ (k : Nat) (t : Task) (out : ROut), runT P T k t = some out -> Good P T t out
 | 0, t, out, h => by cases h
 | k + 1, t, out, h => by
  have hih := run_ok E k
  have h : stepT P T (runT P T k) t = some out := h
  cases t with
  | call f vs H => exact step_call E hih h
  | yld o L ys H => exact step_yld E hih h
  | code hf n ar c e H => exact step_code E hih h
  | ops hf n os l e H => exact step_ops E hih h
theorem ACall.run (E : EvOk P T) (k : Nat) {f : FuncId} {vs : List AV} {H : Heap} {v : AV} {H' : Heap} (h : runT P T k (.call f vs H) = some (.val v H')) : ACall P f vs H fun v2 H2 => v2 = v /\ H2 = H' := run_ok E k _ _ h
theorem PCall.run (E : EvOk P T) (k : Nat) {f : FuncId} {vs : List AV} {v : AV} (hp : pureL vs = true) (hv : v.pure = true) (h : (match runT P T k (.call f vs []) with | some (.val v2 _) => some v2 | _ => none) = some v) : PCall P f vs v := by
 cases hr : runT P T k (.call f vs []) with
 | none => rw [hr] at h; cases h
 | some q =>
  rw [hr] at h
  cases q with
  | st _ _ _ => cases h
  | val v2 H2 =>
   cases h
   exact PCall.of_nil ((ACall.run E k hr).mono fun _ _ hq => hq.1) hp hv
end
end Go.AI
namespace Go.AI
inductive ETree where
 | nil
 | node (l : ETree) (k : Nat) (fn : Func) (h : Hint) (r : ETree)
def ETree.find : ETree -> Nat -> Option (Func × Hint)
 | .nil, _ => none
 | .node l k fn h r, f => bif Nat.beq f k then some (fn, h) else bif Nat.blt f k then l.find f else r.find f
def FnOk (P : Program) (f : Nat) (fn : Func) (h : Hint) : Prop := P.funcs[f]? = some fn /\ callable P f = true /\ fn.body.any (drawsOk h) = true /\ h.gc = []
def ETree.All (P : Program) : ETree -> Prop
 | .nil => True
 | .node l k fn h r => l.All P /\ FnOk P k fn h /\ r.All P
theorem ETree.find_ok {P : Program} : ∀ {t : ETree} {f : Nat} {fn : Func} {h : Hint}, t.All P -> t.find f = some (fn, h) -> FnOk P f fn h
 | .nil, f, fn, h, _, hf => by cases hf
 | .node l k fn' h' r, f, fn, h, ha, hf => by
  simp only [ETree.find] at hf
  cases hb : Nat.beq f k with
  | true =>
   rw [hb] at hf
   cases hf
   have := Nat.eq_of_beq_eq_true hb
   subst this
   exact ha.2.1
  | false =>
   rw [hb] at hf
   cases hl : Nat.blt f k with
   | true => rw [hl] at hf; exact ETree.find_ok ha.1 hf
   | false => rw [hl] at hf; exact ETree.find_ok ha.2.2 hf
def noHint : Hint := ⟨[], [], [], [], [], [], []⟩
abbrev Orc := FuncId -> List AV -> Heap -> Option (AV × Heap)
def noOrc : Orc := fun _ _ _ => none
def OrcOk (P : Program) (o : Orc) : Prop := ∀ f vs H v H', o f vs H = some (v, H') -> ACall P f vs H fun v2 H2 => v2 = v /\ H2 = H'
theorem noOrc_ok (P : Program) : OrcOk P noOrc := fun _ _ _ _ _ h => by cases h
def ETree.evt (t : ETree) (wk : List TypeId) (o : Orc) : EvT := ⟨fun f => (t.find f).map (·.1), fun f => ((t.find f).map (·.2)).getD noHint, wk, o⟩
theorem ETree.ok {P : Program} {t : ETree} {wk : List TypeId} {o : Orc} (hm : P.follows .mixedOrders = true) (hw : WideOk P wk) (ho : OrcOk P o) (ha : t.All P) : EvOk P (t.evt wk o) := by
 refine ⟨hm, hw, fun f fn hf => ?_, ho⟩
 obtain ⟨⟨fn', h⟩, h1, rfl⟩ := mapS hf
 have hh : (t.evt wk o).hs f = h := by simp only [ETree.evt, h1]; rfl
 rw [hh]
 exact ETree.find_ok ha h1
end Go.AI
namespace Go.AI
open Go.Proofs
noncomputable def e9 : Hint := hm [1,6,14,14,30,30,38,102,486,2022,6118,30690,0x2000000000000000000037e2,1,104416,1] [97,134] [] [102]
theorem e9_k : FnOk Tryz.prog 9 Tryz.f9 e9 := ⟨Tryz.func9, by kernel_rfl, by kernel_rfl, rfl⟩
noncomputable def e12 : Hint := hm [12,17179869196,16,44,549755813932,16,76,35184372088908,16,0x700000000000c,0xf00000000000c,0x700000000010c,0x700000000030c,0x100700000000030c,16,0x700000000050c,0x4000700000000050c,16,0x200000700000000000c,16,0x700000000000c,0x70000000000000000008,0xf0000000000000000008,0x70000000000000001008,0x20000000070000000000000000008,16,0x70000000000000000008,0x200000000000000000000000000000,16,16] [] [] []
theorem e12_k : FnOk Tryz.prog 12 Tryz.f12 e12 := ⟨Tryz.func12, by kernel_rfl, by kernel_rfl, rfl⟩
noncomputable def e16 : Hint := hm [28,88,8280,48,24,48] [] [] []
theorem e16_k : FnOk Tryz.prog 16 Tryz.f16 e16 := ⟨Tryz.func16, by kernel_rfl, by kernel_rfl, rfl⟩
noncomputable def e18 : Hint := hm [28,88,4184,48,24,48] [] [] []
theorem e18_k : FnOk Tryz.prog 18 Tryz.f18 e18 := ⟨Tryz.func18, by kernel_rfl, by kernel_rfl, rfl⟩
noncomputable def e20 : Hint := hm [6,2054,16,16] [] [] []
theorem e20_k : FnOk Tryz.prog 20 Tryz.f20 e20 := ⟨Tryz.func20, by kernel_rfl, by kernel_rfl, rfl⟩
noncomputable def e22 : Hint := hm [28,280,1080,120,8240,1,16] [] [] []
theorem e22_k : FnOk Tryz.prog 22 Tryz.f22 e22 := ⟨Tryz.func22, by kernel_rfl, by kernel_rfl, rfl⟩
noncomputable def e25 : Hint := hm [28,540,16,60,16] [] [] [12,14,19,21,24,25]
theorem e25_k : FnOk Tryz.prog 25 Tryz.f25 e25 := ⟨Tryz.func25, by kernel_rfl, by kernel_rfl, rfl⟩
noncomputable def e27 : Hint := hm [2,18,1810,3858,1874,1874,4196178,12,1810,1810,12] [23,28] [] []
theorem e27_k : FnOk Tryz.prog 27 Tryz.f27 e27 := ⟨Tryz.func27, by kernel_rfl, by kernel_rfl, rfl⟩
noncomputable def e30 : Hint := hm [6,14,908,1932,940,908,908,4] [13,19] [] []
theorem e30_k : FnOk Tryz.prog 30 Tryz.f30 e30 := ⟨Tryz.func30, by kernel_rfl, by kernel_rfl, rfl⟩
noncomputable def e34 : Hint := hm [6,14,908,1932,940,908,908,4] [13,25] [] [16,17,21]
theorem e34_k : FnOk Tryz.prog 34 Tryz.f34 e34 := ⟨Tryz.func34, by kernel_rfl, by kernel_rfl, rfl⟩
noncomputable def e37 : Hint := hm [3,35,32803,16,917507,1966083,917635,917891,269353347,16,918019,34360656387,16,917507,2048,35184372088832,16,16] [39,40] [] []
theorem e37_k : FnOk Tryz.prog 37 Tryz.f37 e37 := ⟨Tryz.func37, by kernel_rfl, by kernel_rfl, rfl⟩
noncomputable def e42 : Hint := hm [105,8388713,25165929,1088,4294967360,768,768,34368127081,2144,768,0x4000000800069,24681,122880,0x8000000000000000a000,768,768,0x4000000000000000000069,393257,0x10000000000000000000060029,768,768,2621440,768] [26,38,64,80,81,102,107,113,124] [] [60,71,96,120]
theorem e42_k : FnOk Tryz.prog 42 Tryz.f42 e42 := ⟨Tryz.func42, by kernel_rfl, by kernel_rfl, rfl⟩
noncomputable def e45 : Hint := hm [3,1027,16,35,16419,35,33554467,16,16] [] [] []
theorem e45_k : FnOk Tryz.prog 45 Tryz.f45 e45 := ⟨Tryz.func45, by kernel_rfl, by kernel_rfl, rfl⟩
noncomputable def e46 : Hint := hx [3,7,15,23,39,3] [] [] [] [] [] [5]
theorem e46_k : FnOk Tryz.prog 46 Tryz.f46 e46 := ⟨Tryz.func46, by kernel_rfl, by kernel_rfl, rfl⟩
noncomputable def e47 : Hint := hm [19,16] [] [] []
theorem e47_k : FnOk Tryz.prog 47 Tryz.f47 e47 := ⟨Tryz.func47, by kernel_rfl, by kernel_rfl, rfl⟩
noncomputable def e56 : Hint := hm [28,60,8388636,16,92,67108956,340,2199023255888,1,1,4503599627370512,16,16] [] [] []
theorem e56_k : FnOk Tryz.prog 56 Tryz.f56 e56 := ⟨Tryz.func56, by kernel_rfl, by kernel_rfl, rfl⟩
noncomputable def e57 : Hint := hm [12,40,16424,16,917512,1966088,917640,135135368,16,8796093939720,16,917512,16] [] [] []
theorem e57_k : FnOk Tryz.prog 57 Tryz.f57 e57 := ⟨Tryz.func57, by kernel_rfl, by kernel_rfl, rfl⟩
noncomputable def e58 : Hint := hm [9,41,553,16,16] [11] [] []
theorem e58_k : FnOk Tryz.prog 58 Tryz.f58 e58 := ⟨Tryz.func58, by kernel_rfl, by kernel_rfl, rfl⟩
noncomputable def e59 : Hint := hm [2,4] [] [] []
theorem e59_k : FnOk Tryz.prog 59 Tryz.f59 e59 := ⟨Tryz.func59, by kernel_rfl, by kernel_rfl, rfl⟩
noncomputable def e60 : Hint := hm [12,16396,16,16] [] [] []
theorem e60_k : FnOk Tryz.prog 60 Tryz.f60 e60 := ⟨Tryz.func60, by kernel_rfl, by kernel_rfl, rfl⟩
noncomputable def e61 : Hint := hm [6,16] [] [] []
theorem e61_k : FnOk Tryz.prog 61 Tryz.f61 e61 := ⟨Tryz.func61, by kernel_rfl, by kernel_rfl, rfl⟩
noncomputable def e62 : Hint := hm [7,64] [] [] []
theorem e62_k : FnOk Tryz.prog 62 Tryz.f62 e62 := ⟨Tryz.func62, by kernel_rfl, by kernel_rfl, rfl⟩
noncomputable def e63 : Hint := hm [3,35,3618,7714,3746,528034,16,3618,3618,16] [9] [] []
theorem e63_k : FnOk Tryz.prog 63 Tryz.f63 e63 := ⟨Tryz.func63, by kernel_rfl, by kernel_rfl, rfl⟩
noncomputable def e64 : Hint := hm [6,4] [] [] []
theorem e64_k : FnOk Tryz.prog 64 Tryz.f64 e64 := ⟨Tryz.func64, by kernel_rfl, by kernel_rfl, rfl⟩
noncomputable def e73 : Hint := hm [2,4] [] [] []
theorem e73_k : FnOk Tryz.prog 73 Tryz.f73 e73 := ⟨Tryz.func73, by kernel_rfl, by kernel_rfl, rfl⟩
noncomputable def e74 : Hint := hm [28,16] [] [] []
theorem e74_k : FnOk Tryz.prog 74 Tryz.f74 e74 := ⟨Tryz.func74, by kernel_rfl, by kernel_rfl, rfl⟩
noncomputable def e75 : Hint := hm [6,4] [] [] []
theorem e75_k : FnOk Tryz.prog 75 Tryz.f75 e75 := ⟨Tryz.func75, by kernel_rfl, by kernel_rfl, rfl⟩
noncomputable def e77 : Hint := hm [28,16] [] [] []
theorem e77_k : FnOk Tryz.prog 77 Tryz.f77 e77 := ⟨Tryz.func77, by kernel_rfl, by kernel_rfl, rfl⟩
noncomputable def e78 : Hint := hm [6,4] [] [] []
theorem e78_k : FnOk Tryz.prog 78 Tryz.f78 e78 := ⟨Tryz.func78, by kernel_rfl, by kernel_rfl, rfl⟩
noncomputable def e79 : Hint := hm [2,4] [] [] []
theorem e79_k : FnOk Tryz.prog 79 Tryz.f79 e79 := ⟨Tryz.func79, by kernel_rfl, by kernel_rfl, rfl⟩
noncomputable def e80 : Hint := hm [5,13,460,972,492,460,460,4] [6,12,18] [] []
theorem e80_k : FnOk Tryz.prog 80 Tryz.f80 e80 := ⟨Tryz.func80, by kernel_rfl, by kernel_rfl, rfl⟩
noncomputable def e83 : Hint := hm [5,4] [] [] []
theorem e83_k : FnOk Tryz.prog 83 Tryz.f83 e83 := ⟨Tryz.func83, by kernel_rfl, by kernel_rfl, rfl⟩
noncomputable def e84 : Hint := hm [85,4181,64,197,1835204,3932356,1835716,1835204,1835204,64] [17] [] []
theorem e84_k : FnOk Tryz.prog 84 Tryz.f84 e84 := ⟨Tryz.func84, by kernel_rfl, by kernel_rfl, rfl⟩
noncomputable def e85 : Hint := hm [28,16] [] [] []
theorem e85_k : FnOk Tryz.prog 85 Tryz.f85 e85 := ⟨Tryz.func85, by kernel_rfl, by kernel_rfl, rfl⟩
noncomputable def e86 : Hint := hm [28,16] [] [] []
theorem e86_k : FnOk Tryz.prog 86 Tryz.f86 e86 := ⟨Tryz.func86, by kernel_rfl, by kernel_rfl, rfl⟩
noncomputable def e87 : Hint := hm [1,513,4,7168,15360,7184,7216,1055792,4,7232,67116096,4,7168,4] [10] [] []
theorem e87_k : FnOk Tryz.prog 87 Tryz.f87 e87 := ⟨Tryz.func87, by kernel_rfl, by kernel_rfl, rfl⟩
noncomputable def e88 : Hint := hm [28,60,8252,16,65556,84,524372,1572948,144,134217872,1,536870996,848,274877907280,1,2199023255568,1,16] [] [] [45]
theorem e88_k : FnOk Tryz.prog 88 Tryz.f88 e88 := ⟨Tryz.func88, by kernel_rfl, by kernel_rfl, rfl⟩
noncomputable def e89 : Hint := hm [12,44,524332,16,76,274877906956,16,7696581394444,0xf000000000c,7696581394828,4511296208764940,16,7696581394444,520,0x400000000000000000,16,16] [] [] [68]
theorem e89_k : FnOk Tryz.prog 89 Tryz.f89 e89 := ⟨Tryz.func89, by kernel_rfl, by kernel_rfl, rfl⟩
noncomputable def e90 : Hint := hx [3,67,195,14680257,31457473,14680769,14681281,2162164929,14683329,3848305380545,8246351891649,3848305388737,3848305396929,3848305380545,3848305380545,14748865,15142081,0x4000000000000e70cc1,15142081,0x800000000000000000000000e50cc1,48,0x10000000000000000000000000e10cc1,14746817,14680257,14680257,48] [21,52] [] [] [36] [] [18]
theorem e90_k : FnOk Tryz.prog 90 Tryz.f90 e90 := ⟨Tryz.func90, by kernel_rfl, by kernel_rfl, rfl⟩
noncomputable def e97 : Hint := hm [105,262249,786537,256,2359401,256,8650857,256,34360000617,256,70368744439913,617,1536,256,0x100000000000000069,2153,6144,256,8288,40992,0x2000000000000000000000a020,0x6000000000000000000000a020,256,0x100000000000000000000000a020,98336,256,256] [37,56,78,91] [] [44,55,63,77,85]
theorem e97_k : FnOk Tryz.prog 97 Tryz.f97 e97 := ⟨Tryz.func97, by kernel_rfl, by kernel_rfl, rfl⟩
noncomputable def e98 : Hint := hm [19,275,48,83,8275,83,4194387,48,48] [23] [] []
theorem e98_k : FnOk Tryz.prog 98 Tryz.f98 e98 := ⟨Tryz.func98, by kernel_rfl, by kernel_rfl, rfl⟩
noncomputable def e99 : Hint := hm [92,220,80,64] [] [] [23]
theorem e99_k : FnOk Tryz.prog 99 Tryz.f99 e99 := ⟨Tryz.func99, by kernel_rfl, by kernel_rfl, rfl⟩
noncomputable def e100 : Hint := hm [1,65,12,12] [7] [] []
theorem e100_k : FnOk Tryz.prog 100 Tryz.f100 e100 := ⟨Tryz.func100, by kernel_rfl, by kernel_rfl, rfl⟩
noncomputable def e101 : Hint := hm [3,34,98,8290,98,98,16] [8,16,22] [] []
theorem e101_k : FnOk Tryz.prog 101 Tryz.f101 e101 := ⟨Tryz.func101, by kernel_rfl, by kernel_rfl, rfl⟩
noncomputable def e102 : Hint := hm [45,1069,3117,134189,3117,15405,4294982701,768,3117,549755817005,768,768] [34,35,40] [] []
theorem e102_k : FnOk Tryz.prog 102 Tryz.f102 e102 := ⟨Tryz.func102, by kernel_rfl, by kernel_rfl, rfl⟩
noncomputable def e103 : Hint := hm [105,2153,6185,14377,16791593,59433,17179928617,1792,30761,96297,549755910185,96297,227369,562949953517609,96297,14377,0x4000000000003829,1792,0x20000000000003829,14377,1792] [28,50,57,68] [] []
theorem e103_k : FnOk Tryz.prog 103 Tryz.f103 e103 := ⟨Tryz.func103, by kernel_rfl, by kernel_rfl, rfl⟩
noncomputable def e104 : Hint := hm [9,41,553,41,131113,16,16] [] [] []
theorem e104_k : FnOk Tryz.prog 104 Tryz.f104 e104 := ⟨Tryz.func104, by kernel_rfl, by kernel_rfl, rfl⟩
noncomputable def e108 : Hint := hx [1,3,5,13,4109,13,13,5,5,1] [] [9] [(7, [(2, some 0, true)])] [] [] []
theorem e108_k : FnOk Tryz.prog 108 Tryz.f108 e108 := ⟨Tryz.func108, by kernel_rfl, by kernel_rfl, rfl⟩
noncomputable def e109 : Hint := hm [1,1] [] [] []
theorem e109_k : FnOk Tryz.prog 109 Tryz.f109 e109 := ⟨Tryz.func109, by kernel_rfl, by kernel_rfl, rfl⟩
noncomputable def e110 : Hint := hm [5,4] [] [] []
theorem e110_k : FnOk Tryz.prog 110 Tryz.f110 e110 := ⟨Tryz.func110, by kernel_rfl, by kernel_rfl, rfl⟩
noncomputable def e121 : Hint := hm [2,4] [] [] []
theorem e121_k : FnOk Tryz.prog 121 Tryz.f121 e121 := ⟨Tryz.func121, by kernel_rfl, by kernel_rfl, rfl⟩
noncomputable def e122 : Hint := hm [1,9,4] [] [] []
theorem e122_k : FnOk Tryz.prog 122 Tryz.f122 e122 := ⟨Tryz.func122, by kernel_rfl, by kernel_rfl, rfl⟩
noncomputable def e123 : Hint := hm [3,16] [5] [] []
theorem e123_k : FnOk Tryz.prog 123 Tryz.f123 e123 := ⟨Tryz.func123, by kernel_rfl, by kernel_rfl, rfl⟩
noncomputable def e124 : Hint := hm [2,4] [] [] []
theorem e124_k : FnOk Tryz.prog 124 Tryz.f124 e124 := ⟨Tryz.func124, by kernel_rfl, by kernel_rfl, rfl⟩
noncomputable def e125 : Hint := hm [3,35,3618,7714,3746,528034,16,3618,3618,16] [9] [] []
theorem e125_k : FnOk Tryz.prog 125 Tryz.f125 e125 := ⟨Tryz.func125, by kernel_rfl, by kernel_rfl, rfl⟩
noncomputable def e126 : Hint := hm [3,16] [5] [] []
theorem e126_k : FnOk Tryz.prog 126 Tryz.f126 e126 := ⟨Tryz.func126, by kernel_rfl, by kernel_rfl, rfl⟩
noncomputable def e127 : Hint := hm [6,8] [] [] []
theorem e127_k : FnOk Tryz.prog 127 Tryz.f127 e127 := ⟨Tryz.func127, by kernel_rfl, by kernel_rfl, rfl⟩
noncomputable def e128 : Hint := hm [6,16] [] [] []
theorem e128_k : FnOk Tryz.prog 128 Tryz.f128 e128 := ⟨Tryz.func128, by kernel_rfl, by kernel_rfl, rfl⟩
noncomputable def e129 : Hint := hm [3,35,3618,7714,3746,528034,16,3618,3618,16] [9] [] []
theorem e129_k : FnOk Tryz.prog 129 Tryz.f129 e129 := ⟨Tryz.func129, by kernel_rfl, by kernel_rfl, rfl⟩
noncomputable def e130 : Hint := hm [2,4] [] [] []
theorem e130_k : FnOk Tryz.prog 130 Tryz.f130 e130 := ⟨Tryz.func130, by kernel_rfl, by kernel_rfl, rfl⟩
noncomputable def e131 : Hint := hm [3,16] [5] [] []
theorem e131_k : FnOk Tryz.prog 131 Tryz.f131 e131 := ⟨Tryz.func131, by kernel_rfl, by kernel_rfl, rfl⟩
noncomputable def e132 : Hint := hm [2,10,136,24,65560,1,4] [] [] []
theorem e132_k : FnOk Tryz.prog 132 Tryz.f132 e132 := ⟨Tryz.func132, by kernel_rfl, by kernel_rfl, rfl⟩
noncomputable def e133 : Hint := hm [3,8] [] [] []
theorem e133_k : FnOk Tryz.prog 133 Tryz.f133 e133 := ⟨Tryz.func133, by kernel_rfl, by kernel_rfl, rfl⟩
noncomputable def e134 : Hint := hm [3,16] [5] [] []
theorem e134_k : FnOk Tryz.prog 134 Tryz.f134 e134 := ⟨Tryz.func134, by kernel_rfl, by kernel_rfl, rfl⟩
noncomputable def e135 : Hint := hm [2,4] [] [] []
theorem e135_k : FnOk Tryz.prog 135 Tryz.f135 e135 := ⟨Tryz.func135, by kernel_rfl, by kernel_rfl, rfl⟩
noncomputable def e136 : Hint := hm [28,1044,52,16436,240,496,67109360,496,536871280,1,4294967312,1,16] [] [] []
theorem e136_k : FnOk Tryz.prog 136 Tryz.f136 e136 := ⟨Tryz.func136, by kernel_rfl, by kernel_rfl, rfl⟩
noncomputable def e137 : Hint := hm [6,4] [] [] []
theorem e137_k : FnOk Tryz.prog 137 Tryz.f137 e137 := ⟨Tryz.func137, by kernel_rfl, by kernel_rfl, rfl⟩
noncomputable def e138 : Hint := hm [6,34,546,16,8192,16,16] [] [] []
theorem e138_k : FnOk Tryz.prog 138 Tryz.f138 e138 := ⟨Tryz.func138, by kernel_rfl, by kernel_rfl, rfl⟩
noncomputable def e139 : Hint := hm [1,2] [] [] []
theorem e139_k : FnOk Tryz.prog 139 Tryz.f139 e139 := ⟨Tryz.func139, by kernel_rfl, by kernel_rfl, rfl⟩
noncomputable def e140 : Hint := hm [2,18,50,4,65554,65554,4,268435474,4,274877906962,274877906946,4,4] [] [] []
theorem e140_k : FnOk Tryz.prog 140 Tryz.f140 e140 := ⟨Tryz.func140, by kernel_rfl, by kernel_rfl, rfl⟩
noncomputable def e141 : Hint := hm [3,16] [5] [] []
theorem e141_k : FnOk Tryz.prog 141 Tryz.f141 e141 := ⟨Tryz.func141, by kernel_rfl, by kernel_rfl, rfl⟩
noncomputable def e142 : Hint := hm [6,8] [] [] []
theorem e142_k : FnOk Tryz.prog 142 Tryz.f142 e142 := ⟨Tryz.func142, by kernel_rfl, by kernel_rfl, rfl⟩
noncomputable def e143 : Hint := hm [3,16] [5] [] []
theorem e143_k : FnOk Tryz.prog 143 Tryz.f143 e143 := ⟨Tryz.func143, by kernel_rfl, by kernel_rfl, rfl⟩
noncomputable def e144 : Hint := hm [6,8] [] [] []
theorem e144_k : FnOk Tryz.prog 144 Tryz.f144 e144 := ⟨Tryz.func144, by kernel_rfl, by kernel_rfl, rfl⟩
noncomputable def e152 : Hint := hm [449,961,473,8389057,449] [] [] []
theorem e152_k : FnOk Tryz.prog 152 Tryz.f152 e152 := ⟨Tryz.func152, by kernel_rfl, by kernel_rfl, rfl⟩
noncomputable def e153 : Hint := hm [6,14,526,12,4] [] [] [13,14]
theorem e153_k : FnOk Tryz.prog 153 Tryz.f153 e153 := ⟨Tryz.func153, by kernel_rfl, by kernel_rfl, rfl⟩
noncomputable def e154 : Hint := hm [1,2] [] [] []
theorem e154_k : FnOk Tryz.prog 154 Tryz.f154 e154 := ⟨Tryz.func154, by kernel_rfl, by kernel_rfl, rfl⟩
noncomputable def e155 : Hint := hm [2,26,262170,786458,4,8590196762,4,4503599627632666,4,0x800000000004001a,0x800000000000001a,4,4] [] [] [8]
theorem e155_k : FnOk Tryz.prog 155 Tryz.f155 e155 := ⟨Tryz.func155, by kernel_rfl, by kernel_rfl, rfl⟩
noncomputable def e156 : Hint := hm [85,4181,64,197,1835204,3932356,1835716,1835204,1835204,64] [17] [] []
theorem e156_k : FnOk Tryz.prog 156 Tryz.f156 e156 := ⟨Tryz.func156, by kernel_rfl, by kernel_rfl, rfl⟩
noncomputable def e157 : Hint := hm [28,16] [] [] []
theorem e157_k : FnOk Tryz.prog 157 Tryz.f157 e157 := ⟨Tryz.func157, by kernel_rfl, by kernel_rfl, rfl⟩
noncomputable def e158 : Hint := hm [2,32,4,4] [] [] []
theorem e158_k : FnOk Tryz.prog 158 Tryz.f158 e158 := ⟨Tryz.func158, by kernel_rfl, by kernel_rfl, rfl⟩
noncomputable def e159 : Hint := hm [2,4] [] [] []
theorem e159_k : FnOk Tryz.prog 159 Tryz.f159 e159 := ⟨Tryz.func159, by kernel_rfl, by kernel_rfl, rfl⟩
noncomputable def e160 : Hint := hm [25,1049,48,81,65617,48,48] [18] [] [8]
theorem e160_k : FnOk Tryz.prog 160 Tryz.f160 e160 := ⟨Tryz.func160, by kernel_rfl, by kernel_rfl, rfl⟩
noncomputable def e161 : Hint := hm [2,4] [] [] []
theorem e161_k : FnOk Tryz.prog 161 Tryz.f161 e161 := ⟨Tryz.func161, by kernel_rfl, by kernel_rfl, rfl⟩
noncomputable def e162 : Hint := hm [3,32,8] [] [] []
theorem e162_k : FnOk Tryz.prog 162 Tryz.f162 e162 := ⟨Tryz.func162, by kernel_rfl, by kernel_rfl, rfl⟩
noncomputable def e163 : Hint := hm [9,16] [5] [] []
theorem e163_k : FnOk Tryz.prog 163 Tryz.f163 e163 := ⟨Tryz.func163, by kernel_rfl, by kernel_rfl, rfl⟩
noncomputable def e164 : Hint := hm [1,4] [] [] []
theorem e164_k : FnOk Tryz.prog 164 Tryz.f164 e164 := ⟨Tryz.func164, by kernel_rfl, by kernel_rfl, rfl⟩
noncomputable def e165 : Hint := hm [3,1027,16,12291,28675,12323,16789507,16,12291,16] [] [] []
theorem e165_k : FnOk Tryz.prog 165 Tryz.f165 e165 := ⟨Tryz.func165, by kernel_rfl, by kernel_rfl, rfl⟩
noncomputable def e174 : Hint := hm [12,16] [] [] [11,15]
theorem e174_k : FnOk Tryz.prog 174 Tryz.f174 e174 := ⟨Tryz.func174, by kernel_rfl, by kernel_rfl, rfl⟩
noncomputable def e175 : Hint := hm [1,9,25,153,25,25,4] [] [] []
theorem e175_k : FnOk Tryz.prog 175 Tryz.f175 e175 := ⟨Tryz.func175, by kernel_rfl, by kernel_rfl, rfl⟩
noncomputable def e176 : Hint := hm [1,1] [] [] []
theorem e176_k : FnOk Tryz.prog 176 Tryz.f176 e176 := ⟨Tryz.func176, by kernel_rfl, by kernel_rfl, rfl⟩
noncomputable def e177 : Hint := hm [2,4] [] [] []
theorem e177_k : FnOk Tryz.prog 177 Tryz.f177 e177 := ⟨Tryz.func177, by kernel_rfl, by kernel_rfl, rfl⟩
noncomputable def e178 : Hint := hm [9,41,524329,41,8589934633,16,105,105,97,16] [34,35,40,44,45] [] [17]
theorem e178_k : FnOk Tryz.prog 178 Tryz.f178 e178 := ⟨Tryz.func178, by kernel_rfl, by kernel_rfl, rfl⟩
noncomputable def e191 : Hint := hm [1,4] [] [] []
theorem e191_k : FnOk Tryz.prog 191 Tryz.f191 e191 := ⟨Tryz.func191, by kernel_rfl, by kernel_rfl, rfl⟩
noncomputable def e192 : Hint := hm [3,16] [] [] []
theorem e192_k : FnOk Tryz.prog 192 Tryz.f192 e192 := ⟨Tryz.func192, by kernel_rfl, by kernel_rfl, rfl⟩
noncomputable def e193 : Hint := hm [3,387,899,419,65955,16,387,16] [] [] []
theorem e193_k : FnOk Tryz.prog 193 Tryz.f193 e193 := ⟨Tryz.func193, by kernel_rfl, by kernel_rfl, rfl⟩
noncomputable def e194 : Hint := hm [3,387,899,419,65955,16,387,16] [] [] []
theorem e194_k : FnOk Tryz.prog 194 Tryz.f194 e194 := ⟨Tryz.func194, by kernel_rfl, by kernel_rfl, rfl⟩
noncomputable def e195 : Hint := hm [3,387,899,419,65955,16,387,16] [] [] []
theorem e195_k : FnOk Tryz.prog 195 Tryz.f195 e195 := ⟨Tryz.func195, by kernel_rfl, by kernel_rfl, rfl⟩
noncomputable def e197 : Hint := hm [2,4] [] [] []
theorem e197_k : FnOk Tryz.prog 197 Tryz.f197 e197 := ⟨Tryz.func197, by kernel_rfl, by kernel_rfl, rfl⟩
noncomputable def e198 : Hint := hm [3,387,899,419,65955,16,387,16] [] [] []
theorem e198_k : FnOk Tryz.prog 198 Tryz.f198 e198 := ⟨Tryz.func198, by kernel_rfl, by kernel_rfl, rfl⟩
noncomputable def e199 : Hint := hm [6,4] [] [] []
theorem e199_k : FnOk Tryz.prog 199 Tryz.f199 e199 := ⟨Tryz.func199, by kernel_rfl, by kernel_rfl, rfl⟩
noncomputable def e200 : Hint := hm [1,2] [] [] []
theorem e200_k : FnOk Tryz.prog 200 Tryz.f200 e200 := ⟨Tryz.func200, by kernel_rfl, by kernel_rfl, rfl⟩
noncomputable def e201 : Hint := hm [2,10,262154,786442,786442,4,537133066,4,0x400000004000a,4,0x1000000000000004000a,4,0x10000000000000000000004000a,4,0x100000000000000000000000000004000a,4,0x10000000000000000000000000000004000a,0x10000000000000000000000000000000000a,4,4] [] [] []
theorem e201_k : FnOk Tryz.prog 201 Tryz.f201 e201 := ⟨Tryz.func201, by kernel_rfl, by kernel_rfl, rfl⟩
noncomputable def e202 : Hint := hm [2,4] [] [] []
theorem e202_k : FnOk Tryz.prog 202 Tryz.f202 e202 := ⟨Tryz.func202, by kernel_rfl, by kernel_rfl, rfl⟩
noncomputable def e203 : Hint := hm [19,51,3634,7730,3762,3634,3634,16] [9] [] [18,19]
theorem e203_k : FnOk Tryz.prog 203 Tryz.f203 e203 := ⟨Tryz.func203, by kernel_rfl, by kernel_rfl, rfl⟩
noncomputable def e204 : Hint := hm [2,1024,4,4] [] [] []
theorem e204_k : FnOk Tryz.prog 204 Tryz.f204 e204 := ⟨Tryz.func204, by kernel_rfl, by kernel_rfl, rfl⟩
noncomputable def e205 : Hint := hm [1,4] [] [] []
theorem e205_k : FnOk Tryz.prog 205 Tryz.f205 e205 := ⟨Tryz.func205, by kernel_rfl, by kernel_rfl, rfl⟩
noncomputable def e206 : Hint := hm [35,64] [12] [] []
theorem e206_k : FnOk Tryz.prog 206 Tryz.f206 e206 := ⟨Tryz.func206, by kernel_rfl, by kernel_rfl, rfl⟩
noncomputable def e207 : Hint := hm [3,387,899,419,65955,16,387,16] [] [] []
theorem e207_k : FnOk Tryz.prog 207 Tryz.f207 e207 := ⟨Tryz.func207, by kernel_rfl, by kernel_rfl, rfl⟩
noncomputable def e208 : Hint := hm [3,387,899,419,65955,16,387,16] [] [] []
theorem e208_k : FnOk Tryz.prog 208 Tryz.f208 e208 := ⟨Tryz.func208, by kernel_rfl, by kernel_rfl, rfl⟩
noncomputable def e218 : Hint := hm [19,51,3634,7730,3762,3634,3634,16] [9] [] [18,19]
theorem e218_k : FnOk Tryz.prog 218 Tryz.f218 e218 := ⟨Tryz.func218, by kernel_rfl, by kernel_rfl, rfl⟩
noncomputable def e219 : Hint := hm [28,16] [] [] []
theorem e219_k : FnOk Tryz.prog 219 Tryz.f219 e219 := ⟨Tryz.func219, by kernel_rfl, by kernel_rfl, rfl⟩
noncomputable def e220 : Hint := hm [12,16] [] [] []
theorem e220_k : FnOk Tryz.prog 220 Tryz.f220 e220 := ⟨Tryz.func220, by kernel_rfl, by kernel_rfl, rfl⟩
noncomputable def e221 : Hint := hm [1,4] [] [] []
theorem e221_k : FnOk Tryz.prog 221 Tryz.f221 e221 := ⟨Tryz.func221, by kernel_rfl, by kernel_rfl, rfl⟩
noncomputable def e222 : Hint := hm [1,4] [] [] []
theorem e222_k : FnOk Tryz.prog 222 Tryz.f222 e222 := ⟨Tryz.func222, by kernel_rfl, by kernel_rfl, rfl⟩
noncomputable def e223 : Hint := hm [35,64] [12] [] []
theorem e223_k : FnOk Tryz.prog 223 Tryz.f223 e223 := ⟨Tryz.func223, by kernel_rfl, by kernel_rfl, rfl⟩
noncomputable def e224 : Hint := hm [2,66,4,2147483650,4,10,2199023255562,6597069766666,4,0x8002000000000a,4,0x800002000000000a,4,0x4000000002000000000a,4,0x1000000000000002000000000a,4,0x1000000000000000000000000002,4,4] [] [] []
theorem e224_k : FnOk Tryz.prog 224 Tryz.f224 e224 := ⟨Tryz.func224, by kernel_rfl, by kernel_rfl, rfl⟩
noncomputable def e225 : Hint := hm [6,14,10,1] [] [] []
theorem e225_k : FnOk Tryz.prog 225 Tryz.f225 e225 := ⟨Tryz.func225, by kernel_rfl, by kernel_rfl, rfl⟩
noncomputable def e226 : Hint := hm [14,1036,16,28676,61444,28740,2125828,16,28676,16] [] [] []
theorem e226_k : FnOk Tryz.prog 226 Tryz.f226 e226 := ⟨Tryz.func226, by kernel_rfl, by kernel_rfl, rfl⟩
noncomputable def e227 : Hint := hm [1,1] [] [] []
theorem e227_k : FnOk Tryz.prog 227 Tryz.f227 e227 := ⟨Tryz.func227, by kernel_rfl, by kernel_rfl, rfl⟩
noncomputable def e228 : Hint := hm [3,387,899,419,65955,16,387,16] [] [] []
theorem e228_k : FnOk Tryz.prog 228 Tryz.f228 e228 := ⟨Tryz.func228, by kernel_rfl, by kernel_rfl, rfl⟩
noncomputable def e229 : Hint := hm [6,8] [] [] []
theorem e229_k : FnOk Tryz.prog 229 Tryz.f229 e229 := ⟨Tryz.func229, by kernel_rfl, by kernel_rfl, rfl⟩
noncomputable def e230 : Hint := hm [3,16] [5] [] []
theorem e230_k : FnOk Tryz.prog 230 Tryz.f230 e230 := ⟨Tryz.func230, by kernel_rfl, by kernel_rfl, rfl⟩
noncomputable def e231 : Hint := hm [3,8] [] [] []
theorem e231_k : FnOk Tryz.prog 231 Tryz.f231 e231 := ⟨Tryz.func231, by kernel_rfl, by kernel_rfl, rfl⟩
noncomputable def e235 : Hint := hm [1,9,25,153,25,25,4] [] [] []
theorem e235_k : FnOk Tryz.prog 235 Tryz.f235 e235 := ⟨Tryz.func235, by kernel_rfl, by kernel_rfl, rfl⟩
noncomputable def e236 : Hint := hm [12,44,172,44,65580,16,8388652,16,16] [] [] []
theorem e236_k : FnOk Tryz.prog 236 Tryz.f236 e236 := ⟨Tryz.func236, by kernel_rfl, by kernel_rfl, rfl⟩
noncomputable def e243 : Hint := hm [3,16] [] [] []
theorem e243_k : FnOk Tryz.prog 243 Tryz.f243 e243 := ⟨Tryz.func243, by kernel_rfl, by kernel_rfl, rfl⟩
noncomputable def e246 : Hint := hm [33,161,41,8225] [] [] []
theorem e246_k : FnOk Tryz.prog 246 Tryz.f246 e246 := ⟨Tryz.func246, by kernel_rfl, by kernel_rfl, rfl⟩
noncomputable def e247 : Hint := hm [19,51,3634,7730,3762,3634,3634,16] [9] [] [18,19]
theorem e247_k : FnOk Tryz.prog 247 Tryz.f247 e247 := ⟨Tryz.func247, by kernel_rfl, by kernel_rfl, rfl⟩
noncomputable def e248 : Hint := hm [1,4] [] [] []
theorem e248_k : FnOk Tryz.prog 248 Tryz.f248 e248 := ⟨Tryz.func248, by kernel_rfl, by kernel_rfl, rfl⟩
noncomputable def e249 : Hint := hm [35,64] [12] [] []
theorem e249_k : FnOk Tryz.prog 249 Tryz.f249 e249 := ⟨Tryz.func249, by kernel_rfl, by kernel_rfl, rfl⟩
noncomputable def e250 : Hint := hm [6,14,10,1] [] [] []
theorem e250_k : FnOk Tryz.prog 250 Tryz.f250 e250 := ⟨Tryz.func250, by kernel_rfl, by kernel_rfl, rfl⟩
noncomputable def e251 : Hint := hm [14,1036,16,28676,61444,28740,2125828,16,28676,16] [] [] []
theorem e251_k : FnOk Tryz.prog 251 Tryz.f251 e251 := ⟨Tryz.func251, by kernel_rfl, by kernel_rfl, rfl⟩
noncomputable def e252 : Hint := hm [1,131073,4,17,4] [] [] []
theorem e252_k : FnOk Tryz.prog 252 Tryz.f252 e252 := ⟨Tryz.func252, by kernel_rfl, by kernel_rfl, rfl⟩
noncomputable def e253 : Hint := hm [6,8] [] [] []
theorem e253_k : FnOk Tryz.prog 253 Tryz.f253 e253 := ⟨Tryz.func253, by kernel_rfl, by kernel_rfl, rfl⟩
noncomputable def e260 : Hint := hm [7,16391,64,229382,491526,229766,230150,1073971206,64,229382,64] [15] [] []
theorem e260_k : FnOk Tryz.prog 260 Tryz.f260 e260 := ⟨Tryz.func260, by kernel_rfl, by kernel_rfl, rfl⟩
noncomputable def e261 : Hint := hm [3,16] [5] [] []
theorem e261_k : FnOk Tryz.prog 261 Tryz.f261 e261 := ⟨Tryz.func261, by kernel_rfl, by kernel_rfl, rfl⟩
noncomputable def e262 : Hint := hm [6,8] [] [] []
theorem e262_k : FnOk Tryz.prog 262 Tryz.f262 e262 := ⟨Tryz.func262, by kernel_rfl, by kernel_rfl, rfl⟩
noncomputable def e263 : Hint := hm [12,16] [] [] []
theorem e263_k : FnOk Tryz.prog 263 Tryz.f263 e263 := ⟨Tryz.func263, by kernel_rfl, by kernel_rfl, rfl⟩
noncomputable def e264 : Hint := hm [35,64] [12] [] []
theorem e264_k : FnOk Tryz.prog 264 Tryz.f264 e264 := ⟨Tryz.func264, by kernel_rfl, by kernel_rfl, rfl⟩
noncomputable def e265 : Hint := hm [3,387,899,419,65955,16,387,16] [] [] []
theorem e265_k : FnOk Tryz.prog 265 Tryz.f265 e265 := ⟨Tryz.func265, by kernel_rfl, by kernel_rfl, rfl⟩
noncomputable def e272 : Hint := hm [3,16] [] [] []
theorem e272_k : FnOk Tryz.prog 272 Tryz.f272 e272 := ⟨Tryz.func272, by kernel_rfl, by kernel_rfl, rfl⟩
noncomputable def e281 : Hint := hm [7,1030,7174,1414,525446,64,64] [] [] []
theorem e281_k : FnOk Tryz.prog 281 Tryz.f281 e281 := ⟨Tryz.func281, by kernel_rfl, by kernel_rfl, rfl⟩
noncomputable def e284 : Hint := hm [3,16] [5] [] []
theorem e284_k : FnOk Tryz.prog 284 Tryz.f284 e284 := ⟨Tryz.func284, by kernel_rfl, by kernel_rfl, rfl⟩
noncomputable def e285 : Hint := hm [6,8] [] [] []
theorem e285_k : FnOk Tryz.prog 285 Tryz.f285 e285 := ⟨Tryz.func285, by kernel_rfl, by kernel_rfl, rfl⟩
noncomputable def e286 : Hint := hm [1,4] [] [] []
theorem e286_k : FnOk Tryz.prog 286 Tryz.f286 e286 := ⟨Tryz.func286, by kernel_rfl, by kernel_rfl, rfl⟩
noncomputable def e287 : Hint := hm [3,67,451,33219,963,134218691,451,451,48] [43] [] []
theorem e287_k : FnOk Tryz.prog 287 Tryz.f287 e287 := ⟨Tryz.func287, by kernel_rfl, by kernel_rfl, rfl⟩
noncomputable def e288 : Hint := hm [3,35,65571,35,16] [] [] []
theorem e288_k : FnOk Tryz.prog 288 Tryz.f288 e288 := ⟨Tryz.func288, by kernel_rfl, by kernel_rfl, rfl⟩
noncomputable def e289 : Hint := hm [1,4] [] [] []
theorem e289_k : FnOk Tryz.prog 289 Tryz.f289 e289 := ⟨Tryz.func289, by kernel_rfl, by kernel_rfl, rfl⟩
noncomputable def e290 : Hint := hm [1,4] [] [] []
theorem e290_k : FnOk Tryz.prog 290 Tryz.f290 e290 := ⟨Tryz.func290, by kernel_rfl, by kernel_rfl, rfl⟩
noncomputable def e295 : Hint := hm [3,387,899,419,65955,16,387,16] [] [] []
theorem e295_k : FnOk Tryz.prog 295 Tryz.f295 e295 := ⟨Tryz.func295, by kernel_rfl, by kernel_rfl, rfl⟩
noncomputable def e296 : Hint := hm [3,1027,16,12291,28675,12323,16789507,16,12291,16] [] [] []
theorem e296_k : FnOk Tryz.prog 296 Tryz.f296 e296 := ⟨Tryz.func296, by kernel_rfl, by kernel_rfl, rfl⟩
noncomputable def e297 : Hint := hm [3,8] [] [] []
theorem e297_k : FnOk Tryz.prog 297 Tryz.f297 e297 := ⟨Tryz.func297, by kernel_rfl, by kernel_rfl, rfl⟩
noncomputable def e303 : Hint := hm [1,4] [] [] []
theorem e303_k : FnOk Tryz.prog 303 Tryz.f303 e303 := ⟨Tryz.func303, by kernel_rfl, by kernel_rfl, rfl⟩
noncomputable def e314 : Hint := hm [3,387,899,419,65955,16,387,16] [] [] []
theorem e314_k : FnOk Tryz.prog 314 Tryz.f314 e314 := ⟨Tryz.func314, by kernel_rfl, by kernel_rfl, rfl⟩
noncomputable def e315 : Hint := hm [7,64] [] [] []
theorem e315_k : FnOk Tryz.prog 315 Tryz.f315 e315 := ⟨Tryz.func315, by kernel_rfl, by kernel_rfl, rfl⟩
noncomputable def e316 : Hint := hm [1,4] [] [] []
theorem e316_k : FnOk Tryz.prog 316 Tryz.f316 e316 := ⟨Tryz.func316, by kernel_rfl, by kernel_rfl, rfl⟩
noncomputable def e317 : Hint := hm [1,4] [] [] []
theorem e317_k : FnOk Tryz.prog 317 Tryz.f317 e317 := ⟨Tryz.func317, by kernel_rfl, by kernel_rfl, rfl⟩
noncomputable def e318 : Hint := hm [1,1] [] [] []
theorem e318_k : FnOk Tryz.prog 318 Tryz.f318 e318 := ⟨Tryz.func318, by kernel_rfl, by kernel_rfl, rfl⟩
noncomputable def evTree : ETree := (.node (.node (.node (.node (.node (.node (.node (.node .nil 9 Tryz.f9 e9 .nil) 12 Tryz.f12 e12 .nil) 16 Tryz.f16 e16 (.node .nil 18 Tryz.f18 e18 .nil)) 20 Tryz.f20 e20 (.node (.node (.node .nil 22 Tryz.f22 e22 .nil) 25 Tryz.f25 e25 .nil) 27 Tryz.f27 e27 (.node .nil 30 Tryz.f30 e30 .nil))) 34 Tryz.f34 e34 (.node (.node (.node (.node .nil 37 Tryz.f37 e37 .nil) 42 Tryz.f42 e42 .nil) 45 Tryz.f45 e45 (.node .nil 46 Tryz.f46 e46 .nil)) 47 Tryz.f47 e47 (.node (.node (.node .nil 56 Tryz.f56 e56 .nil) 57 Tryz.f57 e57 .nil) 58 Tryz.f58 e58 (.node .nil 59 Tryz.f59 e59 .nil)))) 60 Tryz.f60 e60 (.node (.node (.node (.node (.node .nil 61 Tryz.f61 e61 .nil) 62 Tryz.f62 e62 .nil) 63 Tryz.f63 e63 (.node .nil 64 Tryz.f64 e64 .nil)) 73 Tryz.f73 e73 (.node (.node (.node .nil 74 Tryz.f74 e74 .nil) 75 Tryz.f75 e75 .nil) 77 Tryz.f77 e77 (.node .nil 78 Tryz.f78 e78 .nil))) 79 Tryz.f79 e79 (.node (.node (.node (.node .nil 80 Tryz.f80 e80 .nil) 83 Tryz.f83 e83 .nil) 84 Tryz.f84 e84 (.node .nil 85 Tryz.f85 e85 .nil)) 86 Tryz.f86 e86 (.node (.node (.node .nil 87 Tryz.f87 e87 .nil) 88 Tryz.f88 e88 .nil) 89 Tryz.f89 e89 (.node .nil 90 Tryz.f90 e90 .nil))))) 97 Tryz.f97 e97 (.node (.node (.node (.node (.node (.node .nil 98 Tryz.f98 e98 .nil) 99 Tryz.f99 e99 .nil) 100 Tryz.f100 e100 (.node .nil 101 Tryz.f101 e101 .nil)) 102 Tryz.f102 e102 (.node (.node (.node .nil 103 Tryz.f103 e103 .nil) 104 Tryz.f104 e104 .nil) 108 Tryz.f108 e108 (.node .nil 109 Tryz.f109 e109 .nil))) 110 Tryz.f110 e110 (.node (.node (.node (.node .nil 121 Tryz.f121 e121 .nil) 122 Tryz.f122 e122 .nil) 123 Tryz.f123 e123 (.node .nil 124 Tryz.f124 e124 .nil)) 125 Tryz.f125 e125 (.node (.node (.node .nil 126 Tryz.f126 e126 .nil) 127 Tryz.f127 e127 .nil) 128 Tryz.f128 e128 (.node .nil 129 Tryz.f129 e129 .nil)))) 130 Tryz.f130 e130 (.node (.node (.node (.node (.node .nil 131 Tryz.f131 e131 .nil) 132 Tryz.f132 e132 .nil) 133 Tryz.f133 e133 (.node .nil 134 Tryz.f134 e134 .nil)) 135 Tryz.f135 e135 (.node (.node (.node .nil 136 Tryz.f136 e136 .nil) 137 Tryz.f137 e137 .nil) 138 Tryz.f138 e138 (.node .nil 139 Tryz.f139 e139 .nil))) 140 Tryz.f140 e140 (.node (.node (.node (.node .nil 141 Tryz.f141 e141 .nil) 142 Tryz.f142 e142 .nil) 143 Tryz.f143 e143 (.node .nil 144 Tryz.f144 e144 .nil)) 152 Tryz.f152 e152 (.node (.node (.node .nil 153 Tryz.f153 e153 .nil) 154 Tryz.f154 e154 .nil) 155 Tryz.f155 e155 (.node .nil 156 Tryz.f156 e156 .nil)))))) 157 Tryz.f157 e157 (.node (.node (.node (.node (.node (.node (.node .nil 158 Tryz.f158 e158 .nil) 159 Tryz.f159 e159 .nil) 160 Tryz.f160 e160 (.node .nil 161 Tryz.f161 e161 .nil)) 162 Tryz.f162 e162 (.node (.node (.node .nil 163 Tryz.f163 e163 .nil) 164 Tryz.f164 e164 .nil) 165 Tryz.f165 e165 (.node .nil 174 Tryz.f174 e174 .nil))) 175 Tryz.f175 e175 (.node (.node (.node (.node .nil 176 Tryz.f176 e176 .nil) 177 Tryz.f177 e177 .nil) 178 Tryz.f178 e178 (.node .nil 191 Tryz.f191 e191 .nil)) 192 Tryz.f192 e192 (.node (.node (.node .nil 193 Tryz.f193 e193 .nil) 194 Tryz.f194 e194 .nil) 195 Tryz.f195 e195 (.node .nil 197 Tryz.f197 e197 .nil)))) 198 Tryz.f198 e198 (.node (.node (.node (.node (.node .nil 199 Tryz.f199 e199 .nil) 200 Tryz.f200 e200 .nil) 201 Tryz.f201 e201 (.node .nil 202 Tryz.f202 e202 .nil)) 203 Tryz.f203 e203 (.node (.node (.node .nil 204 Tryz.f204 e204 .nil) 205 Tryz.f205 e205 .nil) 206 Tryz.f206 e206 (.node .nil 207 Tryz.f207 e207 .nil))) 208 Tryz.f208 e208 (.node (.node (.node (.node .nil 218 Tryz.f218 e218 .nil) 219 Tryz.f219 e219 .nil) 220 Tryz.f220 e220 (.node .nil 221 Tryz.f221 e221 .nil)) 222 Tryz.f222 e222 (.node (.node (.node .nil 223 Tryz.f223 e223 .nil) 224 Tryz.f224 e224 .nil) 225 Tryz.f225 e225 (.node .nil 226 Tryz.f226 e226 .nil))))) 227 Tryz.f227 e227 (.node (.node (.node (.node (.node (.node .nil 228 Tryz.f228 e228 .nil) 229 Tryz.f229 e229 .nil) 230 Tryz.f230 e230 (.node .nil 231 Tryz.f231 e231 .nil)) 235 Tryz.f235 e235 (.node (.node (.node .nil 236 Tryz.f236 e236 .nil) 243 Tryz.f243 e243 .nil) 246 Tryz.f246 e246 (.node .nil 247 Tryz.f247 e247 .nil))) 248 Tryz.f248 e248 (.node (.node (.node (.node .nil 249 Tryz.f249 e249 .nil) 250 Tryz.f250 e250 .nil) 251 Tryz.f251 e251 (.node .nil 252 Tryz.f252 e252 .nil)) 253 Tryz.f253 e253 (.node (.node (.node .nil 260 Tryz.f260 e260 .nil) 261 Tryz.f261 e261 .nil) 262 Tryz.f262 e262 (.node .nil 263 Tryz.f263 e263 .nil)))) 264 Tryz.f264 e264 (.node (.node (.node (.node (.node .nil 265 Tryz.f265 e265 .nil) 272 Tryz.f272 e272 .nil) 281 Tryz.f281 e281 (.node .nil 284 Tryz.f284 e284 .nil)) 285 Tryz.f285 e285 (.node (.node (.node .nil 286 Tryz.f286 e286 .nil) 287 Tryz.f287 e287 .nil) 288 Tryz.f288 e288 (.node .nil 289 Tryz.f289 e289 .nil))) 290 Tryz.f290 e290 (.node (.node (.node (.node .nil 295 Tryz.f295 e295 .nil) 296 Tryz.f296 e296 .nil) 297 Tryz.f297 e297 (.node .nil 303 Tryz.f303 e303 .nil)) 314 Tryz.f314 e314 (.node (.node (.node .nil 315 Tryz.f315 e315 .nil) 316 Tryz.f316 e316 .nil) 317 Tryz.f317 e317 (.node .nil 318 Tryz.f318 e318 .nil)))))))
theorem evTree_all : evTree.All Tryz.prog := ⟨⟨⟨⟨⟨⟨⟨⟨trivial, e9_k, trivial⟩, e12_k, trivial⟩, e16_k, ⟨trivial, e18_k, trivial⟩⟩, e20_k, ⟨⟨⟨trivial, e22_k, trivial⟩, e25_k, trivial⟩, e27_k, ⟨trivial, e30_k, trivial⟩⟩⟩, e34_k, ⟨⟨⟨⟨trivial, e37_k, trivial⟩, e42_k, trivial⟩, e45_k, ⟨trivial, e46_k, trivial⟩⟩, e47_k, ⟨⟨⟨trivial, e56_k, trivial⟩, e57_k, trivial⟩, e58_k, ⟨trivial, e59_k, trivial⟩⟩⟩⟩, e60_k, ⟨⟨⟨⟨⟨trivial, e61_k, trivial⟩, e62_k, trivial⟩, e63_k, ⟨trivial, e64_k, trivial⟩⟩, e73_k, ⟨⟨⟨trivial, e74_k, trivial⟩, e75_k, trivial⟩, e77_k, ⟨trivial, e78_k, trivial⟩⟩⟩, e79_k, ⟨⟨⟨⟨trivial, e80_k, trivial⟩, e83_k, trivial⟩, e84_k, ⟨trivial, e85_k, trivial⟩⟩, e86_k, ⟨⟨⟨trivial, e87_k, trivial⟩, e88_k, trivial⟩, e89_k, ⟨trivial, e90_k, trivial⟩⟩⟩⟩⟩, e97_k, ⟨⟨⟨⟨⟨⟨trivial, e98_k, trivial⟩, e99_k, trivial⟩, e100_k, ⟨trivial, e101_k, trivial⟩⟩, e102_k, ⟨⟨⟨trivial, e103_k, trivial⟩, e104_k, trivial⟩, e108_k, ⟨trivial, e109_k, trivial⟩⟩⟩, e110_k, ⟨⟨⟨⟨trivial, e121_k, trivial⟩, e122_k, trivial⟩, e123_k, ⟨trivial, e124_k, trivial⟩⟩, e125_k, ⟨⟨⟨trivial, e126_k, trivial⟩, e127_k, trivial⟩, e128_k, ⟨trivial, e129_k, trivial⟩⟩⟩⟩, e130_k, ⟨⟨⟨⟨⟨trivial, e131_k, trivial⟩, e132_k, trivial⟩, e133_k, ⟨trivial, e134_k, trivial⟩⟩, e135_k, ⟨⟨⟨trivial, e136_k, trivial⟩, e137_k, trivial⟩, e138_k, ⟨trivial, e139_k, trivial⟩⟩⟩, e140_k, ⟨⟨⟨⟨trivial, e141_k, trivial⟩, e142_k, trivial⟩, e143_k, ⟨trivial, e144_k, trivial⟩⟩, e152_k, ⟨⟨⟨trivial, e153_k, trivial⟩, e154_k, trivial⟩, e155_k, ⟨trivial, e156_k, trivial⟩⟩⟩⟩⟩⟩, e157_k, ⟨⟨⟨⟨⟨⟨⟨trivial, e158_k, trivial⟩, e159_k, trivial⟩, e160_k, ⟨trivial, e161_k, trivial⟩⟩, e162_k, ⟨⟨⟨trivial, e163_k, trivial⟩, e164_k, trivial⟩, e165_k, ⟨trivial, e174_k, trivial⟩⟩⟩, e175_k, ⟨⟨⟨⟨trivial, e176_k, trivial⟩, e177_k, trivial⟩, e178_k, ⟨trivial, e191_k, trivial⟩⟩, e192_k, ⟨⟨⟨trivial, e193_k, trivial⟩, e194_k, trivial⟩, e195_k, ⟨trivial, e197_k, trivial⟩⟩⟩⟩, e198_k, ⟨⟨⟨⟨⟨trivial, e199_k, trivial⟩, e200_k, trivial⟩, e201_k, ⟨trivial, e202_k, trivial⟩⟩, e203_k, ⟨⟨⟨trivial, e204_k, trivial⟩, e205_k, trivial⟩, e206_k, ⟨trivial, e207_k, trivial⟩⟩⟩, e208_k, ⟨⟨⟨⟨trivial, e218_k, trivial⟩, e219_k, trivial⟩, e220_k, ⟨trivial, e221_k, trivial⟩⟩, e222_k, ⟨⟨⟨trivial, e223_k, trivial⟩, e224_k, trivial⟩, e225_k, ⟨trivial, e226_k, trivial⟩⟩⟩⟩⟩, e227_k, ⟨⟨⟨⟨⟨⟨trivial, e228_k, trivial⟩, e229_k, trivial⟩, e230_k, ⟨trivial, e231_k, trivial⟩⟩, e235_k, ⟨⟨⟨trivial, e236_k, trivial⟩, e243_k, trivial⟩, e246_k, ⟨trivial, e247_k, trivial⟩⟩⟩, e248_k, ⟨⟨⟨⟨trivial, e249_k, trivial⟩, e250_k, trivial⟩, e251_k, ⟨trivial, e252_k, trivial⟩⟩, e253_k, ⟨⟨⟨trivial, e260_k, trivial⟩, e261_k, trivial⟩, e262_k, ⟨trivial, e263_k, trivial⟩⟩⟩⟩, e264_k, ⟨⟨⟨⟨⟨trivial, e265_k, trivial⟩, e272_k, trivial⟩, e281_k, ⟨trivial, e284_k, trivial⟩⟩, e285_k, ⟨⟨⟨trivial, e286_k, trivial⟩, e287_k, trivial⟩, e288_k, ⟨trivial, e289_k, trivial⟩⟩⟩, e290_k, ⟨⟨⟨⟨trivial, e295_k, trivial⟩, e296_k, trivial⟩, e297_k, ⟨trivial, e303_k, trivial⟩⟩, e314_k, ⟨⟨⟨trivial, e315_k, trivial⟩, e316_k, trivial⟩, e317_k, ⟨trivial, e318_k, trivial⟩⟩⟩⟩⟩⟩⟩
theorem mixedE : Tryz.prog.follows .mixedOrders = true := by kernel_rfl
end Go.AI
namespace Go.AI
open Go.MapKept Go.Maps Go.WideElems Go.WideShapes
def insI (x : Int) : List Int -> List Int
 | [] => [x]
 | y :: l => if x <= y then x :: y :: l else y :: insI x l
def isortI : List Int -> List Int
 | [] => []
 | x :: l => insI x (isortI l)
theorem insI_perm (x : Int) : ∀ l, (insI x l).Perm (x :: l)
 | [] => .refl _
 | y :: l => by
  unfold insI
  split
  ·exact .refl _
  ·exact ((insI_perm x l).cons y).trans (.swap _ _ _)
theorem isortI_perm : ∀ l, (isortI l).Perm l
 | [] => .refl _
 | x :: l => (insI_perm x _).trans ((isortI_perm l).cons x)
theorem insI_sorted {x : Int} : ∀ {l : List Int}, l.Pairwise (· <= ·) -> (insI x l).Pairwise (· <= ·)
 | [], _ => by simp [insI]
 | y :: l, h => by
  unfold insI
  split
  ·rename_i hxy
   refine List.Pairwise.cons (fun z hz => ?_) h
   rcases List.mem_cons.1 hz with rfl | hz
   ·exact hxy
   ·exact Int.le_trans hxy ((List.pairwise_cons.1 h).1 z hz)
  ·rename_i hxy
   obtain ⟨h1, h2⟩ := List.pairwise_cons.1 h
   refine List.Pairwise.cons (fun z hz => ?_) (insI_sorted h2)
   rcases List.mem_cons.1 ((insI_perm x l).mem_iff.1 hz) with rfl | hz
   ·omega
   ·exact h1 z hz
theorem isortI_sorted : ∀ l : List Int, (isortI l).Pairwise (· <= ·)
 | [] => .nil
 | _ :: l => insI_sorted (isortI_sorted l)
theorem isortI_eq {l l' : List Int} (h : l'.Perm l) : l'.mergeSort (fun x y => decide (x <= y)) = isortI l := by
 have tr : ∀ a b c : Int, leI a b = true -> leI b c = true -> leI a c = true := fun a b c h1 h2 => by simp only [leI, decide_eq_true_eq] at *; exact Int.le_trans h1 h2
 have to : ∀ a b : Int, (leI a b || leI b a) = true := fun a b => by simp only [leI, Bool.or_eq_true, decide_eq_true_eq]; exact Int.le_total a b
 refine List.Perm.eq_of_pairwise (le := fun a b => a <= b) (fun a b _ _ h1 h2 => Int.le_antisymm h1 h2) ?_ (isortI_sorted l) (((List.mergeSort_perm l' _).trans h).trans (isortI_perm l).symm)
 exact (List.pairwise_mergeSort tr to l').imp fun {a b} hab => by simpa [leI] using hab
def intA : AV -> Int
 | .int _ n => n
 | _ => 0
def isI64 : AV -> Bool
 | .int .i64 n => (Lit.int .i64 n).wf
 | _ => false
def intsOf (es : List (AV × AV)) : List Int := es.map fun p => intA p.1
def okKeys (es : List (AV × AV)) : Bool := es.all (fun p => isI64 p.1) && distF es
theorem isI64_eq {a : AV} (h : isI64 a = true) : ∃ n, a = .int .i64 n /\ (Lit.int .i64 n).wf = true := by
 unfold isI64 at h
 split at h
 ·exact ⟨_, rfl, h⟩
 ·cases h
abbrev RT : Value -> Option (DataW Unit × List MemPlace) := fun _ => some (.lit (.bool true), [])
section
variable {P : Program} {F : Nat -> Prop} {G : Gh} {w : World} {H : Heap}
theorem map_owns {k : TypeId} (hk : P.underlying k = some (.int .i64)) {vs : List AV} {us : List Value} (hc : CRel F G vs H us w) {o : Nat} {um : Value} (hm : VRel G w (.mapr o) um) {es : List (AV × AV)}
  (he : mapOf H (.mapr o) = some es) (hok : okKeys es = true) (hlen : es.length <= maxLen) :
  ∃ b D0, um = .map (some b) /\ w.ownsMap P k RT b es.length D0 /\ (intKeys D0).Perm (intsOf es) /\ Maps.size D0 = es.length := by
 simp only [okKeys, Bool.and_eq_true] at hok
 obtain ⟨hk1, hk2⟩ := hok
 have hd := distF_ok hk2
 rcases map_at hc hm he with ⟨h, _⟩ | ⟨o', b, ms, cl, ho, rfl, hob, hkb, hms, hl, hH, hrel⟩
 ·cases h
 cases ho
 obtain ⟨hcl, hborn⟩ := map_births hc hH hob hkb hms
 have key : ∀ (i : Nat) (x : MapEntry), ms[i]? = some x -> ∃ (p : AV × AV) (n : Int), es[i]? = some p /\ p.1 = .int .i64 n /\ x.key = encZ n /\ (Lit.int .i64 n).wf = true := fun i x hx => by
  have hlt := (Array.getElem?_eq_some_iff.1 hx).1
  have hp : es[i]? = some (es[i]'(by omega)) := List.getElem?_eq_getElem _
  obtain ⟨n, hn, hw⟩ := isI64_eq (List.all_eq_true.1 hk1 _ (List.mem_of_getElem? hp))
  have hv := (hrel i _ x hp hx).2.2.1
  rw [hn] at hv
  refine ⟨_, n, hp, hn, ?_, hw⟩
  generalize x.key = y at hv ⊢
  cases hv; rfl
 have hR : ∀ x ∈ ms.toList, ∃ (i : Nat) (p : AV × AV) (n : Int), ms[i]? = some x /\ es[i]? = some p /\ p.1 = .int .i64 n /\ rd P k RT x = some (.int .i64 n, .lit (.bool true)) := fun x hx => by
  obtain ⟨i, hi⟩ := List.getElem?_of_mem hx
  rw [Array.getElem?_toList] at hi
  obtain ⟨p, n, h1, h2, h3, h4⟩ := key i x hi
  refine ⟨i, p, n, hi, h1, h2, ?_⟩
  have : keyOf P k x.key = some (.int .i64 n) := by
   rw [h3]
   simp [keyOf, hk, mapKey, encZ, h4]
  simp [rd, this, RT]
 have hmap : ms.toList.map (fun x => intOf (rg P k RT x).1) = intsOf es := by
  apply List.ext_getElem?
  intro i
  unfold intsOf
  rw [List.getElem?_map, List.getElem?_map, Array.getElem?_toList]
  cases hx : ms[i]? with
  | none =>
   have : es[i]? = none := List.getElem?_eq_none (by have := Array.getElem?_eq_none_iff.1 hx; omega)
   rw [this]; rfl
  | some x =>
   obtain ⟨p, n, h1, h2, h3, h4⟩ := key i x hx
   have : keyOf P k x.key = some (.int .i64 n) := by
    rw [h3]
    simp [keyOf, hk, mapKey, encZ, h4]
   rw [h1]
   simp [rg, rd, this, RT, intOf, h2, intA]
 have hkeys : ms.toList.map (·.key) = (intsOf es).map encZ := by
  apply List.ext_getElem?
  intro i
  unfold intsOf
  rw [List.getElem?_map, List.getElem?_map, List.getElem?_map, Array.getElem?_toList]
  cases hx : ms[i]? with
  | none =>
   have : es[i]? = none := List.getElem?_eq_none (by have := Array.getElem?_eq_none_iff.1 hx; omega)
   rw [this]; rfl
  | some x =>
   obtain ⟨p, n, h1, h2, h3, h4⟩ := key i x hx
   rw [h1]
   simp [h2, h3, intA]
 have hborns : ms.toList.map (·.born) = List.range ms.size := by
  apply List.ext_getElem?
  intro i
  rw [List.getElem?_map, Array.getElem?_toList]
  cases hx : ms[i]? with
  | none =>
   have := Array.getElem?_eq_none_iff.1 hx
   rw [List.getElem?_eq_none (by simpa using this)]; rfl
  | some x =>
   have := (Array.getElem?_eq_some_iff.1 hx).1
   rw [List.getElem?_eq_getElem (by simpa using this)]
   simp [hborn i x hx]
 have hnd : (intsOf es).Nodup := by
  refine List.pairwise_map.2 (hd.imp_of_mem fun {p q} hp hq h e => ?_)
  obtain ⟨n, hn, _⟩ := isI64_eq (List.all_eq_true.1 hk1 _ hp)
  obtain ⟨m, hm, _⟩ := isI64_eq (List.all_eq_true.1 hk1 _ hq)
  rw [hn, hm] at h e
  simp [intA] at e
  subst e
  simp [keyEq, keyEq1] at h
 refine ⟨b, _, rfl, ⟨ms, cl, hms, ⟨by omega, ⟨fun x hx => ?_, ?_, ?_⟩, fun x hx => ?_⟩, by omega, rfl⟩, ?_, ?_⟩
 ·obtain ⟨i, hi⟩ := List.getElem?_of_mem hx
  rw [Array.getElem?_toList] at hi
  have := (Array.getElem?_eq_some_iff.1 hi).1
  rw [hborn i x hi]; omega
 ·rw [hborns]; exact List.nodup_range
 ·rw [hkeys]
  exact List.pairwise_map.2 (hnd.imp fun h e => h (encZ_inj e))
 ·obtain ⟨i, p, n, _, _, _, h⟩ := hR x hx
  exact ⟨_, h⟩
 ·show (List.map _ _).Perm _
  rw [<- hmap, show (ms.toList.map fun x => intOf (rg P k RT x).1) = (ms.toList.map (rg P k RT)).map fun p => intOf p.1 by rw [List.map_map]; rfl]
  exact (sorted_perm _).map _
 ·show List.length _ = _
  rw [(sorted_perm _).length_eq, List.length_map, Array.length_toList, hl]
theorem ext_below (hF : ∀ b, F b -> b < w.heap.size) {w' : World} (hb : RowKit.Below w.heap.size w w') {g : Nat} (hg : w.heap.size <= g) (k : Kind) : Ext F G w (G.setKind g k) w' := by
 have ne : ∀ b, b < w.heap.size -> b ≠ g := fun b h e => by omega
 refine ⟨hb.size, ⟨fun _ _ h => h, fun b C E hc => ?_, fun b hlt _ => ⟨Nat.lt_of_lt_of_le hlt hb.size, G.kind_set_ne k (ne b hlt)⟩, fun b off v hs hc => ?_⟩, fun b h => G.kind_set_ne k (ne b (hF b h)), fun b h => hb.block b (hF b h), ⟨hb.os, hb.tape, hb.output⟩⟩
 ·exact ⟨C, (hb.block b (Array.getElem?_eq_some_iff.1 hc).1).trans hc, rfl⟩
 ·have hlt := cell_lt hc
  exact ⟨(G.safe_set_ne k (ne b hlt)).2 hs, (hb.cell (p := ⟨b, off, none⟩) hlt).trans hc⟩
theorem KOut.below {vs : List AV} {us : List Value} (hc : CRel F G vs H us w) {w' : World} (hb : RowKit.Below w.heap.size w w') {g : Nat} (hg : w.heap.size <= g) {R : AV -> Heap -> Prop} {v : AV} {u : Value} (hR : R v H)
  (hv : VRel (G.setKind g .imm) w' v u) (ht : toks v u = []) : KOut F G w R u w' := by
 have he := ext_below (F := F) (G := G) hc.h.fore hb hg .imm
 have hne : ∀ b, b < w.heap.size -> (G.setKind g .imm).kind b = G.kind b /\ w'.heap[b]? = w.heap[b]? := fun b hlt => ⟨G.kind_set_ne .imm (by omega), hb.block b hlt⟩
 refine ⟨v, H, _, hR, ⟨.cons hv (tok_nil_all ht _ _ _) (.nil _ _ _), hc.h.ext he rfl fun b hb' => ?_, fun b => ?_⟩, he⟩
 ·rcases hb' with ⟨o', cs, h1, h2⟩ | hb'
  ·exact hne b (hc.h.block_lt h1 h2)
  ·obtain ⟨_, _, C, E, t3⟩ := hc.h.tok_of_pos hb'
   exact hne b (Array.getElem?_eq_some_iff.1 t3).1
 ·rw [hcnt_ext (G := G) (w := w) (G' := G.setKind g .imm) rfl fun o' cs b' h1 h2 => (hne b' (hc.h.block_lt h1 h2)).2, tcnt_cons, tcnt_nil, ht]
  have := hc.cnt b
  simp
  omega
theorem ints_rel {w' : World} {base e : Nat} {v : Value} {ss : List Int} (h : w'.ownsRow base e 1 v ss.length (ss.map encZ)) :
  ∃ g, base <= g /\ ∀ G : Gh, VRel (G.setKind g .imm) w' (.sl none (ss.map (.int .i64))) v := by
 obtain ⟨hl, h⟩ := h
 rcases h with ⟨rfl, h0⟩ | ⟨g, cap, cur, rfl, hbg, hg, h1, h2, h3, h4⟩
 ·obtain rfl := List.eq_nil_of_length_eq_zero h0
  exact ⟨base, Nat.le_refl _, fun G => .slnil none⟩
 ·refine ⟨g, hbg, fun G => ?_⟩
  have hlen : (ss.map (AV.int .i64)).length = ss.length := List.length_map ..
  have hcat : cat (ss.map (AV.int .i64)) = ss.map (AV.int .i64) := by
   unfold cat
   rw [List.flatMap_map]
   clear hl hlen h4 h1
   induction ss with
   | nil => rfl
   | cons x l ih => rw [List.flatMap_cons, ih]; rfl
  rw [<- hlen]
  refine .sl none _ 1 g 0 cap (fun i => encZ (ss[i]?.getD 0)) (fun a ha => ?_) (fun _ h => by cases h) (by rw [hlen]; exact h1) h2 (fun i c hi => ?_) (fun i c hi => ?_)
  ·obtain ⟨n, _, rfl⟩ := List.mem_map.1 ha; rfl
  ·rw [hcat, List.getElem?_map] at hi
   cases hs : ss[i]? with
   | none => rw [hs] at hi; cases hi
   | some n =>
    rw [hs] at hi; cases hi
    refine ⟨rfl, ?_, ?_⟩
    ·unfold Gh.safe; rw [G.kind_set]; trivial
    ·have hin : (cur.toList.take (ss.length * 1))[i]? = some (encZ n) := by rw [h4, List.getElem?_map, hs]; rfl
     have hci : cur[i]? = some (encZ n) := by
      rw [List.getElem?_take] at hin
      split at hin
      ·rwa [Array.getElem?_toList] at hin
      ·cases hin
     simp [World.cell?, hg, hci]
  ·rw [hcat, List.getElem?_map] at hi
   cases hs : ss[i]? with
   | none => rw [hs] at hi; cases hi
   | some n =>
    rw [hs] at hi; cases hi
    exact .int _ _
end
end Go.AI
namespace Go.Proofs
open Go.RowKit Go.Maps Go.Sort Go.Shelf Go.AI
def Tryz.keysA_ren : Go.Shelf.Ren := ⟨fun | 7 => 197 | 10 => 246 | n => n, fun | 23 => 186 | 26 => 3 | 3 => 4 | 28 => 244 | 0 => 0 | 27 => 243 | 33 => 193 | 4 => 4 | n => n, fun | n => n⟩
theorem Tryz.keysA : Go.Proofs.SlLaysZI.n7 Tryz.prog Tryz.keysA_ren := {
 mixed := by kernel_rfl
 f7 := ⟨Tryz.f197.name, by decide, Tryz.func197.trans (congrArg some (by kernel_rfl))⟩
 f10 := ⟨Tryz.f246.name, by decide, Tryz.func246.trans (congrArg some (by kernel_rfl))⟩
 t0 := Tryz.underlying0
 a0 := Tryz.isAgg0
 z0 := Tryz.sizeOf0
 v0 := Tryz.zeroValue0
 t4 := Tryz.underlying4
 a4 := Tryz.isAgg4
 z4 := Tryz.sizeOf4
 v4 := Tryz.zeroValue4
 t23 := Tryz.underlying186
 a23 := Tryz.isAgg186
 z23 := Tryz.sizeOf186
 v23 := Tryz.zeroValue186
 t26 := Tryz.underlying3
 a26 := Tryz.isAgg3
 z26 := Tryz.sizeOf3
 v26 := Tryz.zeroValue3
 t27 := Tryz.underlying243
 a27 := Tryz.isAgg243
 z27 := Tryz.sizeOf243
 v27 := Tryz.zeroValue243
 t28 := Tryz.underlying244
 a28 := Tryz.isAgg244
 z28 := Tryz.sizeOf244
 v28 := Tryz.zeroValue244
 t33 := Tryz.underlying193
 a33 := Tryz.isAgg193
 z33 := Tryz.sizeOf193
 v33 := Tryz.zeroValue193 }
def Tryz.sortedA_ren : Go.Shelf.Ren := ⟨fun | 6 => 196 | 8 => 244 | 9 => 245 | 11 => 282 | 13 => 234 | 12 => 283 | 23 => 275 | 24 => 276 | 14 => 305 | 15 => 306 | 16 => 307 | 17 => 308 | 18 => 309 | 19 => 310 | 20 => 311 | 21 => 312 | 22 => 313 | 25 => 322 | 26 => 299 | 27 => 300 | 28 => 323 | 29 => 324 | 30 => 325 | 31 => 327 | n => n, fun | 26 => 3 | 28 => 244 | 24 => 121 | 0 => 0 | 3 => 3 | 37 => 268 | 48 => 292 | 50 => 294 | 4 => 4 | 40 => 285 | 39 => 284 | 45 => 155 | 5 => 5 | 9 => 9 | 51 => 309 | 55 => 295 | 57 => 323 | 58 => 324 | 33 => 193 | n => n, fun | n => n⟩
theorem Tryz.sortedA : Go.Proofs.SlLaysZI.n6 Tryz.prog Tryz.sortedA_ren := {
 mixed := by kernel_rfl
 f6 := ⟨Tryz.f196.name, by decide, Tryz.func196.trans (congrArg some (by kernel_rfl))⟩
 f8 := ⟨Tryz.f244.name, by decide, Tryz.func244.trans (congrArg some (by kernel_rfl))⟩
 f11 := ⟨Tryz.f282.name, by decide, Tryz.func282.trans (congrArg some (by kernel_rfl))⟩
 t0 := Tryz.underlying0
 a0 := Tryz.isAgg0
 z0 := Tryz.sizeOf0
 v0 := Tryz.zeroValue0
 t24 := Tryz.underlying121
 a24 := Tryz.isAgg121
 z24 := Tryz.sizeOf121
 v24 := Tryz.zeroValue121
 t26 := Tryz.underlying3
 a26 := Tryz.isAgg3
 z26 := Tryz.sizeOf3
 v26 := Tryz.zeroValue3
 t28 := Tryz.underlying244
 a28 := Tryz.isAgg244
 z28 := Tryz.sizeOf244
 v28 := Tryz.zeroValue244
 i26 := by kernel_rfl }
def Tryz.sortA_ren : Go.Shelf.Ren := ⟨fun | 5 => 245 | 8 => 234 | 7 => 283 | 19 => 275 | 20 => 276 | 10 => 305 | 11 => 306 | 12 => 307 | 13 => 308 | 14 => 309 | 15 => 310 | 16 => 311 | 17 => 312 | 18 => 313 | 30 => 322 | 31 => 299 | 32 => 300 | 33 => 323 | 34 => 324 | 35 => 325 | 40 => 327 | n => n, fun | 23 => 121 | 25 => 3 | 3 => 3 | 32 => 268 | 22 => 121 | 0 => 0 | 44 => 292 | 46 => 294 | 4 => 4 | 36 => 285 | 35 => 284 | 41 => 155 | 5 => 5 | 9 => 9 | 53 => 309 | 57 => 295 | 63 => 323 | 64 => 324 | n => n, fun | n => n⟩
theorem Tryz.sortA : Go.Proofs.SlLaysM.n5 Tryz.prog Tryz.sortA_ren := {
 mixed := by kernel_rfl
 f5 := ⟨Tryz.f245.name, by decide, Tryz.func245.trans (congrArg some (by kernel_rfl))⟩
 f7 := ⟨Tryz.f283.name, by decide, Tryz.func283.trans (congrArg some (by kernel_rfl))⟩
 f8 := Tryz.func234.trans (congrArg some (by kernel_rfl))
 f10 := ⟨Tryz.f305.name, by decide, Tryz.func305.trans (congrArg some (by kernel_rfl))⟩
 f11 := ⟨Tryz.f306.name, by decide, Tryz.func306.trans (congrArg some (by kernel_rfl))⟩
 f12 := ⟨Tryz.f307.name, by decide, Tryz.func307.trans (congrArg some (by kernel_rfl))⟩
 f13 := ⟨Tryz.f308.name, by decide, Tryz.func308.trans (congrArg some (by kernel_rfl))⟩
 f14 := ⟨Tryz.f309.name, by decide, Tryz.func309.trans (congrArg some (by kernel_rfl))⟩
 f15 := ⟨Tryz.f310.name, by decide, Tryz.func310.trans (congrArg some (by kernel_rfl))⟩
 f16 := ⟨Tryz.f311.name, by decide, Tryz.func311.trans (congrArg some (by kernel_rfl))⟩
 f17 := ⟨Tryz.f312.name, by decide, Tryz.func312.trans (congrArg some (by kernel_rfl))⟩
 f18 := ⟨Tryz.f313.name, by decide, Tryz.func313.trans (congrArg some (by kernel_rfl))⟩
 f19 := Tryz.func275.trans (congrArg some (by kernel_rfl))
 f20 := Tryz.func276.trans (congrArg some (by kernel_rfl))
 f30 := ⟨Tryz.f322.name, by decide, Tryz.func322.trans (congrArg some (by kernel_rfl))⟩
 f31 := Tryz.func299.trans (congrArg some (by kernel_rfl))
 f32 := Tryz.func300.trans (congrArg some (by kernel_rfl))
 f33 := ⟨Tryz.f323.name, by decide, Tryz.func323.trans (congrArg some (by kernel_rfl))⟩
 f34 := ⟨Tryz.f324.name, by decide, Tryz.func324.trans (congrArg some (by kernel_rfl))⟩
 f35 := ⟨Tryz.f325.name, by decide, Tryz.func325.trans (congrArg some (by kernel_rfl))⟩
 f40 := ⟨Tryz.f327.name, by decide, Tryz.func327.trans (congrArg some (by kernel_rfl))⟩
 t0 := Tryz.underlying0
 a0 := Tryz.isAgg0
 z0 := Tryz.sizeOf0
 v0 := Tryz.zeroValue0
 t3 := Tryz.underlying3
 a3 := Tryz.isAgg3
 z3 := Tryz.sizeOf3
 v3 := Tryz.zeroValue3
 t4 := Tryz.underlying4
 a4 := Tryz.isAgg4
 z4 := Tryz.sizeOf4
 v4 := Tryz.zeroValue4
 t5 := Tryz.underlying5
 a5 := Tryz.isAgg5
 z5 := Tryz.sizeOf5
 v5 := Tryz.zeroValue5
 t9 := Tryz.underlying9
 a9 := Tryz.isAgg9
 z9 := Tryz.sizeOf9
 v9 := Tryz.zeroValue9
 t22 := Tryz.underlying121
 a22 := Tryz.isAgg121
 z22 := Tryz.sizeOf121
 v22 := Tryz.zeroValue121
 t23 := Tryz.underlying121
 a23 := Tryz.isAgg121
 z23 := Tryz.sizeOf121
 v23 := Tryz.zeroValue121
 t25 := Tryz.underlying3
 a25 := Tryz.isAgg3
 z25 := Tryz.sizeOf3
 v25 := Tryz.zeroValue3
 t32 := Tryz.underlying268
 a32 := Tryz.isAgg268
 z32 := Tryz.sizeOf268
 v32 := Tryz.zeroValue268
 t35 := Tryz.underlying284
 a35 := Tryz.isAgg284
 z35 := Tryz.sizeOf284
 v35 := Tryz.zeroValue284
 t36 := Tryz.underlying285
 a36 := Tryz.isAgg285
 z36 := Tryz.sizeOf285
 v36 := Tryz.zeroValue285
 t41 := Tryz.underlying155
 a41 := Tryz.isAgg155
 z41 := Tryz.sizeOf155
 v41 := Tryz.zeroValue155
 t44 := Tryz.underlying292
 a44 := Tryz.isAgg292
 z44 := Tryz.sizeOf292
 v44 := Tryz.zeroValue292
 t46 := Tryz.underlying294
 a46 := Tryz.isAgg294
 z46 := Tryz.sizeOf294
 v46 := Tryz.zeroValue294
 t53 := Tryz.underlying309
 a53 := Tryz.isAgg309
 z53 := Tryz.sizeOf309
 v53 := Tryz.zeroValue309
 t57 := Tryz.underlying295
 a57 := Tryz.isAgg295
 z57 := Tryz.sizeOf295
 v57 := Tryz.zeroValue295
 t63 := Tryz.underlying323
 a63 := Tryz.isAgg323
 z63 := Tryz.sizeOf323
 v63 := Tryz.zeroValue323
 t64 := Tryz.underlying324
 a64 := Tryz.isAgg324
 z64 := Tryz.sizeOf324
 v64 := Tryz.zeroValue324 }
theorem Tryz.sortsA (m : Nat) : AnyZI.SortsIn Tryz.prog Tryz.sortedA_ren Fence.wide m :=
  ⟨fun blk off cap ss W hH hblk hsz => callsIn_wide.2 (AnyM.slices_Sort_int Tryz.sortA blk off cap ss W hH hblk hsz),
   fun p cap W => callsIn_wide.2 (AnyM.slices_Sort_int_none Tryz.sortA p cap W)⟩
end Go.Proofs
namespace Go.AI
open Go.RowKit Go.Maps Go.Sort Go.Shelf Go.Proofs
theorem sorted_call {H : Heap} {ob o : Nat} {es : List (AV × AV)} (h1 : H[ob]? = some (some [.mapr o])) (h2 : mapOf H (.mapr o) = some es) (h3 : okKeys es = true) (h4 : es.length <= 1073741824) :
    ACall Tryz.prog 196 [.fn (.func 246) [] [.ptr ob 0]] H fun v H' => v = .sl none ((isortI (intsOf es)).map (.int .i64)) /\ H' = H := by
  refine ⟨by kernel_rfl, fun F G w us hc => ?_⟩
  have hlen := hc.l.len
  obtain ⟨u, rfl⟩ : ∃ u, us = [u] := by
    match us, hlen with
    | [u], _ => exact ⟨u, rfl⟩
  have hx := hc.l.rel 0 _ _ rfl rfl
  cases hx with
  | fn _ _ _ fi ca k1 k2 k3 k4 =>
  obtain rfl : fi = #[] := by
    have : fi.size = 0 := k1.symm
    exact Array.eq_empty_of_size_eq_zero this
  obtain ⟨x, rfl⟩ : ∃ x, ca = #[x] := by
    have : ca.size = 1 := k2.symm
    exact ⟨ca[0], by apply Array.ext; · simp [this]
                     · intro i hi1 hi2; simp at hi2; subst hi2; rfl⟩
  have hp := k4 0 _ x rfl rfl
  cases hp with
  | ptr _ _ B hB hCE =>
  obtain ⟨C, E, hC⟩ := hCE
  obtain ⟨_, C', E', hC', hle, hrow⟩ := (hc.h.obj ob _ B h1 hB).of_cells hC
  rw [hC] at hC'
  cases hC'
  have h0 : C[0]? = some (C[0]'(by simp at hle; omega)) := Array.getElem?_eq_getElem _
  generalize C[0]'(by simp at hle; omega) = um at h0
  obtain ⟨_, hm, _⟩ := hrow 0 _ um rfl h0
  obtain ⟨b, D0, rfl, hown, hperm, hsz⟩ := map_owns (P := Tryz.prog) (k := Tryz.keysA_ren.t 26) (by kernel_rfl) hc hm h2 h3 (by unfold maxLen; omega)
  have hcell : w.cell? ⟨B, 0, none⟩ = some (.map (some b)) := by simp [World.cell?, hC, h0]
  have hseq : SeqGives Fence.wide 2 Tryz.prog 246 #[.pointer (some ⟨B, 0, none⟩)] encZ (fun ss => ss.Perm (intKeys D0)) (Maps.size D0) w :=
    AnyZI.keys_gives (ρ := Tryz.keysA_ren) { Tryz.keysA with } Fence.wide _ trivial rfl (by omega) B b es.length D0 w (Array.getElem?_eq_some_iff.1 hC).1 hcell hown
  have cS := AnyZI.sorted_in Tryz.sortedA Fence.wide 5 trivial trivial trivial trivial rfl (by omega) (Tryz.sortsA _) (enters_of Tryz.func245 (by kernel_rfl) rfl) 246 #[.pointer (some ⟨B, 0, none⟩)] trivial (enters_of Tryz.func246 (by kernel_rfl) rfl) _ _ (by rw [hsz]; unfold maxLen; omega) (by rw [hsz]; omega) _ hseq
  change CallsIn _ _ Tryz.prog 196 _ _ _ at cS
  refine (callsIn_wide (n := 5)).1 (cS.mono ?_)
  rintro e w' ⟨v, ss, rfl, hS, hrow2, hnil, hbel⟩
  have hs : ss.mergeSort (fun x y => decide (x <= y)) = isortI (intsOf es) := isortI_eq (hS.trans hperm)
  rw [hs] at hrow2
  have hl2 : ss.length = (isortI (intsOf es)).length := by rw [(hS.trans hperm).length_eq, (isortI_perm _).length_eq]
  rw [hl2] at hrow2
  obtain ⟨g, hg, hv⟩ := ints_rel hrow2
  exact ⟨v, rfl, KOut.below hc hbel hg ⟨rfl, rfl⟩ (hv G) (toks_owned rfl _)⟩
def srtOrc : Orc := fun f vs H => bif Nat.beq f 196 then
  match vs with
  | [.fn (.func s) [] [.ptr ob 0]] => bif Nat.beq s 246 then match H[ob]? with
   | some (some [.mapr o]) => match mapOf H (.mapr o) with
    | some es => bif okKeys es && Nat.ble es.length 1073741824 then some (.sl none ((isortI (intsOf es)).map (.int .i64)), H) else none
    | none => none
   | _ => none
   else none
  | _ => none
 else none
theorem srtOrc_ok : OrcOk Tryz.prog srtOrc := by
 intro f vs H v H' h
 unfold srtOrc at h
 cases hf : Nat.beq f 196 with
 | false => rw [hf] at h; cases h
 | true =>
  rw [hf] at h
  have := Nat.eq_of_beq_eq_true hf
  subst this
  dsimp only [cond_true] at h
  split at h
  ·rename_i s ob
   cases hs : Nat.beq s 246 with
   | false => rw [hs] at h; cases h
   | true =>
    rw [hs] at h
    have := Nat.eq_of_beq_eq_true hs
    subst this
    dsimp only [cond_true] at h
    split at h
    ·rename_i o h1
     split at h
     ·rename_i es h2
      cases h3 : (okKeys es && Nat.ble es.length 1073741824) with
      | false => rw [h3] at h; cases h
      | true =>
       rw [h3] at h
       cases h
       simp only [Bool.and_eq_true] at h3
       exact sorted_call h1 h2 h3.1 (Nat.le_of_ble_eq_true h3.2)
     ·cases h
    ·cases h
  ·cases h
end Go.AI
