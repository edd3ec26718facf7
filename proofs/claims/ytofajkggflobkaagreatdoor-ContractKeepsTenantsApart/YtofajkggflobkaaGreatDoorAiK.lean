/- 'ares': what an operation makes of its operands' abstract values and of the abstract objects; contracts of calls. -/
import Derived.Test.YtofajkggflobkaaGreatDoorAiJb
set_option linter.unusedSimpArgs false
set_option linter.unusedVariables false
namespace Go.AI
def chunk (ag : Bool) (sz : Nat) : Nat -> List AV -> List AV
 | 0,_ => []
 | k + 1,cs => (if ag = true then .agg (cs.take sz) else cs.headD .undef) :: chunk ag sz k (cs.drop sz)
theorem chunk_length (ag : Bool) (sz : Nat) : ∀ (k : Nat) (cs : List AV),(chunk ag sz k cs).length = k
 | 0,_ => rfl
 | k + 1,cs => by simp [chunk,chunk_length ag sz k]
theorem cells_scalar {c : AV} (h : c.scalar = true) : c.cells = [c]:=by cases c <;> first | rfl | cases h
theorem chunk_cells (ag : Bool) (sz : Nat) (hs : ag = true \/ sz = 1) : ∀ (k : Nat) (cs : List AV),k * sz <= cs.length -> (∀ c ∈ cs,c.scalar = true) ->
  cat (chunk ag sz k cs) = cs.take (k * sz) /\ ∀ e ∈ chunk ag sz k cs,e.cells.length = sz
 | 0,cs,_,_ => by simp [chunk,cat]
 | k + 1,cs,hk,hc => by
  have hk' : sz + k * sz <= cs.length:=by rw [Nat.add_mul] at hk; omega
  obtain ⟨h1,h2⟩:=chunk_cells ag sz hs k (cs.drop sz) (by simp; omega) fun c hm => hc c (List.mem_of_mem_drop hm)
  have hd : (if ag = true then AV.agg (cs.take sz) else cs.headD .undef).cells = cs.take sz /\ (cs.take sz).length = sz:=by
   refine ⟨?_,by simp; omega⟩
   by_cases ha : ag = true
   ·rw [if_pos ha]; rfl
   ·rw [if_neg ha]
    have h1 : sz = 1:=hs.resolve_left ha
    subst h1
    match cs,hk' with
    | c :: cs,_ => simpa using cells_scalar (hc c (by simp))
    | [],h => simp at h
  refine ⟨?_,fun e he => ?_⟩
  ·simp only [cat,chunk,List.flatMap_cons] at h1 ⊢
   rw [h1,hd.1,Nat.add_mul,Nat.one_mul,Nat.add_comm (k * sz) sz,List.take_add]
  ·simp only [chunk,List.mem_cons] at he
   rcases he with rfl | he
   ·rw [hd.1]; exact hd.2
   ·exact h2 e he
def callable (P : Program) (f : FuncId) : Bool :=
 match P.funcs[f]? with
 | some fn => !(fn.name == "runtime.NumGoroutine") && fn.body.isSome
 | none => false
def ACall (P : Program) (f : FuncId) (vs : List AV) (H : Heap) (R : AV -> Heap -> Prop) : Prop :=
 callable P f = true /\ ∀ (F : Nat -> Prop) (G : Gh) (w : World) (us : List Value),CRel F G vs H us w ->
  Calls P f us.toArray w fun e w' => ∃ u,e = .returned u /\ ∃ v H' G',R v H' /\ CRel F G' [v] H' [u] w' /\ Ext F G w G' w'
def YCall (P : Program) (o : Nat) (L : LoopRec) (ys : List AV) (H : Heap) (R : AV -> Heap -> Prop) : Prop :=
 ∀ (F : Nat -> Prop) (G : Gh) (w : World) (us : List Value) (b : Nat),CRel F G ys H us w -> G.obs[o]? = some b -> G.kind b = .loop L ->
  ∃ r : Loop,w.heap[b]? = some (.loop r) /\ us.length = r.params.size /\
   RoundIn Fence.wide 0 P b r.fn ((r.params.zip us.toArray).foldl (fun tmps (t,a) => tmps.setIfInBounds t a) r.tmps) r.assign r.body w fun e w' => ∃ u,e = .returned u /\ KOut F G w R u w'
theorem KOut.mono {F : Nat -> Prop} {G : Gh} {w : World} {R R' : AV -> Heap -> Prop} {u : Value} {w' : World} (h : KOut F G w R u w') (hr : ∀ v H',R v H' -> R' v H') : KOut F G w R' u w' :=
 let ⟨v,H',G',h1,h2,h3⟩:=h; ⟨v,H',G',hr _ _ h1,h2,h3⟩
theorem YCall.mono {P : Program} {o : Nat} {L : LoopRec} {ys : List AV} {H : Heap} {R R' : AV -> Heap -> Prop} (h : YCall P o L ys H R) (hr : ∀ v H',R v H' -> R' v H') : YCall P o L ys H R' :=
 fun F G w us b hc h1 h2 => let ⟨r,g1,g2,g3⟩:=h F G w us b hc h1 h2; ⟨r,g1,g2,RoundIn.mono g3 fun e w' he => let ⟨u,a,b⟩:=he; ⟨u,a,b.mono hr⟩⟩
def QCall (P : Program) (f : FuncId) (vs : List AV) (Q : AV -> Prop) : Prop:=∀ H,ACall P f vs H fun v H' => Q v /\ H' = H
def PCall (P : Program) (f : FuncId) (vs : List AV) (v : AV) : Prop:=QCall P f vs fun v' => v' = v
def hview (H : Heap) : Heap:=H.map (Option.map (List.map borrow1))
def RCall (P : Program) (f : FuncId) (vs : List AV) (H : Heap) (v : AV) : Prop:=∀ H2,hview H2 = hview H -> ACall P f vs H2 fun v' H' => v' = v /\ H' = H2
theorem ACall.mono {P : Program} {f : FuncId} {vs : List AV} {H : Heap} {R R' : AV -> Heap -> Prop} (h : ACall P f vs H R) (hr : ∀ v H',R v H' -> R' v H') : ACall P f vs H R' :=
 ⟨h.1,fun F G w us hc => Calls.mono (h.2 F G w us hc) fun e w' he => by
  obtain ⟨u,rfl,v,H',G',h1,h2,h3⟩:=he
  exact ⟨u,rfl,v,H',G',hr _ _ h1,h2,h3⟩⟩
def leafTys (P : Program) : Nat -> TypeId -> List TypeId
 | 0,t => [t]
 | d + 1,t => match P.underlying t with
  | some (.struct fs) => fs.toList.flatMap fun f => leafTys P d f.type
  | some (.array n e) => (List.replicate n (leafTys P d e)).flatten
  | _ => [t]
def constT (P : Program) (ty : Option TypeId) (v : Value) : AV :=
 match v with
 | .slice none 0 0 => .sl (nilOwn P ty) []
 | v => const1 v
def zeroAV (P : Program) (t : TypeId) : Option AV :=
 match (P.info? t).bind (·.zero) with
 | some (.agg cs) =>
  if (cs.toList.zipIdx.map fun (c,i) => constT P (leafTys P 20 t)[i]? c).all AV.scalar then some (.agg (cs.toList.zipIdx.map fun (c,i) => constT P (leafTys P 20 t)[i]? c)) else none
 | some z => if (constT P (some t) z).scalar then some (constT P (some t) z) else none
 | none => none
def nilZ (P : Program) (t : TypeId) : Bool:=match (P.info? t).bind (·.zero) with
 | some (.slice none 0 0) => true
 | _ => false
def fillAV (place : Nat -> Option (Nat × Nat)) (cells : List AV) : List Nat -> List AV -> Option (List AV)
 | [],[] => some cells
 | i :: is,v :: vs =>
  match place i with
  | some (off,size) => if v.isVal = true /\ v.cells.length = size /\ off + size <= cells.length then fillAV place (splice cells off v.cells) is vs else none
  | none => none
 | _,_ => none
def zeroOk (P : Program) (t : TypeId) : Bool :=
 match P.info? t with
 | some i => match i.zero with
  | some z => z.cells.size == i.size
  | none => false
 | none => false
def fieldsOk (P : Program) (fs : Array Field) : Bool:=fs.all fun f => (P.info? f.type).isSome
def fieldPlaces (P : Program) (fs : Array Field) : Array (Nat × Nat):=fs.map fun f => (f.offset,P.cellsOf f.type)
def isByte : AV -> Bool
 | .int .u8 _ => true
 | _ => false
def byteStr (es : List AV) : ByteArray:=⟨(es.map fun
 | .int _ n => UInt8.ofNat n.toNat
 | _ => 0).toArray⟩
def bounds3 (hasLo hasHi hasMax : Bool) (rest : List AV) : Option (Option Int × Option Int × Option Int) :=
 match hasLo,hasHi,hasMax,rest with
 | false,false,false,[] => some (none,none,none)
 | true,false,false,[.int _ l] => some (some l,none,none)
 | false,true,false,[.int _ h] => some (none,some h,none)
 | true,true,false,[.int _ l,.int _ h] => some (some l,some h,none)
 | false,true,true,[.int _ h,.int _ m] => some (none,some h,some m)
 | true,true,true,[.int _ l,.int _ h,.int _ m] => some (some l,some h,some m)
 | _,_,_,_ => none
def aslice (P : Program) (t : TypeId) (x : AV) (lo hi mx : Option Int) (R : AV -> Prop) : Prop :=
 match P.underlying t,x with
 | some .string,.str s =>
  mx = none /\ 0 <= lo.getD 0 /\ lo.getD 0 <= hi.getD s.size /\ hi.getD s.size <= s.size /\ R (.str (s.extract (lo.getD 0).toNat (hi.getD s.size).toNat))
 | some (.slice e),.sl own es =>
  0 <= lo.getD 0 /\ lo.getD 0 <= hi.getD es.length /\ hi.getD es.length <= es.length /\ (∀ x ∈ es,x.cells.length = P.cellsOf e) /\ (P.info? e).isSome = true /\
   match mx with
   | none => R (.sl (if hi.getD es.length = es.length then own else none) ((es.take (hi.getD es.length).toNat).drop (lo.getD 0).toNat))
   | some m => m = hi.getD es.length /\ 0 < P.cellsOf e /\ R (.sl (some (P.cellsOf e)) ((es.take (hi.getD es.length).toNat).drop (lo.getD 0).toNat))
 | some (.slice e),.msl ob off len sz =>
  (0 <= lo.getD 0 /\ lo.getD 0 <= hi.getD len /\ hi.getD len <= len /\ sz = P.cellsOf e /\ (P.info? e).isSome = true /\ mx = none /\ (lo.getD 0 = 0 \/ lo.getD 0 < len)) /\
   R (.msl ob (off + (lo.getD 0).toNat * sz) ((hi.getD len).toNat - (lo.getD 0).toNat) sz)
 | some (.slice e),.mslc ob off len sz c =>
  (0 <= lo.getD 0 /\ lo.getD 0 <= hi.getD len /\ hi.getD len <= c /\ sz = P.cellsOf e /\ (P.info? e).isSome = true /\ mx = none) /\
   R (if lo.getD 0 = c /\ 0 < lo.getD 0 then .sl none [] else .mslc ob (off + (lo.getD 0).toNat * sz) ((hi.getD len).toNat - (lo.getD 0).toNat) sz (c - (lo.getD 0).toNat))
 | some (.pointer ta),.cptr cs off => lo = none /\ hi = none /\ mx = none /\ match P.underlying ta with
   | some (.array n e) => P.cellsOf e = 1 /\ off + n <= cs.length /\ n <= 9223372036854775807 /\ R (.sl none ((cs.drop off).take n))
   | _ => False
 | some (.array n e),.cptr cs off => (lo = none /\ hi = none /\ mx = none) /\ P.cellsOf e = 1 /\ off + n <= cs.length /\ n <= 9223372036854775807 /\ R (.sl none ((cs.drop off).take n))
 | _,_ => False
def apslice (P : Program) (t : TypeId) (x : AV) (lo hi mx : Option Int) (H : Heap) (R : AV -> Prop) : Prop :=
 match P.underlying t,x with
 | some (.array n e),.ptr o off => (lo = none /\ hi = none /\ mx = none) /\ n <= 9223372036854775807 /\ (P.info? e).isSome = true /\
   match H[o]? with
   | some (some cs) => off + n * P.cellsOf e <= cs.length /\ R (.msl o off n (P.cellsOf e))
   | _ => False
 | some (.slice e),.sl _ _ => (lo = none /\ hi = some 0 /\ mx = some 0) /\ (P.info? e).isSome = true /\ R (.sl (some 0) [])
 | _,_ => False
def aggTy (P : Program) (t : TypeId) : Bool:=match P.underlying t with | some (.struct _) | some (.array _ _) => true | _ => false
def conj : List (Option Bool) -> Option Bool
 | [] => some true
 | a :: as => match a,conj as with
  | some x,some y => some (x && y)
  | _,_ => none
def aeqV (P : Program) : Nat -> TypeId -> AV -> AV -> Option Bool
 | 0,_,_,_ => none
 | d + 1,t,x,y => match P.underlying t,x,y with
  | some .bool,.bool a,.bool b => some (a == b)
  | some (.int _),.int k a,.int k' b => if k = k' then some (a == b) else none
  | some .string,.str a,.str b => some (a.toList == b.toList)
  | some (.struct fs), .agg xs, .agg ys => if P.stoodInHeld t = true then none else conj (fs.toList.map fun f => if f.name = "_" then none else
    match ldv P f.type xs f.offset,ldv P f.type ys f.offset with
    | some a,some b => aeqV P d f.type a b
    | _,_ => none)
  | some (.array n e),.agg xs,.agg ys => if (P.info? e).isSome = true then conj ((List.range n).map fun i =>
    match ldv P e xs (i * P.cellsOf e),ldv P e ys (i * P.cellsOf e) with
    | some a,some b => aeqV P d e a b
    | _,_ => none) else none
  | _,_,_ => none
def aeql (P : Program) (t : TypeId) (a b : AV) : Option Bool :=
 match P.underlying t,a,b with
 | some .bool,.bool x,.bool y => some (x == y)
 | some (.pointer _),.nilp,.nilp => some true
 | some (.pointer _),.ptr _ _,.nilp => some false
 | some (.pointer _),.nilp,.ptr _ _ => some false
 | some (.pointer _),.cptr _ _,.nilp => some false
 | some (.pointer _),.nilp,.cptr _ _ => some false
 | some _,.agg xs,.agg ys => if P.eqGuardType P.depth t = true then none else aeqV P 40 t (.agg xs) (.agg ys)
 | _,_,_ => none
def abinop (P : Program) (op : BinOp) (t : TypeId) (a b : AV) (R : AV -> Prop) : Prop :=
 match op,aeql P t a b with
 | .eql,some r => R (.bool r)
 | .neq,some r => R (.bool !r)
 | _,_ => abin op a b R
def nilSide : Operand -> Bool
 | .const (.slice none 0 0) => true
 | _ => false
def nilcmp (P : Program) (op : BinOp) (t : TypeId) (a : AV) (R : AV -> Prop) : Prop :=
 match P.underlying t with
 | some (.slice _) => match op,a with
  | .eql,.sl _ [] => R (.bool true) /\ R (.bool false)
  | .neq,.sl _ [] => R (.bool true) /\ R (.bool false)
  | .eql,.sl _ (_ :: _) => R (.bool false)
  | .neq,.sl _ (_ :: _) => R (.bool true)
  | .eql,.msl _ _ _ _ => R (.bool false)
  | .neq,.msl _ _ _ _ => R (.bool true)
  | _,_ => False
 | _ => False
def asrc (P : Program) (e : TypeId) (rd : Bool) (H : Heap) : AV -> Option (List AV)
 | .sl _ xs => some xs
 | .msl ob off len sz => match rd,H[ob]? with
  | true,some (some cs) => if off + len * sz <= cs.length /\ sz = P.cellsOf e /\ (aggTy P e = true \/ sz = 1) then some (chunk (aggTy P e) sz len ((cs.drop off).map borrow1)) else none
  | _,_ => none
 | _ => none
def aappend (P : Program) (e : TypeId) (mt ln : Bool) (H : Heap) (a : AV) (xs : List AV) (R : AV -> Heap -> Prop) : Prop :=
 (∀ x ∈ xs,x.cells.length = P.cellsOf e) /\ match mt,a with
  | false,.sl own es => own = some (P.cellsOf e) /\ (es.length + xs.length) * P.bytesOf e <= 140737488355328 /\ es.length + xs.length <= 9223372036854775807 /\ R (.sl (bif ln then none else some (P.cellsOf e)) (es ++ xs)) H
  | true,.msl ob off len sz => off = 0 /\ sz = P.cellsOf e /\ (len + xs.length) * P.bytesOf e <= 140737488355328 /\ len + xs.length <= 9223372036854775807 /\ match H[ob]? with
    | some (some cs) => cs.length = len * sz /\ cs.map borrow1 = cs /\ R (.msl H.length 0 (len + xs.length) (P.cellsOf e)) (H.set ob none ++ [some (cs ++ (cat xs).map borrow1)])
    | _ => False
  | true,.mslc ob off len sz _ => off = 0 /\ sz = P.cellsOf e /\ (len + xs.length) * P.bytesOf e <= 140737488355328 /\ len + xs.length <= 9223372036854775807 /\ match H[ob]? with
    | some (some cs) => cs.length = len * sz /\ cs.map borrow1 = cs /\ R (.msl H.length 0 (len + xs.length) (P.cellsOf e)) (H.set ob none ++ [some (cs ++ (cat xs).map borrow1)])
    | _ => False
  | true,.sl (some 0) [] => 0 < xs.length /\ xs.length * P.bytesOf e <= 140737488355328 /\ xs.length <= 9223372036854775807 /\ R (.msl H.length 0 xs.length (P.cellsOf e)) (H ++ [some ((cat xs).map borrow1)])
  | _,_ => False
def seenOf (l : List AV) : List Int:=l.filterMap fun v => match v with
 | .int .i64 i => some i
 | _ => none
def arange (P : Program) (t : TypeId) (H : Heap) (x : AV) (R : AV -> Heap -> Prop) : Prop :=
 match P.underlying t,x with
 | some .string,.str s => R (.it H.length) (H ++ [some (iterS s 0)])
 | some (.map _ _),.nilm => R (.it H.length) (H ++ [some [.nilm]])
 | some (.map _ _),.mapr o' => match mapOf H (.mapr o') with
  | some es => R (.it H.length) (H ++ [some (iterM o' es.length [])])
  | none => False
 | _,_ => False
def anext (str : Bool) (H : Heap) (o' : Nat) (R : AV -> Heap -> Prop) : Prop :=
 match str,H[o']? with
 | true,some (some [.str s,.int .i64 pos]) =>
  if pos.toNat < s.size then R (.tup [.bool true,.int .i64 pos.toNat,.int .i32 (Utf8.decode s pos.toNat).1]) (H.set o' (some (iterS s ((pos.toNat + (Utf8.decode s pos.toNat).2 : Nat) : Int))))
  else R (.tup [.bool false]) H
 | false,some (some [.nilm]) => R (.tup [.bool false]) H
 | false,some (some [.mapr m,.int .i64 since,.tup seen]) => match mapOf H (.mapr m) with
  | some es => since = es.length /\ ((∀ i,i < es.length -> (i : Int) ∈ seenOf seen) -> R (.tup [.bool false]) H) /\
    ∀ (i : Nat) (p : AV × AV),es[i]? = some p -> (i : Int) ∉ seenOf seen -> R (.tup [.bool true,p.1.borrow,p.2.borrow]) (H.set o' (some [.mapr m,.int .i64 since,.tup (seen ++ [.int .i64 i])]))
  | none => False
 | _,_ => False
def aentry (H : Heap) (o' : Nat) (R : AV -> Heap -> Prop) : Prop :=
 match H[o']? with
 | some (some [.mapr m,.int .i64 since,.tup seen]) => match mapOf H (.mapr m),seen.getLast? with
  | some es,some (.int .i64 i) => since = es.length /\ ∃ p,es[i.toNat]? = some p /\ R (.tup [p.1.borrow,p.2.borrow]) H
  | _,_ => False
 | _ => False
def csrc (P : Program) (e : TypeId) (H : Heap) (k : Nat) : AV -> Option (List AV)
 | .sl _ xs => if (∀ x ∈ xs,x.cells.length = P.cellsOf e) /\ k <= xs.length then some ((cat xs).take (k * P.cellsOf e)) else none
 | .msl ob off len sz => match H[ob]? with
  | some (some cs) => if off + k * sz <= cs.length /\ sz = P.cellsOf e /\ k <= len then some ((cs.drop off).take (k * sz)) else none
  | _ => none
 | .mslc ob off len sz _ => match H[ob]? with
  | some (some cs) => if off + k * sz <= cs.length /\ sz = P.cellsOf e /\ k <= len then some ((cs.drop off).take (k * sz)) else none
  | _ => none
 | _ => none
def slen : AV -> Option Nat
 | .sl _ xs => some xs.length
 | .msl _ _ len _ => some len
 | .mslc _ _ len _ _ => some len
 | _ => none
def crow : AV -> Option (Nat × Nat × Nat × Nat × Bool)
 | .msl ob off len sz => some (ob,off,len,sz,false)
 | .mslc ob off len sz _ => some (ob,off,len,sz,true)
 | _ => none
def acopy (P : Program) (t : TypeId) (a b : AV) (H : Heap) (R : AV -> Heap -> Prop) : Prop :=
 match P.underlying t,crow a,slen b with
 | some (.slice e),some (ob,off,len,sz,gr),some n => match H[ob]? with
  | some (some cs) => (sz = P.cellsOf e /\ (P.info? e).isSome = true /\ cs.map borrow1 = cs /\ off <= cs.length /\ (gr = true \/ off + Nat.min n len * sz <= cs.length)) /\ match csrc P e H (Nat.min n len) b with
   | some X => R (.int .i64 (Nat.min n len : Nat)) (H.set ob (some (cs.take off ++ X.map borrow1 ++ cs.drop (off + Nat.min n len * sz))))
   | none => False
  | _ => False
 | _,_,_ => False
def XFn (P : Program) (f : FuncId) : Prop := ∃ (fn : Func) (tS tR e : TypeId), P.funcs[f]? = some fn /\ (fn.name == "runtime.NumGoroutine") = false /\ fn.body.isNone = true /\ Extern.findNext fn = none /\
 Extern.find fn = some (Extern.SlicesOverlaps.overlaps #[tS,tS] #[tR]) /\ P.underlying tS = some (.slice e) /\ (P.info? e).isSome = true
def XCall (P : Program) (f : FuncId) (vs : List AV) (H : Heap) (v : AV) : Prop :=
 match vs with
 | [.msl ob _ _ _,.mslc ob2 _ len2 sz2 _] => ob ≠ ob2 /\ XFn P f /\ (∃ cs,H[ob]? = some (some cs)) /\ (∃ cs,H[ob2]? = some (some cs)) /\ 0 < len2 * sz2 /\ v = .bool false
 | _ => False
def zerosN (z : AV) (n : Nat) : List AV:=(List.range (n * z.cells.length)).map fun i => (z.cells[i % z.cells.length]?).getD .undef
def apz (P : Program) (t t' : TypeId) (mt : Bool) (a b : AV) (H : Heap) (R : AV -> Heap -> Prop) : Prop :=
 match mt,P.underlying t,P.underlying t',a,b with
 | true,some (.slice e),some (.int _),.mslc ob off len sz c,.int _ m => match H[ob]? with
  | some (some cs) => ∃ z,zeroAV P e = some z /\ (z.cells.length = P.cellsOf e /\ zeroOk P e = true /\ 0 < P.cellsOf e /\ sz = P.cellsOf e /\ off + len * sz <= cs.length /\ 0 < m /\ (c : Int) < len + m /\
    (len + m.toNat) * P.bytesOf e <= 140737488355328 /\ len + m.toNat <= 9223372036854775807) /\ R (.msl H.length 0 (len + m.toNat) (P.cellsOf e)) (H ++ [some (((cs.drop off).take (len * sz)).map borrow1 ++ (zerosN z m.toNat).map borrow1)])
  | _ => False
 | _,_,_,_,_ => False
def ares (P : Program) (h : Hint) (o : Oper) (vals : List AV) (H : Heap) (R : AV -> Heap -> Prop) : Prop :=
 match o.op,vals with
 | .move _,[a] => R a H
 | .assign _,[a] => R a H
 | .pick _ _ _,[.bool c,a,b] => R (if c = true then a else b) H
 | .box _ _,[a] => a.isVal = true /\ R (.ptr H.length 0) (H ++ [some a.cells])
 | .alloc e,[] => match o.dst.any h.mt.contains with
  | true => nilZ P e = true /\ R (.ptr H.length 0) (H ++ [some [.sl (some 0) []]])
  | false => ∃ z,zeroAV P e = some z /\ R (.ptr H.length 0) (H ++ [some z.cells])
 | .build t ps,vs =>
  match P.underlying t with
  | some (.struct fs) => ∃ z cs,fieldsOk P fs = true /\ zeroAV P t = some (.agg z) /\ fillAV ((fieldPlaces P fs)[·]?) z (ps.toList.map (·.1)) vs = some cs /\ R (.agg cs) H
  | some (.array _ e) => ∃ z cs,(P.info? e).isSome = true /\ zeroAV P t = some (.agg z) /\ fillAV (fun i => some (i * P.cellsOf e,P.cellsOf e)) z (ps.toList.map (·.1)) vs = some cs /\ R (.agg cs) H
  | _ => False
 | .buildSlice t len ps,vs =>
  match P.underlying t with
  | some (.slice e) => 0 < P.cellsOf e /\ len * P.cellsOf e <= 16777216 /\ ps.toList.map (·.1) = List.range len /\ (∀ v ∈ vs,v.isVal = true /\ v.cells.length = P.cellsOf e) /\ zeroOk P e = true /\
    match o.dst.any h.mt.contains with
    | true => R (.msl H.length 0 len (P.cellsOf e)) (H ++ [some (cat (vs.map AV.borrow))])
    | false => R (.sl (some (P.cellsOf e)) (vs.map AV.borrow)) H
  | _ => False
 | .makeSlice t _ _,[.int _ n,.int _ c] =>
  match P.underlying t with
  | some (.slice e) => n = c /\ 0 <= n /\ n * P.bytesOf e <= 140737488355328 /\ n <= 9223372036854775807 /\ (P.info? e).isSome = true /\ ∃ z,zeroAV P e = some z /\ z.cells.length = P.cellsOf e /\ 0 < P.cellsOf e /\
    R (.msl H.length 0 n.toNat (P.cellsOf e)) (H ++ [some (List.replicate n.toNat z.cells).flatten])
  | _ => False
 | .load t _,[.ptr ob off] =>
  match H[ob]? with
  | some (some cs) => match ldv P t cs off with
   | some v => match o.dst.any h.tk.contains with
    | true => v.owned = true /\ v.scalar = true /\ R v (H.set ob (some (splice cs off (v.cells.map borrow1))))
    | false => R v.borrow H
   | none => False
  | _ => False
 | .load t _,[.cptr cs off] =>
  match ldv P t cs off with
  | some v => R v.borrow H
  | none => False
 | .store t _ _,[.ptr ob off,v] =>
  match H[ob]? with
  | some (some cs) => v.isVal = true /\ v.cells.length = P.cellsOf t /\ 0 < P.cellsOf t /\ off + P.cellsOf t <= cs.length /\ R .undef (H.set ob (some (splice cs off v.cells)))
  | _ => False
 | .nilCheck _,[.ptr ob off] => R (.ptr ob off) H
 | .nilCheck _,[.cptr cs off] => R (.cptr cs off) H
 | .nilCheck _,[.fn (.func f) a b] => R (.fn (.func f) a b) H
 | .nilCheck _,[.yld o' L] => R (.yld o' L) H
 | .binOp op t _ y _,[a,b] => match nilSide y with
  | true => nilcmp P op t a fun v => R v H
  | false => abinop P op t a b fun v => R v H
 | .unOp op _ _,[a] =>
  match op,a with
  | .neg,.int k n => R (.int k (k.wrap (0 - n))) H
  | .not,.bool b => R (.bool !b) H
  | _,_ => False
 | .convert src dst _,[a] =>
  match P.underlying src,P.underlying dst,a with
  | some _,some (.int k),.int _ n => R (.int k (k.wrap n)) H
  | some .string,some .string,.str s => R (.str s) H
  | some (.slice e),some .string,.sl _ es => P.underlying e = some (.int .u8) /\ (∀ x ∈ es,isByte x = true) /\ R (.str (byteStr es)) H
  | _,_,_ => False
 | .makeFunc fn first _,vs => R (.fn fn (vs.take first.size) (vs.drop first.size)) H
 | .slice t _ lo hi mx,x :: rest =>
  match bounds3 lo.isSome hi.isSome mx.isSome rest with
  | some (l,hh,m) => match o.dst.any h.mt.contains with
   | true => apslice P t x l hh m H fun v => R v H
   | false => aslice P t x l hh m fun v => R v H
  | none => False
 | .fieldAddr s _ f,[x] =>
  match P.underlying s with
  | some (.struct fs) => match fs[f]? with
   | some fd => 0 < P.cellsOf fd.type /\ match x with
    | .ptr ob off => R (.ptr ob (off + fd.offset)) H
    | .cptr cs off => R (.cptr cs (off + fd.offset)) H
    | _ => False
   | none => False
  | _ => False
 | .field t _ f,[.agg cs] =>
  match P.underlying t with
  | some (.struct fs) => match fs[f]? with
   | some fd => match ldv P fd.type cs fd.offset with
    | some v => R v H
    | none => False
   | none => False
  | _ => False
 | .extract _ i,[.tup vs] => ∃ v,vs[i]? = some v /\ R v H
 | .indexAddr t _ _,[x,.int _ i] =>
  match P.underlying t,x with
  | some (.slice e),.sl _ es => 0 <= i /\ ∃ v,es[i.toNat]? = some v /\ v.cells.length = P.cellsOf e /\ 0 < P.cellsOf e /\ R (.cptr v.cells 0) H
  | some (.slice e),.msl ob off len sz => 0 <= i /\ i < len /\ sz = P.cellsOf e /\ 0 < sz /\ R (.ptr ob (off + i.toNat * sz)) H
  | some (.array n e),.ptr ob off => 0 <= i /\ i < n /\ 0 < P.cellsOf e /\ R (.ptr ob (off + i.toNat * P.cellsOf e)) H
  | some (.array n e),.cptr cs off => 0 <= i /\ i < n /\ 0 < P.cellsOf e /\ R (.cptr cs (off + i.toNat * P.cellsOf e)) H
  | _,_ => False
 | .index t _ _,[x,.int _ i] =>
  match P.underlying t,x with
  | some .string,.str s => 0 <= i /\ i < s.size /\ R (.int .u8 ((s.data[i.toNat]?).getD 0).toNat) H
  | some (.array n e),.agg cs => 0 <= i /\ i < n /\ 0 < P.cellsOf e /\ ∃ v,ldv P e cs (i.toNat * P.cellsOf e) = some v /\ R v H
  | _,_ => False
 | .makeMap _ none,[] => R (.mapr H.length) (H ++ [some (mapc [])])
 | .makeMap t (some _),[.int _ _] => (match P.underlying t with | some (.map _ _) => true | _ => false) = true /\ R (.mapr H.length) (H ++ [some (mapc [])])
 | .lookup t _ _ ok,[m,k] =>
  match P.underlying t with
  | some (.map kt et) => match mapOf H m with
   | some es => keysIn P kt (k :: es.map (·.1)) /\ distK es /\ ∃ z,zeroAV P et = some z /\ R (lkres ok z (afind k es 0)) H
   | none => False
  | _ => False
 | .mapUpdate t _ _ _,[.mapr o',k,v] =>
  match P.underlying t with
  | some (.map kt _) => match mapOf H (.mapr o') with
   | some es => keysIn P kt (k :: es.map (·.1)) /\ distK es /\ v.isVal = true /\ R .undef (H.set o' (some (mapc (mapUpd es k v))))
   | none => False
  | _ => False
 | .range t _,[x] => arange P t H x R
 | .next _ str,[.it o'] => anext str H o' R
 | .entry _,[.it o'] => aentry H o' R
 | .call c,vs =>
  match c.callee with
  | .builtin .len => match vs with
   | [x] => match c.argTypes[0]?.bind P.underlying,x with
    | some (.slice _),.sl _ es => R (.int .i64 es.length) H
    | some (.slice _),.msl _ _ len _ => R (.int .i64 len) H
    | some (.slice _),.mslc _ _ len _ _ => R (.int .i64 len) H
    | some .string,.str s => R (.int .i64 s.size) H
    | some (.array n _),_ => R (.int .i64 n) H
    | _,_ => False
   | _ => False
  | .builtin .cap => match vs with
   | [.mslc _ _ _ _ cp] => match c.argTypes[0]?.bind P.underlying with
    | some (.slice _) => R (.int .i64 cp) H
    | _ => False
   | _ => False
  | .builtin .copy => match vs,c.argTypes.toList with
   | [a,b],[t,_] => acopy P t a b H R
   | _,_ => False
  | .builtin .clear => match vs,c.argTypes.toList with
   | [.msl ob off len sz],[t] => match P.underlying t with
    | some (.slice e) => match H[ob]? with
     | some (some cs) => ∃ z,zeroAV P e = some z /\ sz = z.cells.length /\ 0 < len /\ off + len * sz <= cs.length /\ R (.tup []) (H.set ob (some (splice cs off (zerosN z len))))
     | _ => False
    | _ => False
   | _,_ => False
  | .builtin .append => match vs,c.argTypes.toList with
   | [a,b],[t,t'] => if t = t' then match P.underlying t with
    | some (.slice e) => 0 < P.cellsOf e /\ zeroOk P e = true /\ match asrc P e (o.dst.any h.mt.contains || o.dst.any h.tk.contains) H b with
     | some xs => aappend P e (o.dst.any h.mt.contains) (o.dst.any h.pc.contains) H a xs R
     | none => False
    | _ => False
    else apz P t t' (o.dst.any h.mt.contains) a b H R
   | _,_ => False
  | .builtin .min => match vs with
   | [.int k a,.int k' b] => k = k' /\ R (.int k (if b < a then b else a)) H
   | _ => False
  | .builtin .max => match vs with
   | [.int k a,.int k' b] => k = k' /\ R (.int k (if b > a then b else a)) H
   | _ => False
  | .value _ => match vs with
   | .fn (.func f) first captured :: args => match o.dst.any h.pc.contains with
    | true => match o.dst.any h.mt.contains with
     | true => ∃ v,(RCall P f (first.map AV.borrow ++ args ++ captured.map AV.borrow) H v \/ XCall P f (first.map AV.borrow ++ args ++ captured.map AV.borrow) H v) /\ R v H
     | false => ∃ v,PCall P f (first.map AV.borrow ++ args ++ captured.map AV.borrow) v /\ R v H
    | false => match o.dst.any h.mt.contains with
     | true => ∃ v ext,ACall P f (first.map AV.borrow ++ args ++ captured.map AV.borrow) H (fun v2 H2 => v2 = v /\ H2 = H ++ ext) /\ R v (H ++ ext)
     | false => ACall P f (first.map AV.borrow ++ args ++ captured.map AV.borrow) H R
   | .yld o' L :: args => (o.dst.any h.pc.contains = false /\ o.dst.any h.mt.contains = false) /\ YCall P o' L args H R
   | _ => False
  | _ => False
 | _,_ => False
def taking (h : Hint) (o : Oper) : Bool :=
 match o.op with
 | .move _ => o.dst.any h.tk.contains
 | .assign _ | .box _ _ | .build _ _ | .store _ _ _ | .slice _ _ _ _ _ => true
 | .call c => match c.callee with
  | .builtin .append => true
  | .value _ => true
  | _ => false
 | _ => false
def opTy (o : Oper) : Option TypeId :=
 match o.op with
 | .move _ | .assign _ => some o.type
 | .store t _ _ => some t
 | _ => none
end Go.AI
