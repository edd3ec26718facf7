/- The abstract walk as rewriting: numbers, lists, literals, calls. -/
import Derived.Test.YtofajkggflobkaaGreatDoorAizb
set_option linter.unusedSimpArgs false
set_option linter.unusedVariables false
namespace Go.AI
def binK (P : Program) (op : BinOp) (t : TypeId) (a b : AV) (d : Tmp) (K : Kt) (e : Env) (H : Heap) : Prop:=abinop P op t a b fun v => K ((d,v) :: e) H
def isSl (P : Program) (t : TypeId) : Bool:=match P.underlying t with | some (.slice _) => true | _ => false
def nilK (P : Program) (op : BinOp) (t : TypeId) (a : AV) (d : Tmp) (K : Kt) (e : Env) (H : Heap) : Prop:=nilcmp P op t a fun v => K ((d,v) :: e) H
def binN (P : Program) (op : BinOp) (t : TypeId) (z : Bool) (a b : AV) (d : Tmp) (K : Kt) (e : Env) (H : Heap) : Prop :=
 match z with
 | true => nilK P op t a d K e H
 | false => binK P op t a b d K e H
def vIndexAddr (P : Program) (u : Option TypeDesc) (x : AV) (i : AV) : Option AV :=
 match i with
 | .int _ i => match u,x with
  | some (.slice e),.sl _ es => if 0 <= i then (es[i.toNat]?).bind fun v => if v.cells.length = P.cellsOf e /\ 0 < P.cellsOf e then some (.cptr v.cells 0) else none else none
  | some (.slice e),.msl ob off len sz => if 0 <= i /\ i < len /\ sz = P.cellsOf e /\ 0 < sz then some (.ptr ob (off + i.toNat * sz)) else none
  | some (.array n e),.ptr ob off => if 0 <= i /\ i < n /\ 0 < P.cellsOf e then some (.ptr ob (off + i.toNat * P.cellsOf e)) else none
  | some (.array n e),.cptr cs off => if 0 <= i /\ i < n /\ 0 < P.cellsOf e then some (.cptr cs (off + i.toNat * P.cellsOf e)) else none
  | _,_ => none
 | _ => none
def vIndex (P : Program) (u : Option TypeDesc) (x : AV) (i : AV) : Option AV :=
 match i with
 | .int _ i => match u,x with
  | some .string,.str s => if 0 <= i /\ i < s.size then some (.int .u8 ((s.data[i.toNat]?).getD 0).toNat) else none
  | some (.array n e),.agg cs => if 0 <= i /\ i < n /\ 0 < P.cellsOf e then ldv P e cs (i.toNat * P.cellsOf e) else none
  | _,_ => none
 | _ => none
def apnK (P : Program) (el : TypeId) (mt ln : Bool) (H : Heap) (a : AV) (xs : List AV) (d : Tmp) (K : Kt) (e : Env) : Prop:=aappend P el mt ln H a xs fun v H' => K ((d,v) :: e) H'
def apsK (P : Program) (el : TypeId) (mt ln : Bool) (xs : Option (List AV)) (a : AV) (d : Tmp) (K : Kt) (e : Env) (H : Heap) : Prop :=
 match xs with
 | some xs => apnK P el mt ln H a xs d K e
 | none => False
def appK (P : Program) (mt tk ln : Bool) (t : TypeId) (vs : List AV) (d : Tmp) (K : Kt) (e : Env) (H : Heap) : Prop :=
 match vs with
 | [a,b] => match P.underlying t with
  | some (.slice el) => 0 < P.cellsOf el /\ zeroOk P el = true /\ apsK P el mt ln (asrc P el (mt || tk) H b) a d K e H
  | _ => False
 | _ => False
def DCallK (P : Program) (f : FuncId) (vs : List AV) (d : Option Tmp) (K : Kt) (e : Env) (H : Heap) : Prop:=∃ v ext,ACall P f vs H (fun v2 H2 => v2 = v /\ H2 = H ++ ext) /\ K (put d v e) (H ++ ext)
def RCallK (P : Program) (f : FuncId) (vs : List AV) (d : Option Tmp) (K : Kt) (e : Env) (H : Heap) : Prop:=∃ v,(RCall P f vs H v \/ XCall P f vs H v) /\ K (put d v e) H
def YCallK (P : Program) (o : Nat) (L : LoopRec) (vs : List AV) (d : Option Tmp) (K : Kt) (e : Env) (H : Heap) : Prop:=YCall P o L vs H fun v H' => K (put d v e) H'
theorem YCallK.intro {P : Program} {o : Nat} {L : LoopRec} {vs : List AV} {d : Option Tmp} {K : Kt} {e : Env} {H : Heap} {R : AV -> Heap -> Prop} (hc : YCall P o L vs H R) (hk : ∀ v H',R v H' -> K (put d v e) H') : YCallK P o L vs d K e H:=hc.mono hk
def callK (P : Program) (pc mt : Bool) (vs : List AV) (d : Option Tmp) (K : Kt) (e : Env) (H : Heap) : Prop :=
 match vs with
 | .fn (.func f) first captured :: args => match pc with
  | true => match mt with
   | true => RCallK P f (first.map AV.borrow ++ args ++ captured.map AV.borrow) d K e H
   | false => PCallK P f (first.map AV.borrow ++ args ++ captured.map AV.borrow) d K e H
  | false => match mt with
   | true => DCallK P f (first.map AV.borrow ++ args ++ captured.map AV.borrow) d K e H
   | false => ACallK P f (first.map AV.borrow ++ args ++ captured.map AV.borrow) d K e H
 | .yld o L :: args => (pc = false /\ mt = false) /\ YCallK P o L args d K e H
 | _ => False
def vBuild (P : Program) (t : TypeId) (is : List Nat) (vs : List AV) : Option AV :=
 match P.underlying t with
 | some (.struct fs) => if fieldsOk P fs = true then match zeroAV P t with
  | some (.agg z) => (fillAV ((fieldPlaces P fs)[·]?) z is vs).map .agg
  | _ => none
  else none
 | some (.array _ e) => if (P.info? e).isSome = true then match zeroAV P t with
  | some (.agg z) => (fillAV (fun i => some (i * P.cellsOf e,P.cellsOf e)) z is vs).map .agg
  | _ => none
  else none
 | _ => none
def lstK (P : Program) (mt : Bool) (t len : Nat) (is : List Nat) (vs : List AV) (d : Tmp) (K : Kt) (e : Env) (H : Heap) : Prop :=
 match P.underlying t with
 | some (.slice el) => 0 < P.cellsOf el /\ len * P.cellsOf el <= 16777216 /\ is = List.range len /\ (∀ v ∈ vs,v.isVal = true /\ v.cells.length = P.cellsOf el) /\ zeroOk P el = true /\
   match mt with
   | true => K ((d,.msl H.length 0 len (P.cellsOf el)) :: e) (H ++ [some (cat (vs.map AV.borrow))])
   | false => K ((d,.sl (some (P.cellsOf el)) (vs.map AV.borrow)) :: e) H
 | _ => False
def sliceK (P : Program) (mt : Bool) (t : TypeId) (bl bh bm : Bool) (vs : List AV) (d : Tmp) (K : Kt) (e : Env) (H : Heap) : Prop :=
 match vs with
 | x :: rest => match bounds3 bl bh bm rest with
  | some (l,hh,m) => match mt with
   | true => apslice P t x l hh m H fun v => K ((d,v) :: e) H
   | false => aslice P t x l hh m fun v => K ((d,v) :: e) H
  | none => False
 | [] => False
def mmK (mn : Bool) (vs : List AV) (d : Tmp) (K : Kt) (e : Env) (H : Heap) : Prop :=
 match vs with
 | [.int k a,.int k' b] => k = k' /\ K ((d,.int k (if mn then (if b < a then b else a) else (if b > a then b else a))) :: e) H
 | _ => False
def convK (P : Program) (su du : Option TypeDesc) (x : AV) (d : Tmp) (K : Kt) (e : Env) (H : Heap) : Prop :=
 match su,du,x with
 | some _,some (.int k),.int _ m => K ((d,.int k (k.wrap m)) :: e) H
 | some .string,some .string,.str s => K ((d,.str s) :: e) H
 | some (.slice el),some .string,.sl _ es => P.underlying el = some (.int .u8) /\ (∀ x ∈ es,isByte x = true) /\ K ((d,.str (byteStr es)) :: e) H
 | _,_,_ => False
def mkK (P : Program) (t : TypeId) (vs : List AV) (d : Tmp) (K : Kt) (e : Env) (H : Heap) : Prop :=
 match vs with
 | [.int _ n,.int _ c] => match P.underlying t with
  | some (.slice el) => n = c /\ 0 <= n /\ n * P.bytesOf el <= 140737488355328 /\ n <= 9223372036854775807 /\ (P.info? el).isSome = true /\ ∃ z,zeroAV P el = some z /\ z.cells.length = P.cellsOf el /\ 0 < P.cellsOf el /\
    K ((d,.msl H.length 0 n.toNat (P.cellsOf el)) :: e) (H ++ [some (List.replicate n.toNat z.cells).flatten])
  | _ => False
 | _ => False
section
variable {P : Program} {n : Nat} {h : Hint} {ops : Array Oper} {K : Kt} {p : Tmp × AV} {e : Env} {H : Heap} {d : Tmp} {ty : TypeId} {ps : String} {af : Array Edge} {Q : Exit -> Kt}
@[go_sem] theorem aop_binOp (op : BinOp) (t t' : TypeId) (x y : Operand) : aop P n h ops ⟨some d,.binOp op t x y t',ty,ps,af,none⟩ K (p :: e) H =
  (d < n /\ binN P op t (nilSide y) (evo P none (p :: e) x).borrow (evo P none (p :: e) y).borrow d K (p :: e) H):=by
 rw [aop_none _ rfl]
 simp only [taking,opTy,Op.operands,evs_plain,List.map_cons,List.map_nil,ares,put,dstOk,binN]
 cases nilSide y <;> rfl
@[go_sem] theorem binN_f {op : BinOp} {t : TypeId} {a b : AV} : binN P op t false a b d K e H = binK P op t a b d K e H:=Eq.trans rfl rfl
@[go_sem] theorem binN_t {op : BinOp} {t : TypeId} {a b : AV} : binN P op t true a b d K e H = nilK P op t a d K e H:=Eq.trans rfl rfl
@[go_sem] theorem nilSide_tmp (t : Tmp) : nilSide (.tmp t) = false:=rfl
@[go_sem] theorem nilSide_int (k : IntKind) (m : Int) : nilSide (.const (.int k m)) = false:=rfl
@[go_sem] theorem nilSide_str (s : ByteArray) : nilSide (.const (.string s)) = false:=rfl
@[go_sem] theorem nilSide_nil : nilSide (.const (.slice none 0 0)) = true:=rfl
section
variable {t : TypeId}
theorem isSl_of (hp : isSl P t = true) : ∃ e,P.underlying t = some (.slice e):=by
 unfold isSl at hp
 split at hp
 ·exact ⟨_,‹_›⟩
 ·cases hp
@[go_sem] theorem nilK_eql_nil {o : Option Nat} (hp : isSl P t = true) : nilK P .eql t (.sl o []) d K e H = (K ((d,.bool true) :: e) H /\ K ((d,.bool false) :: e) H):=by
 obtain ⟨el,hu⟩:=isSl_of hp; simp [nilK,nilcmp,hu]
@[go_sem] theorem nilK_eql_cons {o : Option Nat} {x : AV} {xs : List AV} (hp : isSl P t = true) : nilK P .eql t (.sl o (x :: xs)) d K e H = K ((d,.bool false) :: e) H:=by
 obtain ⟨el,hu⟩:=isSl_of hp; simp [nilK,nilcmp,hu]
end
theorem aeql_int (t : TypeId) (k k' : IntKind) (x y : Int) : aeql P t (.int k x) (.int k' y) = none:=by
 unfold aeql; split <;> simp_all
theorem aeql_str (t : TypeId) (x y : ByteArray) : aeql P t (.str x) (.str y) = none:=by
 unfold aeql; split <;> simp_all
theorem binK_int {op : BinOp} {t : TypeId} {k k' : IntKind} {x y : Int} : binK P op t (.int k x) (.int k' y) d K e H = abin op (.int k x) (.int k' y) fun v => K ((d,v) :: e) H:=by
 unfold binK abinop
 rw [aeql_int]
 cases op <;> rfl
theorem binK_str {op : BinOp} {t : TypeId} {x y : ByteArray} : binK P op t (.str x) (.str y) d K e H = abin op (.str x) (.str y) fun v => K ((d,v) :: e) H:=by
 unfold binK abinop
 rw [aeql_str]
 cases op <;> rfl
section
variable {t : TypeId} {k : IntKind} {x y : Int}
@[go_sem] theorem binK_add : binK P .add t (.int k x) (.int k y) d K e H = K ((d,.int k (k.wrap (x + y))) :: e) H:=by rw [binK_int]; simp [abin]
@[go_sem] theorem binK_sub : binK P .sub t (.int k x) (.int k y) d K e H = K ((d,.int k (k.wrap (x - y))) :: e) H:=by rw [binK_int]; simp [abin]
@[go_sem] theorem binK_mul : binK P .mul t (.int k x) (.int k y) d K e H = K ((d,.int k (k.wrap (x * y))) :: e) H:=by rw [binK_int]; simp [abin]
@[go_sem] theorem binK_quo : binK P .quo t (.int k x) (.int k y) d K e H = (y ≠ 0 /\ K ((d,.int k (k.wrap (x.tdiv y))) :: e) H):=by rw [binK_int]; simp [abin]
@[go_sem] theorem binK_rem : binK P .rem t (.int k x) (.int k y) d K e H = (y ≠ 0 /\ K ((d,.int k (x.tmod y)) :: e) H):=by rw [binK_int]; simp [abin]
@[go_sem] theorem binK_eql : binK P .eql t (.int k x) (.int k y) d K e H = K ((d,.bool (x == y)) :: e) H:=by rw [binK_int]; simp [abin]
@[go_sem] theorem binK_neq : binK P .neq t (.int k x) (.int k y) d K e H = K ((d,.bool (x != y)) :: e) H:=by rw [binK_int]; simp [abin]
@[go_sem] theorem binK_lss : binK P .lss t (.int k x) (.int k y) d K e H = K ((d,.bool (decide (x < y))) :: e) H:=by rw [binK_int]; simp [abin]
@[go_sem] theorem binK_leq : binK P .leq t (.int k x) (.int k y) d K e H = K ((d,.bool (decide (x <= y))) :: e) H:=by rw [binK_int]; simp [abin]
@[go_sem] theorem binK_gtr : binK P .gtr t (.int k x) (.int k y) d K e H = K ((d,.bool (decide (y < x))) :: e) H:=by rw [binK_int]; simp [abin]
@[go_sem] theorem binK_geq : binK P .geq t (.int k x) (.int k y) d K e H = K ((d,.bool (decide (y <= x))) :: e) H:=by rw [binK_int]; simp [abin]
end
@[go_sem] theorem binK_seql {t : TypeId} {x y : ByteArray} : binK P .eql t (.str x) (.str y) d K e H = K ((d,.bool (x.toList == y.toList)) :: e) H:=by rw [binK_str]; simp [abin]
@[go_sem] theorem binK_sneq {t : TypeId} {x y : ByteArray} : binK P .neq t (.str x) (.str y) d K e H = K ((d,.bool !(x.toList == y.toList)) :: e) H:=by rw [binK_str]; simp [abin]
def isBool (P : Program) (t : TypeId) : Bool:=match P.underlying t with | some .bool => true | _ => false
@[go_sem] theorem binK_beql {t : TypeId} {x y : Bool} (hp : isBool P t = true) : binK P .eql t (.bool x) (.bool y) d K e H = K ((d,.bool (x == y)) :: e) H:=by
 unfold isBool at hp
 split at hp
 ·rename_i hu; simp [binK,abinop,aeql,hu]
 ·cases hp
@[go_sem] theorem binK_bneq {t : TypeId} {x y : Bool} (hp : isBool P t = true) : binK P .neq t (.bool x) (.bool y) d K e H = K ((d,.bool !(x == y)) :: e) H:=by
 unfold isBool at hp
 split at hp
 ·rename_i hu; simp [binK,abinop,aeql,hu]
 ·cases hp
@[go_sem] theorem aop_indexAddr (t : TypeId) (x i : Operand) : aop P n h ops ⟨some d,.indexAddr t x i,ty,ps,af,none⟩ K (p :: e) H =
  (d < n /\ bnd (vIndexAddr P (P.underlying t) (evo P none (p :: e) x).borrow (evo P none (p :: e) i).borrow) d K (p :: e) H):=by
 rw [aop_none _ rfl]
 simp only [taking,opTy,Op.operands,evs_plain,List.map_cons,List.map_nil,put,dstOk]
 congr 1
 generalize (evo P none (p :: e) x).borrow = a
 generalize (evo P none (p :: e) i).borrow = b
 unfold ares
 dsimp only
 cases b with
 | int k i =>
  dsimp only [vIndexAddr]
  cases hu : P.underlying t with
  | none => rfl
  | some dd => cases dd with
   | slice el => cases a with
    | sl own es =>
     dsimp only
     by_cases h0 : 0 <= i
     ·simp only [h0,true_and,if_true]
      cases hi : es[i.toNat]? with
      | none => simp [bnd]
      | some v =>
       by_cases hc : v.cells.length = P.cellsOf el /\ 0 < P.cellsOf el
       ·obtain ⟨h1,h2⟩:=hc
        simp only [Option.bind_some,h1,h2,and_self,if_true,bnd]
        simp [h1,h2]
       ·simp only [Option.bind_some,if_neg hc,bnd,eq_iff_iff,iff_false]
        rintro ⟨v',hv,h1,h2,_⟩
        cases hv
        exact hc ⟨h1,h2⟩
     ·simp [h0,bnd]
    | msl ob off len sz =>
     dsimp only
     by_cases hc : 0 <= i /\ i < len /\ sz = P.cellsOf el /\ 0 < sz
     ·rw [if_pos hc]; simp only [hc.1,hc.2.1,hc.2.2.1,hc.2.2.2,true_and,bnd]
      have:=hc.2.2.2
      rw [hc.2.2.1] at this
      simp [this]
     ·rw [if_neg hc]; simp only [bnd,eq_iff_iff,iff_false]
      rintro ⟨h1,h2,h3,h4,_⟩
      exact hc ⟨h1,h2,h3,h4⟩
    | _ => rfl
   | array m el => cases a with
    | ptr ob off =>
     dsimp only
     by_cases hc : 0 <= i /\ i < m /\ 0 < P.cellsOf el
     ·rw [if_pos hc]; simp only [hc.1,hc.2.1,hc.2.2,true_and,bnd]
     ·rw [if_neg hc]; simp only [bnd,eq_iff_iff,iff_false]
      rintro ⟨h1,h2,h3,_⟩
      exact hc ⟨h1,h2,h3⟩
    | cptr cs off =>
     dsimp only
     by_cases hc : 0 <= i /\ i < m /\ 0 < P.cellsOf el
     ·rw [if_pos hc]; simp only [hc.1,hc.2.1,hc.2.2,true_and,bnd]
     ·rw [if_neg hc]; simp only [bnd,eq_iff_iff,iff_false]
      rintro ⟨h1,h2,h3,_⟩
      exact hc ⟨h1,h2,h3⟩
    | _ => rfl
   | _ => cases a <;> rfl
 | _ => rfl
@[go_sem] theorem aop_index (t : TypeId) (x i : Operand) : aop P n h ops ⟨some d,.index t x i,ty,ps,af,none⟩ K (p :: e) H =
  (d < n /\ bnd (vIndex P (P.underlying t) (evo P none (p :: e) x).borrow (evo P none (p :: e) i).borrow) d K (p :: e) H):=by
 rw [aop_none _ rfl]
 simp only [taking,opTy,Op.operands,evs_plain,List.map_cons,List.map_nil,put,dstOk]
 congr 1
 generalize (evo P none (p :: e) x).borrow = a
 generalize (evo P none (p :: e) i).borrow = b
 unfold ares
 dsimp only
 cases b with
 | int k i =>
  dsimp only [vIndex]
  cases hu : P.underlying t with
  | none => rfl
  | some dd => cases dd with
   | string => cases a with
    | str s =>
     dsimp only
     by_cases hc : 0 <= i /\ i < s.size
     ·rw [if_pos hc]; simp only [hc.1,hc.2,true_and,bnd]
     ·rw [if_neg hc]; simp only [bnd,eq_iff_iff,iff_false]
      rintro ⟨h1,h2,_⟩
      exact hc ⟨h1,h2⟩
    | _ => rfl
   | array m el => cases a with
    | agg cs =>
     dsimp only
     by_cases hc : 0 <= i /\ i < m /\ 0 < P.cellsOf el
     ·rw [if_pos hc]; simp only [hc.1,hc.2.1,hc.2.2,true_and]
      cases ldv P el cs (i.toNat * P.cellsOf el) <;> simp [bnd]
     ·rw [if_neg hc]; simp only [bnd,eq_iff_iff,iff_false]
      rintro ⟨h1,h2,h3,_⟩
      exact hc ⟨h1,h2,h3⟩
    | _ => rfl
   | _ => cases a <;> rfl
 | _ => rfl
theorem list_eq_nil_append (xs : Array Operand) : ((#[] : Array Operand) ++ xs).toList = xs.toList:=by simp
@[go_sem] theorem aop_append (x y : Operand) (t : TypeId) : aop P n h ops ⟨some d,.call ⟨.builtin .append,#[x,y],#[t,t]⟩,ty,ps,af,none⟩ K (p :: e) H =
  (d < n /\ appK P (h.mt.contains d) (h.tk.contains d) (h.pc.contains d) t (tvals P [x,y] (p :: e)).1 d K (tvals P [x,y] (p :: e)).2 H):=by
 rw [aop_none _ rfl]
 simp only [taking,opTy,Op.operands,Call.operands,list_eq_nil_append,evs_take,put,dstOk]
 congr 1
 generalize hg : tvals P [x,y] (p :: e) = r
 unfold ares appK
 dsimp only
 generalize r.1 = vs
 cases vs with
 | nil => rfl
 | cons v vs => cases vs with
  | nil => rfl
  | cons v2 vs => cases vs with
   | nil =>
    dsimp only
    rw [if_pos rfl]
    cases P.underlying t with
    | none => rfl
    | some dd => cases dd <;> rfl
   | cons v3 vs => rfl
@[go_sem] theorem apsK_some (el : TypeId) (mt ln : Bool) (xs : List AV) (a : AV) : apsK P el mt ln (some xs) a d K e H = apnK P el mt ln H a xs d K e:=Eq.trans rfl rfl
@[go_sem] theorem asrc_sl (el : TypeId) (rd : Bool) (o : Option Nat) (xs : List AV) : asrc P el rd H (.sl o xs) = some xs:=rfl
theorem asrc_msl {el : TypeId} {ob off len sz : Nat} {cs : List AV} (ho : H[ob]? = some (some cs)) (h1 : off + len * sz <= cs.length) (h2 : sz = P.cellsOf el) (h3 : aggTy P el = true \/ sz = 1) : asrc P el true H (.msl ob off len sz) = some (chunk (aggTy P el) sz len ((cs.drop off).map borrow1)):=by
 simp only [asrc,ho]
 rw [if_pos ⟨h1,h2,h3⟩]
@[go_sem] theorem apnK_sl (el : TypeId) (ln : Bool) (o : Option Nat) (es xs : List AV) : apnK P el false ln H (.sl o es) xs d K e = ((∀ x ∈ xs,x.cells.length = P.cellsOf el) /\ o = some (P.cellsOf el) /\ (es.length + xs.length) * P.bytesOf el <= 140737488355328 /\ es.length + xs.length <= 9223372036854775807 /\ K ((d,.sl (bif ln then none else some (P.cellsOf el)) (es ++ xs)) :: e) H):=Eq.trans rfl rfl
def rowK (o : Option (Option (List AV))) (F : List AV -> Prop) : Prop:=match o with
 | some (some cs) => F cs
 | _ => False
@[go_sem] theorem rowK_some (cs : List AV) (F : List AV -> Prop) : rowK (some (some cs)) F = F cs:=Eq.trans rfl rfl
@[go_sem] theorem apnK_msl (el : TypeId) (ln : Bool) (ob off len sz : Nat) (xs : List AV) : apnK P el true ln H (.msl ob off len sz) xs d K e = ((∀ x ∈ xs,x.cells.length = P.cellsOf el) /\ off = 0 /\ sz = P.cellsOf el /\ (len + xs.length) * P.bytesOf el <= 140737488355328 /\ len + xs.length <= 9223372036854775807 /\
  rowK H[ob]? fun cs => cs.length = len * sz /\ cs.map borrow1 = cs /\ K ((d,.msl H.length 0 (len + xs.length) (P.cellsOf el)) :: e) (H.set ob none ++ [some (cs ++ (cat xs).map borrow1)])):=by
 unfold apnK aappend rowK
 rfl
@[go_sem] theorem apnK_mslc (el : TypeId) (ln : Bool) (ob off len sz c : Nat) (xs : List AV) : apnK P el true ln H (.mslc ob off len sz c) xs d K e = ((∀ x ∈ xs,x.cells.length = P.cellsOf el) /\ off = 0 /\ sz = P.cellsOf el /\ (len + xs.length) * P.bytesOf el <= 140737488355328 /\ len + xs.length <= 9223372036854775807 /\
  rowK H[ob]? fun cs => cs.length = len * sz /\ cs.map borrow1 = cs /\ K ((d,.msl H.length 0 (len + xs.length) (P.cellsOf el)) :: e) (H.set ob none ++ [some (cs ++ (cat xs).map borrow1)])):=by
 unfold apnK aappend rowK
 rfl
@[go_sem] theorem apnK_nil (el : TypeId) (ln : Bool) (xs : List AV) : apnK P el true ln H (.sl (some 0) []) xs d K e = ((∀ x ∈ xs,x.cells.length = P.cellsOf el) /\ 0 < xs.length /\ xs.length * P.bytesOf el <= 140737488355328 /\ xs.length <= 9223372036854775807 /\ K ((d,.msl H.length 0 xs.length (P.cellsOf el)) :: e) (H ++ [some ((cat xs).map borrow1)])):=Eq.trans rfl rfl
@[go_sem] theorem aop_call (f : Operand) (xs : Array Operand) (ts : Array TypeId) (dd : Option Tmp) : aop P n h ops ⟨dd,.call ⟨.value f,xs,ts⟩,ty,ps,af,none⟩ K (p :: e) H =
  (dstOk n dd /\ callK P (dd.any h.pc.contains) (dd.any h.mt.contains) (tvals P (f :: xs.toList) (p :: e)).1 dd K (tvals P (f :: xs.toList) (p :: e)).2 H):=by
 rw [aop_none _ rfl]
 have e1 : (#[f] ++ xs : Array Operand).toList = f :: xs.toList:=by simp
 simp only [taking,opTy,Op.operands,Call.operands,e1,evs_take]
 congr 1
@[go_sem] theorem aop_makeFunc (fn : Fn) (xs ys : Array Operand) : aop P n h ops ⟨some d,.makeFunc fn xs ys,ty,ps,af,none⟩ K (p :: e) H =
  (d < n /\ K ((d,.fn fn (xs.toList.map fun x => (evo P none (p :: e) x).borrow) (ys.toList.map fun x => (evo P none (p :: e) x).borrow)) :: p :: e) H):=by
 rw [aop_none _ rfl]
 simp only [taking,opTy,Op.operands,Array.toList_append,evs_plain,List.map_append,ares,put,dstOk]
 congr 3
 rw [show xs.size = (xs.toList.map fun x => (evo P none (p :: e) x).borrow).length by simp,List.take_left,List.drop_left]
theorem ex_bnd {z : List AV} {f : List AV -> Option (List AV)} : (∃ z' cs,some (AV.agg z) = some (AV.agg z') /\ f z' = some cs /\ K ((d,.agg cs) :: e) H) = bnd ((f z).map .agg) d K e H:=by
 cases hf : f z <;> simp [bnd,hf]
@[go_sem] theorem aop_build (t : TypeId) (qs : Array (Nat × Operand)) : aop P n h ops ⟨some d,.build t qs,ty,ps,af,none⟩ K (p :: e) H =
  (d < n /\ bnd (vBuild P t (qs.toList.map (·.1)) (tvals P (qs.toList.map (·.2)) (p :: e)).1) d K (tvals P (qs.toList.map (·.2)) (p :: e)).2 H):=by
 rw [aop_none _ rfl]
 simp only [taking,opTy,Op.operands,evs_take,put,dstOk]
 congr 1
 generalize hg : tvals P (qs.toList.map (·.2)) (p :: e) = r
 unfold ares vBuild
 dsimp only
 cases P.underlying t with
 | none => rfl
 | some dd => cases dd with
  | struct fs =>
   dsimp only
   by_cases hf : fieldsOk P fs = true
   ·simp only [hf,true_and,if_true]
    cases zeroAV P t with
    | none => simp [bnd]
    | some z => cases z with
     | agg z =>
      exact ex_bnd
     | _ => simp [bnd]
   ·simp [hf,bnd]
  | array m el =>
   dsimp only
   by_cases hf : (P.info? el).isSome = true
   ·simp only [hf,true_and,if_true]
    cases zeroAV P t with
    | none => simp [bnd]
    | some z => cases z with
     | agg z =>
      exact ex_bnd
     | _ => simp [bnd]
   ·simp [hf,bnd]
  | _ => rfl
@[go_sem] theorem aop_buildSlice (t len : Nat) (qs : Array (Nat × Operand)) : aop P n h ops ⟨some d,.buildSlice t len qs,ty,ps,af,none⟩ K (p :: e) H =
  (d < n /\ lstK P (h.mt.contains d) t len (qs.toList.map (·.1)) (qs.toList.map fun q => (evo P none (p :: e) q.2).borrow) d K (p :: e) H):=by
 rw [aop_none _ rfl]
 simp only [taking,opTy,Op.operands,evs_plain,put,dstOk]
 congr 1
 unfold ares lstK
 dsimp only
 rw [show ((qs.toList.map (·.2)).toArray.toList.map fun x => (evo P none (p :: e) x).borrow) = qs.toList.map fun q => (evo P none (p :: e) q.2).borrow by simp]
 cases P.underlying t with
 | none => rfl
 | some dd => cases dd <;> rfl
@[go_sem] theorem aop_slice (t : TypeId) (x : Operand) (lo hi mx : Option Operand) : aop P n h ops ⟨some d,.slice t x lo hi mx,ty,ps,af,none⟩ K (p :: e) H =
  (d < n /\ sliceK P (h.mt.contains d) t lo.isSome hi.isSome mx.isSome (tvals P (x :: (lo.toList ++ hi.toList ++ mx.toList)) (p :: e)).1 d K (tvals P (x :: (lo.toList ++ hi.toList ++ mx.toList)) (p :: e)).2 H):=by
 rw [aop_none _ rfl]
 have e1 : (#[x] ++ lo.toArray ++ hi.toArray ++ mx.toArray : Array Operand).toList = x :: (lo.toList ++ hi.toList ++ mx.toList):=by
  cases lo <;> cases hi <;> cases mx <;> simp
 simp only [taking,opTy,Op.operands,e1,evs_take,put,dstOk]
 congr 1
@[go_sem] theorem aop_min (x y : Operand) (ts : Array TypeId) : aop P n h ops ⟨some d,.call ⟨.builtin .min,#[x,y],ts⟩,ty,ps,af,none⟩ K (p :: e) H =
  (d < n /\ mmK true [(evo P none (p :: e) x).borrow,(evo P none (p :: e) y).borrow] d K (p :: e) H):=by
 rw [aop_none _ rfl]
 simp only [taking,opTy,Op.operands,Call.operands,list_eq_nil_append,evs_plain,List.map_cons,List.map_nil,put,dstOk]
 congr 1
@[go_sem] theorem aop_max (x y : Operand) (ts : Array TypeId) : aop P n h ops ⟨some d,.call ⟨.builtin .max,#[x,y],ts⟩,ty,ps,af,none⟩ K (p :: e) H =
  (d < n /\ mmK false [(evo P none (p :: e) x).borrow,(evo P none (p :: e) y).borrow] d K (p :: e) H):=by
 rw [aop_none _ rfl]
 simp only [taking,opTy,Op.operands,Call.operands,list_eq_nil_append,evs_plain,List.map_cons,List.map_nil,put,dstOk]
 congr 1
@[go_sem] theorem mmK_min (k : IntKind) (a b : Int) : mmK true [.int k a,.int k b] d K e H = K ((d,.int k (if b < a then b else a)) :: e) H:=by simp [mmK]
@[go_sem] theorem mmK_max (k : IntKind) (a b : Int) : mmK false [.int k a,.int k b] d K e H = K ((d,.int k (if b > a then b else a)) :: e) H:=by simp [mmK]
@[go_sem] theorem aop_convert (s t : TypeId) (x : Operand) : aop P n h ops ⟨some d,.convert s t x,ty,ps,af,none⟩ K (p :: e) H =
  (d < n /\ convK P (P.underlying s) (P.underlying t) (evo P none (p :: e) x).borrow d K (p :: e) H):=by
 rw [aop_none _ rfl]
 simp only [taking,opTy,Op.operands,evs_plain,List.map_cons,List.map_nil,put,dstOk]
 congr 1
@[go_sem] theorem aop_makeSlice (t : TypeId) (x y : Operand) : aop P n h ops ⟨some d,.makeSlice t x y,ty,ps,af,none⟩ K (p :: e) H =
  (d < n /\ mkK P t [(evo P none (p :: e) x).borrow,(evo P none (p :: e) y).borrow] d K (p :: e) H):=by
 rw [aop_none _ rfl]
 simp only [taking,opTy,Op.operands,evs_plain,List.map_cons,List.map_nil,put,dstOk]
 congr 1
 unfold ares mkK
 dsimp only
 cases (evo P none (p :: e) x).borrow <;> cases (evo P none (p :: e) y).borrow <;> rfl
def alcK (P : Program) (mt : Bool) (el : TypeId) (d : Tmp) (K : Kt) (e : Env) (H : Heap) : Prop:=match mt with
 | true => nilZ P el = true /\ K ((d,.ptr H.length 0) :: e) (H ++ [some [.sl (some 0) []]])
 | false => ∃ z,zeroAV P el = some z /\ K ((d,.ptr H.length 0) :: e) (H ++ [some z.cells])
@[go_sem] theorem alcK_f (el : TypeId) : alcK P false el d K e H = ∃ z,zeroAV P el = some z /\ K ((d,.ptr H.length 0) :: e) (H ++ [some z.cells]):=Eq.trans rfl rfl
@[go_sem] theorem alcK_t (el : TypeId) : alcK P true el d K e H = (nilZ P el = true /\ K ((d,.ptr H.length 0) :: e) (H ++ [some [.sl (some 0) []]])):=Eq.trans rfl rfl
@[go_sem] theorem aop_alloc (el : TypeId) : aop P n h ops ⟨some d,.alloc el,ty,ps,af,none⟩ K (p :: e) H =
  (d < n /\ alcK P (h.mt.contains d) el d K (p :: e) H):=by
 rw [aop_none _ rfl]
 have e1 : (#[] : Array Operand).toList = []:=rfl
 simp only [taking,opTy,Op.operands,e1,evs_plain,List.map_nil,put,dstOk]
 rfl
def clrK (P : Program) (t : TypeId) (x : AV) (K : Kt) (e : Env) (H : Heap) : Prop :=
 match x with
 | .msl ob off len sz => match P.underlying t with
  | some (.slice el) => match H[ob]? with
   | some (some cs) => ∃ z,zeroAV P el = some z /\ sz = z.cells.length /\ 0 < len /\ off + len * sz <= cs.length /\ K e (H.set ob (some (splice cs off (zerosN z len))))
   | _ => False
  | _ => False
 | _ => False
@[go_sem] theorem aop_clear (x : Operand) (t : TypeId) : aop P n h ops ⟨none,.call ⟨.builtin .clear,#[x],#[t]⟩,ty,ps,af,none⟩ K (p :: e) H =
  clrK P t (evo P none (p :: e) x).borrow K (p :: e) H:=by
 rw [aop_none _ rfl]
 simp only [taking,opTy,Op.operands,Call.operands,list_eq_nil_append,evs_plain,List.map_cons,List.map_nil,put,dstOk]
 rw [true_and]
 unfold ares clrK
 dsimp only
 generalize (evo P none (p :: e) x).borrow = v
 cases v <;> rfl
def capK (P : Program) (t : TypeId) (x : AV) (d : Tmp) (K : Kt) (e : Env) (H : Heap) : Prop :=
 match x with
 | .mslc _ _ _ _ c => match P.underlying t with
  | some (.slice _) => K ((d,.int .i64 c) :: e) H
  | _ => False
 | _ => False
@[go_sem] theorem aop_cap (x : Operand) (t : TypeId) : aop P n h ops ⟨some d,.call ⟨.builtin .cap,#[x],#[t]⟩,ty,ps,af,none⟩ K (p :: e) H =
  (d < n /\ capK P t (evo P none (p :: e) x).borrow d K (p :: e) H):=by
 rw [aop_none _ rfl]
 simp only [taking,opTy,Op.operands,Call.operands,list_eq_nil_append,evs_plain,List.map_cons,List.map_nil,put,dstOk]
 congr 1
 unfold ares capK
 dsimp only
 generalize (evo P none (p :: e) x).borrow = v
 cases v <;> rfl
def cpyK (P : Program) (t : TypeId) (a b : AV) (d : Tmp) (K : Kt) (e : Env) (H : Heap) : Prop:=acopy P t a b H fun v H' => K ((d,v) :: e) H'
@[go_sem] theorem aop_copy (x y : Operand) (t t' : TypeId) : aop P n h ops ⟨some d,.call ⟨.builtin .copy,#[x,y],#[t,t']⟩,ty,ps,af,none⟩ K (p :: e) H =
  (d < n /\ cpyK P t (evo P none (p :: e) x).borrow (evo P none (p :: e) y).borrow d K (p :: e) H):=by
 rw [aop_none _ rfl]
 simp only [taking,opTy,Op.operands,Call.operands,list_eq_nil_append,evs_plain,List.map_cons,List.map_nil,put,dstOk]
 congr 1
def apzK (P : Program) (t t' : TypeId) (mt : Bool) (vs : List AV) (d : Tmp) (K : Kt) (e : Env) (H : Heap) : Prop :=
 match vs with
 | [a,b] => apz P t t' mt a b H fun v H' => K ((d,v) :: e) H'
 | _ => False
@[go_sem] theorem aop_appendz (x y : Operand) (t t' : TypeId) (hn : (t == t') = false) : aop P n h ops ⟨some d,.call ⟨.builtin .append,#[x,y],#[t,t']⟩,ty,ps,af,none⟩ K (p :: e) H =
  (d < n /\ apzK P t t' (h.mt.contains d) (tvals P [x,y] (p :: e)).1 d K (tvals P [x,y] (p :: e)).2 H):=by
 rw [aop_none _ rfl]
 simp only [taking,opTy,Op.operands,Call.operands,list_eq_nil_append,evs_take,put,dstOk]
 congr 1
 generalize hg : tvals P [x,y] (p :: e) = r
 unfold ares apzK
 dsimp only
 generalize r.1 = vs
 cases vs with
 | nil => rfl
 | cons v vs => cases vs with
  | nil => rfl
  | cons v2 vs => cases vs with
   | nil =>
    dsimp only
    rw [if_neg (by simpa using hn)]
    rfl
   | cons v3 vs => rfl
theorem xK {f : FuncId} {vs : List AV} {dd : Option Tmp} {v : AV} (hc : XCall P f vs H v) (hk : K (put dd v e) H) : RCallK P f vs dd K e H:=⟨v,.inr hc,hk⟩
theorem cpyK_row {t el : TypeId} {a b : AV} {ob off len sz m : Nat} {gr : Bool} {cs X : List AV} (hu : P.underlying t = some (.slice el)) (hrow : crow a = some (ob,off,len,sz,gr)) (hm : slen b = some m) (ho : H[ob]? = some (some cs)) (h1 : sz = P.cellsOf el)
  (h2 : (P.info? el).isSome = true) (h3 : cs.map borrow1 = cs) (h4 : off <= cs.length) (h5 : gr = true \/ off + Nat.min m len * sz <= cs.length) (hs : csrc P el H (Nat.min m len) b = some X)
  (hk : K ((d,.int .i64 (Nat.min m len : Nat)) :: e) (H.set ob (some (cs.take off ++ X.map borrow1 ++ cs.drop (off + Nat.min m len * sz))))) : cpyK P t a b d K e H:=by
 unfold cpyK acopy
 simp only [hu,hrow,hm,ho,hs]
 exact ⟨⟨h1,h2,h3,h4,h5⟩,hk⟩
end
end Go.AI
