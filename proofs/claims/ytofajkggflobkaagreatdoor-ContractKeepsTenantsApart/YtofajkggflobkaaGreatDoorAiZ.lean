/- The abstract walk as rewriting: one equation for each kind of operation and of code, at a frame that is written out. What comes later stays closed until its turn. -/
import Derived.Test.YtofajkggflobkaaGreatDoorAiY
set_option linter.unusedSimpArgs false
set_option linter.unusedVariables false
namespace Go.AI
abbrev Kt:=Env -> Heap -> Prop
def tkd (x : Operand) (v : AV) (e : Env) : Env :=
 match v.owned,x with
 | true,.tmp t => (t,v.borrow) :: e
 | _,_ => e
def bnd (r : Option AV) (d : Tmp) (K : Kt) (e : Env) (H : Heap) : Prop :=
 match r with
 | some v => K ((d,v) :: e) H
 | none => False
def bndH (r : Option (AV × Heap)) (d : Option Tmp) (K : Kt) (e : Env) : Prop :=
 match r with
 | some (v,H) => K (put d v e) H
 | none => False
def gsel (c : AV) (b : Bool) (A B : Kt) (e : Env) (H : Heap) : Prop :=
 match c with
 | .bool c => if c = b then A e H else B e H
 | .tup _ => B e H
 | _ => False
def gthen (t : Option Tmp) (b : Bool) (A B : Kt) (e : Env) (H : Heap) : Prop :=
 match t with
 | some t => gsel (look e t) b A B e H
 | none => False
def skipK (n : Nat) (d : Option Tmp) (K : Kt) (e : Env) (H : Heap) : Prop:=dstOk n d /\ K (put d (.tup []) e) H
def condK (c : AV) (A B : Kt) (e : Env) (H : Heap) : Prop :=
 match c with
 | .bool t => if t = true then A e H else B e H
 | _ => False
def seqK (B : Kt) (Q : Exit -> Kt) (ex : Exit) : Kt:=fun e H =>
 match ex with
 | .normal => B e H
 | ex => Q ex e H
def blkK (id : Nat) (Q : Exit -> Kt) (ex : Exit) : Kt:=fun e H =>
 match ex with
 | .exit j => if j = id then Q .normal e H else Q (.exit j) e H
 | ex => Q ex e H
def frzK (zs : List (Tmp × Option Nat × Bool)) (Q : Exit -> Kt) : Kt:=fun e H => Q .normal (frzs zs e H).1 (frzs zs e H).2
def gcK (g : Option Nat) (Q : Exit -> Kt) (ex : Exit) : Kt:=fun e H =>
 match ex with
 | .normal => Q .normal e (gcut g e H)
 | ex => Q ex e H
def endK (live : List Tmp) (zs : List (Tmp × Option Nat × Bool)) (Q : Exit -> Kt) : Kt:=fun e H => frzK zs Q (clean live e) H
def vRead (P : Program) (t : TypeId) (a : AV) (H : Heap) : Option (AV × Heap) :=
 match a with
 | .ptr ob off => match H[ob]? with
  | some (some cs) => match ldv P t cs off with
   | some v => if v.owned = true then some (v,H.set ob (some (splice cs off (v.cells.map borrow1)))) else some (v.borrow,H)
   | none => none
  | _ => none
 | _ => none
def rdK (r : Option (AV × Heap)) (K : AV -> Heap -> Prop) : Prop :=
 match r with
 | some (v,H) => K v H
 | none => False
def PCallK (P : Program) (f : FuncId) (vs : List AV) (d : Option Tmp) (K : Kt) (e : Env) (H : Heap) : Prop:=∃ v,PCall P f vs v /\ K (put d v e) H
def ACallK (P : Program) (f : FuncId) (vs : List AV) (d : Option Tmp) (K : Kt) (e : Env) (H : Heap) : Prop:=ACall P f vs H fun v H' => K (put d v e) H'
section
variable {P : Program} {n : Nat} {h : Hint} {ops : Array Oper} {K : Kt} {p : Tmp × AV} {e : Env} {H : Heap} {d : Tmp} {ty : TypeId} {ps : String} {af : Array Edge} {Q : Exit -> Kt} {ar : Option Nat}
@[go_sem] theorem look_cons (t k : Tmp) (v : AV) : look ((k,v) :: e) t = if k = t then v else look e t:=rfl
@[go_sem] theorem look_nil (t : Tmp) : look [] t = .undef:=rfl
@[go_sem] theorem clean_nil : clean [] e = []:=rfl
@[go_sem] theorem clean_cons (t : Tmp) (l : List Tmp) : clean (t :: l) e = (t,look e t) :: clean l e:=rfl
@[go_sem] theorem put_some (v : AV) : put (some d) v e = (d,v) :: e:=rfl
@[go_sem] theorem dstOk_some : dstOk n (some d) = (d < n):=rfl
@[go_sem] theorem evo_tmp (o : Option TypeId) (t : Tmp) : evo P o e (.tmp t) = look e t:=rfl
@[go_sem] theorem evo_int (o : Option TypeId) (k : IntKind) (m : Int) : evo P o e (.const (.int k m)) = .int k m:=rfl
@[go_sem] theorem evo_bool (o : Option TypeId) (b : Bool) : evo P o e (.const (.bool b)) = .bool b:=rfl
@[go_sem] theorem evo_str (o : Option TypeId) (s : ByteArray) : evo P o e (.const (.string s)) = .str s:=rfl
@[go_sem] theorem evo_nilp (o : Option TypeId) : evo P o e (.const (.pointer none)) = .nilp:=rfl
@[go_sem] theorem evo_nilf (o : Option TypeId) : evo P o e (.const .nilFunc) = .nilf:=rfl
@[go_sem] theorem evo_nils (o : Option TypeId) : evo P o e (.const (.slice none 0 0)) = .sl (nilOwn P o) []:=rfl
@[go_sem] theorem evo_func (o : Option TypeId) (f : FuncId) : evo P o e (.func f) = .fn (.func f) [] []:=rfl
@[go_sem] theorem nilOwn_none : nilOwn P none = none:=rfl
@[go_sem] theorem nilOwn_some (t : TypeId) : nilOwn P (some t) = match P.underlying t with
  | some (.slice e) => some (P.cellsOf e)
  | _ => none:=rfl
@[go_sem] theorem owned_int (k : IntKind) (m : Int) : (AV.int k m).owned = false:=rfl
@[go_sem] theorem owned_bool (b : Bool) : (AV.bool b).owned = false:=rfl
@[go_sem] theorem owned_str (b : ByteArray) : (AV.str b).owned = false:=rfl
@[go_sem] theorem owned_nilp : AV.nilp.owned = false:=rfl
@[go_sem] theorem owned_ptr (a b : Nat) : (AV.ptr a b).owned = false:=rfl
@[go_sem] theorem owned_cptr (a : List AV) (b : Nat) : (AV.cptr a b).owned = false:=rfl
@[go_sem] theorem owned_sln (es : List AV) : (AV.sl none es).owned = false:=rfl
@[go_sem] theorem owned_sls (k : Nat) (es : List AV) : (AV.sl (some k) es).owned = true:=rfl
@[go_sem] theorem owned_msl (a b c k : Nat) : (AV.msl a b c k).owned = false:=rfl
@[go_sem] theorem owned_mslc (a b c k m : Nat) : (AV.mslc a b c k m).owned = false:=rfl
@[go_sem] theorem owned_fn (f : Fn) (a b : List AV) : (AV.fn f a b).owned = false:=rfl
@[go_sem] theorem owned_nilf : AV.nilf.owned = false:=rfl
@[go_sem] theorem owned_agg (cs : List AV) : (AV.agg cs).owned = cs.any owned1:=rfl
@[go_sem] theorem owned_tup (cs : List AV) : (AV.tup cs).owned = (cs.flatMap AV.cells).any owned1:=rfl
@[go_sem] theorem owned1_sln (es : List AV) : owned1 (AV.sl none es) = false:=rfl
@[go_sem] theorem owned1_int (k : IntKind) (m : Int) : owned1 (AV.int k m) = false:=rfl
@[go_sem] theorem owned1_bool (b : Bool) : owned1 (AV.bool b) = false:=rfl
@[go_sem] theorem owned1_msl (a b c k : Nat) : owned1 (AV.msl a b c k) = false:=rfl
@[go_sem] theorem borrow_int (k : IntKind) (m : Int) : (AV.int k m).borrow = .int k m:=rfl
@[go_sem] theorem borrow_bool (b : Bool) : (AV.bool b).borrow = .bool b:=rfl
@[go_sem] theorem borrow_str (b : ByteArray) : (AV.str b).borrow = .str b:=rfl
@[go_sem] theorem borrow_ptr (a b : Nat) : (AV.ptr a b).borrow = .ptr a b:=rfl
@[go_sem] theorem borrow_cptr (a : List AV) (b : Nat) : (AV.cptr a b).borrow = .cptr a b:=rfl
@[go_sem] theorem borrow_sl (o : Option Nat) (es : List AV) : (AV.sl o es).borrow = .sl none es:=rfl
@[go_sem] theorem borrow_msl (a b c k : Nat) : (AV.msl a b c k).borrow = .msl a b c k:=rfl
@[go_sem] theorem borrow_mslc (a b c k m : Nat) : (AV.mslc a b c k m).borrow = .mslc a b c k m:=rfl
@[go_sem] theorem borrow_fn (f : Fn) (a b : List AV) : (AV.fn f a b).borrow = .fn f a b:=rfl
@[go_sem] theorem borrow_agg (cs : List AV) : (AV.agg cs).borrow = .agg (cs.map borrow1):=rfl
@[go_sem] theorem borrow_tup (cs : List AV) : (AV.tup cs).borrow = .tup (cs.map borrow0):=rfl
@[go_sem] theorem borrow1_sl (o : Option Nat) (es : List AV) : borrow1 (AV.sl o es) = .sl none es:=rfl
@[go_sem] theorem borrow1_int (k : IntKind) (m : Int) : borrow1 (AV.int k m) = .int k m:=rfl
@[go_sem] theorem cells_agg (cs : List AV) : (AV.agg cs).cells = cs:=rfl
@[go_sem] theorem cells_int (k : IntKind) (m : Int) : (AV.int k m).cells = [.int k m]:=rfl
@[go_sem] theorem cells_bool (b : Bool) : (AV.bool b).cells = [.bool b]:=rfl
@[go_sem] theorem cells_str (b : ByteArray) : (AV.str b).cells = [.str b]:=rfl
@[go_sem] theorem cells_nilp : AV.nilp.cells = [.nilp]:=rfl
@[go_sem] theorem cells_ptr (a b : Nat) : (AV.ptr a b).cells = [.ptr a b]:=rfl
@[go_sem] theorem cells_sl (o : Option Nat) (es : List AV) : (AV.sl o es).cells = [.sl o es]:=rfl
@[go_sem] theorem cells_msl (a b c k : Nat) : (AV.msl a b c k).cells = [.msl a b c k]:=rfl
@[go_sem] theorem isVal_agg (cs : List AV) : (AV.agg cs).isVal = true:=rfl
@[go_sem] theorem isVal_int (k : IntKind) (m : Int) : (AV.int k m).isVal = true:=rfl
@[go_sem] theorem isVal_bool (b : Bool) : (AV.bool b).isVal = true:=rfl
@[go_sem] theorem isVal_str (b : ByteArray) : (AV.str b).isVal = true:=rfl
@[go_sem] theorem isVal_ptr (a b : Nat) : (AV.ptr a b).isVal = true:=rfl
@[go_sem] theorem isVal_sl (o : Option Nat) (es : List AV) : (AV.sl o es).isVal = true:=rfl
@[go_sem] theorem isVal_msl (a b c k : Nat) : (AV.msl a b c k).isVal = true:=rfl
@[go_sem] theorem owned_mapr (a : Nat) : (AV.mapr a).owned = false:=rfl
@[go_sem] theorem owned_yld (a : Nat) (L : LoopRec) : (AV.yld a L).owned = false:=rfl
@[go_sem] theorem owned1_fn (f : Fn) (a b : List AV) : owned1 (AV.fn f a b) = false:=rfl
@[go_sem] theorem owned1_nilf : owned1 AV.nilf = false:=rfl
@[go_sem] theorem borrow_mapr (a : Nat) : (AV.mapr a).borrow = .mapr a:=rfl
@[go_sem] theorem borrow_yld (a : Nat) (L : LoopRec) : (AV.yld a L).borrow = .yld a L:=rfl
@[go_sem] theorem cells_mapr (a : Nat) : (AV.mapr a).cells = [.mapr a]:=rfl
@[go_sem] theorem cells_nilm : AV.nilm.cells = [.nilm]:=rfl
@[go_sem] theorem cells_fn (f : Fn) (a b : List AV) : (AV.fn f a b).cells = [.fn f a b]:=rfl
@[go_sem] theorem cells_nilf : AV.nilf.cells = [.nilf]:=rfl
@[go_sem] theorem cells_yld (a : Nat) (L : LoopRec) : (AV.yld a L).cells = [.yld a L]:=rfl
@[go_sem] theorem isVal_mapr (a : Nat) : (AV.mapr a).isVal = true:=rfl
@[go_sem] theorem isVal_fn (f : Fn) (a b : List AV) : (AV.fn f a b).isVal = true:=rfl
@[go_sem] theorem isVal_yld (a : Nat) (L : LoopRec) : (AV.yld a L).isVal = true:=rfl
def tkdB (b : Bool) (x : Operand) (v : AV) (e : Env) : Env :=
 match b,x with
 | true,.tmp t => (t,v.borrow) :: e
 | _,_ => e
@[go_sem] theorem tkd_B (x : Operand) (v : AV) : tkd x v e = tkdB v.owned x v e:=rfl
@[go_sem] theorem tkdB_f (x : Operand) (v : AV) : tkdB false x v e = e:=rfl
@[go_sem] theorem tkdB_t (t : Tmp) (v : AV) : tkdB true (.tmp t) v e = (t,v.borrow) :: e:=rfl
@[go_sem] theorem tkdB_const (b : Bool) (c : Value) (v : AV) : tkdB b (.const c) v e = e:=by cases b <;> rfl
@[go_sem] theorem tkdB_func (b : Bool) (f : FuncId) (v : AV) : tkdB b (.func f) v e = e:=by cases b <;> rfl
@[go_sem] theorem bnd_some (v : AV) : bnd (some v) d K e H = K ((d,v) :: e) H:=Eq.trans rfl rfl
@[go_sem] theorem bndH_some (v : AV) (dd : Option Tmp) : bndH (some (v,H)) dd K e = K (put dd v e) H:=Eq.trans rfl rfl
@[go_sem] theorem gthen_some (t : Tmp) (b : Bool) (A B : Kt) : gthen (some t) b A B e H = gsel (look e t) b A B e H:=Eq.trans rfl rfl
@[go_sem] theorem gsel_tt (A B : Kt) : gsel (.bool true) true A B e H = A e H:=Eq.trans rfl rfl
@[go_sem] theorem gsel_ff (A B : Kt) : gsel (.bool false) false A B e H = A e H:=Eq.trans rfl rfl
@[go_sem] theorem gsel_tf (A B : Kt) : gsel (.bool true) false A B e H = B e H:=Eq.trans rfl rfl
@[go_sem] theorem gsel_ft (A B : Kt) : gsel (.bool false) true A B e H = B e H:=Eq.trans rfl rfl
@[go_sem] theorem gsel_tup (b : Bool) (vs : List AV) (A B : Kt) : gsel (.tup vs) b A B e H = B e H:=by simp [gsel]
@[go_sem] theorem skipK_eq (dd : Option Tmp) : skipK n dd K e H = (dstOk n dd /\ K (put dd (.tup []) e) H):=Eq.trans rfl rfl
@[go_sem] theorem condK_t (A B : Kt) : condK (.bool true) A B e H = A e H:=Eq.trans rfl rfl
@[go_sem] theorem condK_f (A B : Kt) : condK (.bool false) A B e H = B e H:=Eq.trans rfl rfl
theorem condK_split (t : Bool) (A B : Kt) (ht : t = true -> A e H) (hf : t = false -> B e H) : condK (.bool t) A B e H:=by
 cases t
 ·exact hf rfl
 ·exact ht rfl
theorem gsel_split (t b : Bool) (A B : Kt) (ht : t = b -> A e H) (hf : t = (!b) -> B e H) : gsel (.bool t) b A B e H:=by
 cases t <;> cases b <;> first | exact ht rfl | exact hf rfl
@[go_sem] theorem arun_nil : arun P n h ops [] K (p :: e) H = K (p :: e) H:=Eq.trans rfl rfl
@[go_sem] theorem arun_cons (o : Oper) (l : List Oper) : arun P n h ops (o :: l) K (p :: e) H = aop P n h ops o (arun P n h ops l K) (p :: e) H:=Eq.trans rfl rfl
@[go_sem] theorem awp_skip : awp P n h ar .skip Q (p :: e) H = Q .normal (p :: e) H:=Eq.trans rfl rfl
@[go_sem] theorem awp_ret : awp P n h ar .ret Q (p :: e) H = Q .ret (p :: e) H:=Eq.trans rfl rfl
@[go_sem] theorem awp_exit (id : Nat) : awp P n h ar (.exit id) Q (p :: e) H = Q (.exit id) (p :: e) H:=Eq.trans rfl rfl
@[go_sem] theorem awp_seq (a b : Code) : awp P n h ar (.seq a b) Q (p :: e) H = awp P n h ar a (seqK (awp P n h ar b Q) Q) (p :: e) H:=Eq.trans rfl rfl
@[go_sem] theorem awp_block (id : Nat) (c : Code) : awp P n h ar (.block id c) Q (p :: e) H = awp P n h ar c (blkK id Q) (p :: e) H:=Eq.trans rfl rfl
@[go_sem] theorem awp_cond (c : Operand) (a b : Code) : awp P n h ar (.cond c a b) Q (p :: e) H = condK (evo P none (p :: e) c) (awp P n h ar a Q) (awp P n h ar b Q) (p :: e) H:=Eq.trans rfl rfl
@[go_sem] theorem awp_region (id : Nat) (ops : Array Oper) (dr : Bool) (hd : h.dn id = false) : awp P n h ar (.region id ops dr) Q (p :: e) H = arun P n h ops ops.toList (endK (h.lv id) (h.at id) (gcK (h.ct id) Q)) (p :: e) H:=by
 obtain ⟨h1,h2⟩:=Hint.dn_no hd ops
 have e1 : (fun e H => (h.da id = true -> dynAll P h ops e) /\ Q .normal (frzs (h.at id) (clean (h.lv id) e) H).1 (gcut (h.ct id) (frzs (h.at id) (clean (h.lv id) e) H).1 (frzs (h.at id) (clean (h.lv id) e) H).2)) = endK (h.lv id) (h.at id) (gcK (h.ct id) Q):=by
  funext e H
  simp only [h1,Bool.false_eq_true,false_implies,true_and]
  rfl
 show arun P n h ops (h.ord id ops) _ (p :: e) H = _
 rw [<- e1,h2]
def dynK (P : Program) (h : Hint) (ops : Array Oper) (K : Kt) : Kt:=fun e H => dynAll P h ops e /\ K e H
theorem awp_regionD (id : Nat) (ops : Array Oper) (dr : Bool) (hd : h.dn id = true) (ha : h.da id = true) (hm : h.mv id = []) : awp P n h ar (.region id ops dr) Q (p :: e) H = arun P n h ops ops.toList (dynK P h ops (endK (h.lv id) (h.at id) (gcK (h.ct id) Q))) (p :: e) H:=by
 have e1 : (fun e H => (h.da id = true -> dynAll P h ops e) /\ Q .normal (frzs (h.at id) (clean (h.lv id) e) H).1 (gcut (h.ct id) (frzs (h.at id) (clean (h.lv id) e) H).1 (frzs (h.at id) (clean (h.lv id) e) H).2)) = dynK P h ops (endK (h.lv id) (h.at id) (gcK (h.ct id) Q)):=by
  funext e H
  simp only [ha,true_implies]
  rfl
 have h2 : h.ord id ops = ops.toList:=by unfold Hint.ord; rw [hm]
 show arun P n h ops (h.ord id ops) _ (p :: e) H = _
 rw [<- e1,h2]
theorem awp_regionO (id : Nat) (ops : Array Oper) (dr : Bool) (hd : h.dn id = true) (ha : h.da id = false) : awp P n h ar (.region id ops dr) Q (p :: e) H = arun P n h ops (h.ord id ops) (endK (h.lv id) (h.at id) (gcK (h.ct id) Q)) (p :: e) H:=by
 have e1 : (fun e H => (h.da id = true -> dynAll P h ops e) /\ Q .normal (frzs (h.at id) (clean (h.lv id) e) H).1 (gcut (h.ct id) (frzs (h.at id) (clean (h.lv id) e) H).1 (frzs (h.at id) (clean (h.lv id) e) H).2)) = endK (h.lv id) (h.at id) (gcK (h.ct id) Q):=by
  funext e H
  simp only [ha,Bool.false_eq_true,false_implies,true_and]
  rfl
 show arun P n h ops (h.ord id ops) _ (p :: e) H = _
 rw [<- e1]
def rfK (P : Program) (n : Nat) (h : Hint) (ar : Option Nat) (g : Operand) (rs : Array Tmp) (assign body : Code) (Q : Exit -> Kt) : Kt:=awp P n h ar (.rangeFunc g rs assign body) Q
@[go_sem] theorem awp_rangeFunc (g : Operand) (rs : Array Tmp) (assign body : Code) : awp P n h ar (.rangeFunc g rs assign body) Q (p :: e) H = rfK P n h ar g rs assign body Q (p :: e) H:=Eq.trans rfl rfl
@[go_sem] theorem endK_eq (live : List Tmp) (zs : List (Tmp × Option Nat × Bool)) : endK live zs Q (p :: e) H = frzK zs Q (clean live (p :: e)) H:=Eq.trans rfl rfl
@[go_sem] theorem frzK_nil : frzK [] Q e H = Q .normal e H:=Eq.trans rfl rfl
theorem frzK_cons (z : Tmp × Option Nat × Bool) (zs : List (Tmp × Option Nat × Bool)) : frzK (z :: zs) Q e H = frzK zs Q (frz1 z e H).1 (frz1 z e H).2:=rfl
@[go_sem] theorem gcK_none : gcK none Q = Q:=by
 funext ex e H
 cases ex <;> rfl
@[go_sem] theorem gcK_some (k : Nat) : gcK (some k) Q .normal e H = if k <= H.length /\ bndL k (e.map (·.2)) = true /\ closedB (H.take k) = true then Q .normal e (H.take k) else Q .normal e H:=by
 simp only [gcK,gcut]
 split <;> rfl
@[go_sem] theorem seqK_normal (B : Kt) : seqK B Q .normal = B:=Eq.trans rfl rfl
@[go_sem] theorem seqK_ret (B : Kt) : seqK B Q .ret = Q .ret:=Eq.trans rfl rfl
@[go_sem] theorem seqK_exit (B : Kt) (j : Nat) : seqK B Q (.exit j) = Q (.exit j):=Eq.trans rfl rfl
@[go_sem] theorem blkK_normal (id : Nat) : blkK id Q .normal = Q .normal:=Eq.trans rfl rfl
@[go_sem] theorem blkK_ret (id : Nat) : blkK id Q .ret = Q .ret:=Eq.trans rfl rfl
@[go_sem] theorem blkK_hit (id : Nat) : blkK id Q (.exit id) = Q .normal:=by
 funext e H; simp [blkK]
@[go_sem] theorem blkK_exit (id j : Nat) (hj : (j == id) = false) : blkK id Q (.exit j) = Q (.exit j):=by
 funext e H
 have : j ≠ id:=by simpa using hj
 simp [blkK,this]
@[go_sem] theorem QRet_ret (rs : Array ResultVar) (K : AV -> Heap -> Prop) : QRet P n rs K .ret e H = rev P n rs.toList e H fun vs _ H' => retK K vs H':=Eq.trans rfl rfl
@[go_sem] theorem QRet_normal (rs : Array ResultVar) (K : AV -> Heap -> Prop) : QRet P n rs K .normal e H = rev P n rs.toList e H fun vs _ H' => retK K vs H':=Eq.trans rfl rfl
@[go_sem] theorem rev_nil (K : List AV -> Env -> Heap -> Prop) : rev P n [] e H K = K [] e H:=Eq.trans rfl rfl
@[go_sem] theorem rev_tmp (t : Tmp) (rs : List ResultVar) (K : List AV -> Env -> Heap -> Prop) : rev P n (.tmp t :: rs) e H K = (t < n /\ rev P n rs (tkd (.tmp t) (look e t) e) H fun vs => K (look e t :: vs)):=by
 have e1 : (ev1 P none true (.tmp t) e).2 = tkd (.tmp t) (look e t) e:=by
  simp only [ev1,evo,tkd]
  cases (look e t).owned <;> rfl
 simp only [rev,e1]
 rfl
@[go_sem] theorem rev_cell (t : Tmp) (ty : TypeId) (rs : List ResultVar) (K : List AV -> Env -> Heap -> Prop) : rev P n (.cell t ty :: rs) e H K = (t < n /\ rdK (vRead P ty (look e t) H) fun v H' => rev P n rs e H' fun vs => K (v :: vs)):=by
 simp only [rev,vRead]
 congr 1
 cases look e t with
 | ptr ob off =>
  dsimp only
  cases H[ob]? with
  | none => rfl
  | some c => cases c with
   | none => rfl
   | some cs =>
    dsimp only
    cases ldv P ty cs off with
    | none => rfl
    | some v =>
     dsimp only
     by_cases hv : v.owned = true
     ·rw [if_pos hv,if_pos hv]; rfl
     ·rw [if_neg hv,if_neg hv]; rfl
 | _ => rfl
@[go_sem] theorem rdK_some (v : AV) (K : AV -> Heap -> Prop) : rdK (some (v,H)) K = K v H:=Eq.trans rfl rfl
@[go_sem] theorem retK_one (v : AV) (K : AV -> Heap -> Prop) : retK K [v] H = K v H:=Eq.trans rfl rfl
@[go_sem] theorem retK_nil (K : AV -> Heap -> Prop) : retK K [] H = K (.tup []) H:=by simp [retK]
@[go_sem] theorem retK_two (u v : AV) (K : AV -> Heap -> Prop) : retK K [u,v] H = (u.isVal = true /\ v.isVal = true /\ K (.tup [u,v]) H):=by simp [retK,and_assoc]
@[go_sem] theorem retK_three (u v x : AV) (K : AV -> Heap -> Prop) : retK K [u,v,x] H = (u.isVal = true /\ v.isVal = true /\ x.isVal = true /\ K (.tup [u,v,x]) H):=by simp [retK,and_assoc]
theorem PCallK.intro {f : FuncId} {vs : List AV} {dd : Option Tmp} {v : AV} (hc : PCall P f vs v) (hk : K (put dd v e) H) : PCallK P f vs dd K e H:=⟨v,hc,hk⟩
theorem ACallK.intro {f : FuncId} {vs : List AV} {dd : Option Tmp} {R : AV -> Heap -> Prop} (hc : ACall P f vs H R) (hk : ∀ v H',R v H' -> K (put dd v e) H') : ACallK P f vs dd K e H:=hc.mono hk
theorem ACallK.pure {f : FuncId} {vs : List AV} {dd : Option Tmp} {v : AV} (hc : PCall P f vs v) (hk : K (put dd v e) H) : ACallK P f vs dd K e H:=(hc H).mono fun v' H' hq => by obtain ⟨rfl,rfl⟩:=hq; exact hk
theorem ACallK.prop {f : FuncId} {vs : List AV} {dd : Option Tmp} {Q : AV -> Prop} (hc : QCall P f vs Q) (hk : ∀ v,Q v -> K (put dd v e) H) : ACallK P f vs dd K e H:=(hc H).mono fun v' H' hq => by obtain ⟨h1,rfl⟩:=hq; exact hk v' h1
end
end Go.AI
