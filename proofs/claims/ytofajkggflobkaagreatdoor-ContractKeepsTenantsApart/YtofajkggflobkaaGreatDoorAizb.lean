/- The abstract walk as rewriting: the operations. -/
import Derived.Test.YtofajkggflobkaaGreatDoorAiZ
set_option linter.unusedSimpArgs false
set_option linter.unusedVariables false
namespace Go.AI
def tvals (P : Program) : List Operand -> Env -> List AV × Env
 | [],e => ([],e)
 | x :: xs,e => ((evo P none e x) :: (tvals P xs (tkd x (evo P none e x) e)).1,(tvals P xs (tkd x (evo P none e x) e)).2)
def vLoad (P : Program) (tk : Bool) (t : TypeId) (a : AV) (H : Heap) : Option (AV × Heap) :=
 match a with
 | .ptr ob off => match H[ob]? with
  | some (some cs) => match ldv P t cs off with
   | some v => match tk with
    | true => if v.owned = true /\ v.scalar = true then some (v,H.set ob (some (splice cs off (v.cells.map borrow1)))) else none
    | false => some (v.borrow,H)
   | none => none
  | _ => none
 | .cptr cs off => match ldv P t cs off with
  | some v => some (v.borrow,H)
  | none => none
 | _ => none
def vStore (P : Program) (t : TypeId) (a v : AV) (H : Heap) : Option Heap :=
 match a with
 | .ptr ob off => match H[ob]? with
  | some (some cs) => if v.isVal = true /\ v.cells.length = P.cellsOf t /\ 0 < P.cellsOf t /\ off + P.cellsOf t <= cs.length then some (H.set ob (some (splice cs off v.cells))) else none
  | _ => none
 | _ => none
def stK (r : Option Heap) (K : Kt) (e : Env) : Prop :=
 match r with
 | some H => K e H
 | none => False
def vOff (a : AV) (k : Nat) : Option AV :=
 match a with
 | .ptr ob off => some (.ptr ob (off + k))
 | .cptr cs off => some (.cptr cs (off + k))
 | _ => none
def fieldAt (P : Program) (s f : Nat) : Option Field :=
 match P.underlying s with
 | some (.struct fs) => fs[f]?
 | _ => none
def vField (P : Program) (fd : Option Field) (x : AV) : Option AV :=
 match fd with
 | some fd => if 0 < P.cellsOf fd.type then vOff x fd.offset else none
 | none => none
def vPart (P : Program) (fd : Option Field) (x : AV) : Option AV :=
 match fd,x with
 | some fd,.agg cs => ldv P fd.type cs fd.offset
 | _,_ => none
def vNil (x : AV) : Option AV :=
 match x with
 | .ptr ob off => some (.ptr ob off)
 | .cptr cs off => some (.cptr cs off)
 | .fn (.func f) a b => some (.fn (.func f) a b)
 | .yld o L => some (.yld o L)
 | _ => none
def vPick (c a b : AV) : Option AV :=
 match c with
 | .bool c => some (if c = true then a else b)
 | _ => none
def vExtract (x : AV) (i : Nat) : Option AV :=
 match x with
 | .tup vs => vs[i]?
 | _ => none
def vLen (d : Option TypeDesc) (x : AV) : Option AV :=
 match d,x with
 | some (.slice _),.sl _ es => some (.int .i64 es.length)
 | some (.slice _),.msl _ _ len _ => some (.int .i64 len)
 | some (.slice _),.mslc _ _ len _ _ => some (.int .i64 len)
 | some .string,.str s => some (.int .i64 s.size)
 | some (.array n _),_ => some (.int .i64 n)
 | _,_ => none
def vUn (op : UnOp) (x : AV) : Option AV :=
 match op,x with
 | .neg,.int k m => some (.int k (k.wrap (0 - m)))
 | .not,.bool b => some (.bool !b)
 | _,_ => none
section
variable {P : Program} {n : Nat} {h : Hint} {ops : Array Oper} {K : Kt} {p : Tmp × AV} {e : Env} {H : Heap} {d : Tmp} {ty : TypeId} {ps : String} {af : Array Edge} {Q : Exit -> Kt}
theorem evs_take : ∀ (xs : List Operand) (e : Env),evs P none true xs e = tvals P xs e
 | [],e => rfl
 | x :: xs,e => by
  have : (ev1 P none true x e).2 = tkd x (evo P none e x) e:=by
   simp only [ev1,tkd]
   cases x with
   | tmp t => simp only [evo]; cases (look e t).owned <;> rfl
   | _ => cases (evo P none e _).owned <;> rfl
  simp only [evs,tvals,this,evs_take xs]
  rfl
theorem evs_plain (ty : Option TypeId) : ∀ (xs : List Operand) (e : Env),evs P ty false xs e = (xs.map fun x => (evo P ty e x).borrow,e)
 | [],e => rfl
 | x :: xs,e => by simp only [evs,ev1,evs_plain ty xs,List.map_cons]
@[go_sem] theorem tvals_nil : tvals P [] e = ([],e):=rfl
@[go_sem] theorem tvals_cons (x : Operand) (xs : List Operand) : tvals P (x :: xs) e = ((evo P none e x) :: (tvals P xs (tkd x (evo P none e x) e)).1,(tvals P xs (tkd x (evo P none e x) e)).2):=rfl
theorem aop_none (o : Oper) (hg : o.guard = none) : aop P n h ops o K e H = (dstOk n o.dst /\ ares P h o (evs P (opTy o) (taking h o) o.op.operands.toList e).1 H fun v H' => K (put o.dst v (evs P (opTy o) (taking h o) o.op.operands.toList e).2) H'):=by
 simp only [aop,agd,hg]
@[go_sem] theorem aop_guard (op : Op) (j : Nat) (b : Bool) (dd : Option Tmp) : aop P n h ops ⟨dd,op,ty,ps,af,some (j,b)⟩ K (p :: e) H =
  gthen ((ops[j]?).bind Oper.dst) b (aop P n h ops ⟨dd,op,ty,ps,af,none⟩ K) (skipK n dd K) (p :: e) H:=by
 simp only [aop,agd,gthen,gsel,skipK]
 cases (ops[j]?).bind Oper.dst with
 | none => rfl
 | some t =>
  simp only
  cases look (p :: e) t with
  | bool c => cases c <;> cases b <;> rfl
  | _ => rfl
theorem tkd_eq (x : Operand) (o : Option TypeId) : (ev1 P o true x e).2 = tkd x (evo P o e x) e:=by
 simp only [ev1,tkd]
 cases x with
 | tmp t => simp only [evo]; cases (look e t).owned <;> rfl
 | _ => cases (evo P o e _).owned <;> rfl
@[go_sem] theorem aop_move (x : Operand) : aop P n h ops ⟨some d,.move x,ty,ps,af,none⟩ K (p :: e) H =
  (d < n /\ bif h.tk.contains d then K ((d,evo P (some ty) (p :: e) x) :: tkd x (evo P (some ty) (p :: e) x) (p :: e)) H else K ((d,(evo P (some ty) (p :: e) x).borrow) :: p :: e) H):=by
 rw [aop_none _ rfl]
 cases ht : h.tk.contains d
 ·simp only [taking,Option.any_some,ht,opTy,Op.operands,evs,ares,put,dstOk,cond_false]; rfl
 ·simp only [taking,Option.any_some,ht,opTy,Op.operands,evs,tkd_eq,ares,put,dstOk,cond_true]; rfl
@[go_sem] theorem aop_assign (x : Operand) : aop P n h ops ⟨some d,.assign x,ty,ps,af,none⟩ K (p :: e) H =
  (d < n /\ K ((d,evo P (some ty) (p :: e) x) :: tkd x (evo P (some ty) (p :: e) x) (p :: e)) H):=by
 rw [aop_none _ rfl]
 simp only [taking,opTy,Op.operands,evs,tkd_eq,ares,put,dstOk]; rfl
@[go_sem] theorem aop_pick (c a b : Operand) : aop P n h ops ⟨some d,.pick c a b,ty,ps,af,none⟩ K (p :: e) H =
  (d < n /\ bnd (vPick (evo P none (p :: e) c).borrow (evo P none (p :: e) a).borrow (evo P none (p :: e) b).borrow) d K (p :: e) H):=by
 rw [aop_none _ rfl]
 simp only [taking,opTy,Op.operands,evs_plain,List.map_cons,List.map_nil,ares,put,dstOk,vPick]
 cases (evo P none (p :: e) c).borrow <;> rfl
@[go_sem] theorem aop_box (el : TypeId) (x : Operand) : aop P n h ops ⟨some d,.box el x,ty,ps,af,none⟩ K (p :: e) H =
  (d < n /\ (evo P none (p :: e) x).isVal = true /\ K ((d,.ptr H.length 0) :: tkd x (evo P none (p :: e) x) (p :: e)) (H ++ [some (evo P none (p :: e) x).cells])):=by
 rw [aop_none _ rfl]
 simp only [taking,opTy,Op.operands,evs,tkd_eq,ares,put,dstOk]; rfl
@[go_sem] theorem aop_load (t : TypeId) (x : Operand) : aop P n h ops ⟨some d,.load t x,ty,ps,af,none⟩ K (p :: e) H =
  (d < n /\ bndH (vLoad P (h.tk.contains d) t (evo P none (p :: e) x).borrow H) (some d) K (p :: e)):=by
 rw [aop_none _ rfl]
 simp only [taking,opTy,Op.operands,evs_plain,List.map_cons,List.map_nil,ares,put,dstOk,vLoad]
 congr 1
 cases (evo P none (p :: e) x).borrow with
 | ptr ob off =>
  simp only
  cases H[ob]? with
  | none => rfl
  | some c => cases c with
   | none => rfl
   | some cs =>
    simp only
    cases ldv P t cs off with
    | none => rfl
    | some v =>
     simp only [Option.any_some]
     cases h.tk.contains d
     ·rfl
     ·dsimp only
      by_cases hc : v.owned = true /\ v.scalar = true
      ·rw [if_pos hc]; simp [hc.1,hc.2,bndH,put]
      ·rw [if_neg hc]
       simp only [bndH,eq_iff_iff,iff_false]
       intro hx
       exact hc ⟨hx.1,hx.2.1⟩
 | cptr cs off =>
  simp only
  cases ldv P t cs off <;> rfl
 | _ => rfl
@[go_sem] theorem aop_store (t : TypeId) (a v : Operand) : aop P n h ops ⟨none,.store t a v,ty,ps,af,none⟩ K (p :: e) H =
  stK (vStore P t (evo P (some t) (p :: e) a) (evo P (some t) (tkd a (evo P (some t) (p :: e) a) (p :: e)) v) H) K (tkd v (evo P (some t) (tkd a (evo P (some t) (p :: e) a) (p :: e)) v) (tkd a (evo P (some t) (p :: e) a) (p :: e))):=by
 rw [aop_none _ rfl]
 have e1 : ∀ (x : Operand) (e : Env),(ev1 P (some t) true x e).1 = evo P (some t) e x:=fun _ _ => rfl
 simp only [taking,opTy,Op.operands,evs,tkd_eq,e1,ares,put,dstOk,vStore,true_and]
 generalize evo P (some t) (tkd a (evo P (some t) (p :: e) a) (p :: e)) v = vv
 generalize tkd v vv (tkd a (evo P (some t) (p :: e) a) (p :: e)) = e'
 cases evo P (some t) (p :: e) a with
 | ptr ob off =>
  simp only
  cases H[ob]? with
  | none => rfl
  | some c => cases c with
   | none => rfl
   | some cs =>
    simp only
    by_cases hc : vv.isVal = true /\ vv.cells.length = P.cellsOf t /\ 0 < P.cellsOf t /\ off + P.cellsOf t <= cs.length
    ·rw [if_pos hc]
     obtain ⟨h1,h2,h3,h4⟩:=hc
     simp only [h1,h2,h3,h4,true_and,stK]
    ·rw [if_neg hc]
     simp only [stK,eq_iff_iff,iff_false]
     intro hx
     exact hc ⟨hx.1,hx.2.1,hx.2.2.1,hx.2.2.2.1⟩
 | _ => rfl
@[go_sem] theorem aop_nilCheck (x : Operand) : aop P n h ops ⟨some d,.nilCheck x,ty,ps,af,none⟩ K (p :: e) H = (d < n /\ bnd (vNil (evo P none (p :: e) x).borrow) d K (p :: e) H):=by
 rw [aop_none _ rfl]
 simp only [taking,opTy,Op.operands,evs_plain,List.map_cons,List.map_nil,ares,put,dstOk,vNil]
 congr 1
 cases (evo P none (p :: e) x).borrow with
 | fn f a b => cases f <;> rfl
 | _ => rfl
@[go_sem] theorem aop_unOp (op : UnOp) (t : TypeId) (x : Operand) : aop P n h ops ⟨some d,.unOp op t x,ty,ps,af,none⟩ K (p :: e) H = (d < n /\ bnd (vUn op (evo P none (p :: e) x).borrow) d K (p :: e) H):=by
 rw [aop_none _ rfl]
 simp only [taking,opTy,Op.operands,evs_plain,List.map_cons,List.map_nil,ares,put,dstOk,vUn]
 congr 1
 cases op <;> cases (evo P none (p :: e) x).borrow <;> rfl
@[go_sem] theorem aop_fieldAddr (s f : Nat) (x : Operand) : aop P n h ops ⟨some d,.fieldAddr s x f,ty,ps,af,none⟩ K (p :: e) H = (d < n /\ bnd (vField P (fieldAt P s f) (evo P none (p :: e) x).borrow) d K (p :: e) H):=by
 rw [aop_none _ rfl]
 simp only [taking,opTy,Op.operands,evs_plain,List.map_cons,List.map_nil,ares,put,dstOk,vField,fieldAt]
 congr 1
 cases P.underlying s with
 | none => rfl
 | some dd => cases dd with
  | struct fs =>
   simp only
   cases fs[f]? with
   | none => rfl
   | some fd =>
    simp only
    by_cases hc : 0 < P.cellsOf fd.type
    ·rw [if_pos hc]
     simp only [hc,true_and]
     cases (evo P none (p :: e) x).borrow <;> rfl
    ·rw [if_neg hc]
     simp only [hc,false_and,bnd]
  | _ => rfl
@[go_sem] theorem aop_field (s f : Nat) (x : Operand) : aop P n h ops ⟨some d,.field s x f,ty,ps,af,none⟩ K (p :: e) H = (d < n /\ bnd (vPart P (fieldAt P s f) (evo P none (p :: e) x).borrow) d K (p :: e) H):=by
 rw [aop_none _ rfl]
 simp only [taking,opTy,Op.operands,evs_plain,List.map_cons,List.map_nil,put,dstOk,vPart,fieldAt]
 congr 1
 generalize (evo P none (p :: e) x).borrow = a
 unfold ares
 dsimp only
 cases hu : P.underlying s with
 | none => cases a <;> simp [bnd,hu]
 | some dd => cases dd with
  | struct fs =>
   dsimp only
   cases hf : fs[f]? with
   | none => cases a <;> simp [bnd,hu,hf]
   | some fd => cases a with
    | agg cs => simp only [hu,hf]; cases ldv P fd.type cs fd.offset <;> rfl
    | _ => simp [bnd]
  | _ => cases a <;> simp [bnd,hu]
@[go_sem] theorem aop_extract (x : Operand) (i : Nat) : aop P n h ops ⟨some d,.extract x i,ty,ps,af,none⟩ K (p :: e) H = (d < n /\ bnd (vExtract (evo P none (p :: e) x).borrow i) d K (p :: e) H):=by
 rw [aop_none _ rfl]
 simp only [taking,opTy,Op.operands,evs_plain,List.map_cons,List.map_nil,ares,put,dstOk,vExtract]
 congr 1
 cases (evo P none (p :: e) x).borrow with
 | tup vs => simp only; cases vs[i]? <;> simp [bnd]
 | _ => rfl
@[go_sem] theorem aop_len (x : Operand) (t : TypeId) : aop P n h ops ⟨some d,.call ⟨.builtin .len,#[x],#[t]⟩,ty,ps,af,none⟩ K (p :: e) H = (d < n /\ bnd (vLen (P.underlying t) (evo P none (p :: e) x).borrow) d K (p :: e) H):=by
 rw [aop_none _ rfl]
 have e1 : (#[] ++ #[x] : Array Operand).toList = [x]:=rfl
 simp only [taking,opTy,Op.operands,Call.operands,e1,evs_plain,List.map_cons,List.map_nil,ares,put,dstOk,vLen]
 congr 1
 simp only [List.getElem?_toArray,List.getElem?_cons_zero,Option.bind_some]
 cases P.underlying t with
 | none => cases (evo P none (p :: e) x).borrow <;> rfl
 | some dd => cases dd <;> cases (evo P none (p :: e) x).borrow <;> rfl
end
end Go.AI
