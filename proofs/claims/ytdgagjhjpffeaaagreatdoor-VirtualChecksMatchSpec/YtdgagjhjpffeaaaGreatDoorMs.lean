/- What the functions of the layers field, graph, token, syntax compute, in plain Lean. -/
import Derived.Test.YtdgagjhjpffeaaaGreatDoorQd
import Derived.Test.YtdgagjhjpffeaaaGreatDoorMj
set_option linter.unusedSimpArgs false
set_option linter.unusedVariables false
namespace Go.AI

def i64 (n : Int) : Int := IntKind.i64.wrap n

/-! ## Bytes and names -/

def bz (c : UInt8) : Int := c.toNat
def loB (c : UInt8) : Bool := decide (97 ≤ bz c) && decide (bz c ≤ 122)
def dgB (c : UInt8) : Bool := decide (48 ≤ bz c) && decide (bz c ≤ 57)
def wdB (c : UInt8) : Bool := loB c || dgB c || bz c == 95

/-- Layer 8's names. -/
def nmGo : Nat → List UInt8 → Bool
  | _, [] => true
  | i, c :: l => (loB c || ((dgB c || bz c == 95) && i != 0)) && nmGo (i + 1) l
def nmB (s : ByteArray) : Bool := nmGo 0 s.data.toList && (decide (1 ≤ (s.size : Int)) && decide ((s.size : Int) ≤ 24))

def runN : List UInt8 → Nat
  | [] => 0
  | c :: l => if wdB c then runN l + 1 else 0

def wordB (s : ByteArray) : Bool := words.any (fun y => decide (y = s))

/-- Layer 10's names. -/
def tnB (s : ByteArray) : Bool :=
  (decide (1 ≤ (s.size : Int)) && decide ((s.size : Int) ≤ 24)) && ((match s.data.toList with | c :: _ => loB c | [] => false) && (((runN s.data.toList : Int) == (s.size : Int)) && !wordB s))

def portS : ByteArray := ⟨#[112, 111, 114, 116]⟩
def fnB (s : ByteArray) : Bool := tnB s || decide (s = portS)

/-! ## Sizes -/

def imax (a b : Int) : Int := if a < b then b else a
def Sizes.more (a b : Sizes) : Sizes := ⟨i64 (a.nodes + b.nodes), imax a.depth (i64 (b.depth + 1))⟩

mutual
def szP : Pred → Sizes
  | ⟨_, _, _, _, args⟩ => szPs args ⟨1, 1⟩
def szPs : List Pred → Sizes → Sizes
  | [], o => o
  | x :: l, o => szPs l (o.more (szP x))
end
mutual
def szO : Policy → Sizes
  | ⟨k, p, _, _, args⟩ => szOs args (if k = 1 then Sizes.more ⟨1, 1⟩ (szP p) else ⟨1, 1⟩)
def szOs : List Policy → Sizes → Sizes
  | [], o => o
  | x :: l, o => szOs l (o.more (szO x))
end
mutual
def szR : Regex → Sizes
  | ⟨_, _, args⟩ => szRs args ⟨1, 1⟩
def szRs : List Regex → Sizes → Sizes
  | [], o => o
  | x :: l, o => szRs l (o.more (szR x))
end

theorem szP_eq (x : Pred) : szP x = szPs x.args ⟨1, 1⟩ := by cases x; rw [szP]
theorem szPs_cons (x : Pred) (l : List Pred) (o : Sizes) : szPs (x :: l) o = szPs l (o.more (szP x)) := by rw [szPs]
theorem szPs_nil (o : Sizes) : szPs [] o = o := by rw [szPs]
theorem szO_eq (x : Policy) : szO x = szOs x.args (if x.kind = 1 then Sizes.more ⟨1, 1⟩ (szP x.pred) else ⟨1, 1⟩) := by cases x; rw [szO]
theorem szOs_cons (x : Policy) (l : List Policy) (o : Sizes) : szOs (x :: l) o = szOs l (o.more (szO x)) := by rw [szOs]
theorem szOs_nil (o : Sizes) : szOs [] o = o := by rw [szOs]
theorem szR_eq (x : Regex) : szR x = szRs x.args ⟨1, 1⟩ := by cases x; rw [szR]
theorem szRs_cons (x : Regex) (l : List Regex) (o : Sizes) : szRs (x :: l) o = szRs l (o.more (szR x)) := by rw [szRs]
theorem szRs_nil (o : Sizes) : szRs [] o = o := by rw [szRs]

/-! ## Equality -/

mutual
def eqP : Pred → Pred → Bool
  | ⟨k, f, n, m, xs⟩, ⟨k', f', n', m', ys⟩ => (k == k' && (decide (f = f') && (n == n' && (m == m' && xs.length == ys.length)))) && eqPs xs ys
def eqPs : List Pred → List Pred → Bool
  | [], _ => true
  | x :: l, y :: r => eqP x y && eqPs l r
  | _ :: _, [] => false
end
mutual
def eqO : Policy → Policy → Bool
  | ⟨k, p, f, n, xs⟩, ⟨k', p', f', n', ys⟩ => eqP p p' && ((k == k' && (decide (f = f') && (n == n' && xs.length == ys.length))) && eqOs xs ys)
def eqOs : List Policy → List Policy → Bool
  | [], _ => true
  | x :: l, y :: r => eqO x y && eqOs l r
  | _ :: _, [] => false
end

theorem eqP_eq (x y : Pred) : eqP x y = ((x.kind == y.kind && (decide (x.field = y.field) && (x.n == y.n && (x.m == y.m && x.args.length == y.args.length)))) && eqPs x.args y.args) := by cases x; cases y; rw [eqP]
theorem eqPs_cons (x y : Pred) (l r : List Pred) : eqPs (x :: l) (y :: r) = (eqP x y && eqPs l r) := by rw [eqPs]
theorem eqPs_nil (l : List Pred) : eqPs [] l = true := by rw [eqPs]
theorem eqO_eq (x y : Policy) : eqO x y = (eqP x.pred y.pred && ((x.kind == y.kind && (decide (x.field = y.field) && (x.n == y.n && x.args.length == y.args.length))) && eqOs x.args y.args)) := by cases x; cases y; rw [eqO]
theorem eqOs_cons (x y : Policy) (l r : List Policy) : eqOs (x :: l) (y :: r) = (eqO x y && eqOs l r) := by rw [eqOs]
theorem eqOs_nil (l : List Policy) : eqOs [] l = true := by rw [eqOs]

def keysEq : List ByteArray → List ByteArray → Bool
  | [], _ => true
  | x :: l, y :: r => decide (x = y) && keysEq l r
  | _ :: _, [] => false
theorem keysEq_cons (x y : ByteArray) (l r : List ByteArray) : keysEq (x :: l) (y :: r) = (decide (x = y) && keysEq l r) := by rw [keysEq]
theorem keysEq_nil (l : List ByteArray) : keysEq [] l = true := by rw [keysEq]
def eqS (x y : Stp) : Bool :=
  (x.kind == y.kind && (decide (x.var = y.var) && (decide (x.field = y.field) && (x.n == y.n && (x.m == y.m && x.key.length == y.key.length))))) && keysEq x.key y.key

/-! ## What is formed -/

def w16 (n : Int) : Bool := decide (0 ≤ n) && decide (n ≤ 65535)
def noneP (x : Pred) : Bool := decide (x.field = ⟨#[]⟩) && (x.n == 0 && x.m == 0)
/-- The kind fits the numbers; how many arguments there are to be. -/
def okP (x : Pred) : Bool × Nat :=
  if x.kind = 1 ∨ x.kind = 2 then (noneP x, 0)
  else if x.kind = 3 then (fnB x.field && (w16 x.n && x.m == 0), 0)
  else if x.kind = 4 then (fnB x.field && (w16 x.n && (decide (0 ≤ x.m) && decide (x.m ≤ 16))), 0)
  else if x.kind = 5 then (fnB x.field && (decide (0 ≤ x.n) && (decide (x.n ≤ x.m) && decide (x.m ≤ 65535))), 0)
  else if x.kind = 6 then (noneP x, 1)
  else if x.kind = 7 ∨ x.kind = 8 then (noneP x, 2)
  else if x.kind = 9 then (decide (x.field = ⟨#[]⟩) && (decide (0 ≤ x.n) && (decide (x.n < x.m) && decide (x.m ≤ 1073741824))), 0)
  else (false, 0)

mutual
def fmP : Pred → Bool
  | ⟨k, f, n, m, xs⟩ => ((okP ⟨k, f, n, m, xs⟩).1 && xs.length == (okP ⟨k, f, n, m, xs⟩).2) && fmPs xs
def fmPs : List Pred → Bool
  | [] => true
  | x :: l => fmP x && fmPs l
end

theorem fmP_eq (x : Pred) : fmP x = (((okP x).1 && x.args.length == (okP x).2) && fmPs x.args) := by cases x; rw [fmP]
theorem fmPs_cons (x : Pred) (l : List Pred) : fmPs (x :: l) = (fmP x && fmPs l) := by rw [fmPs]
theorem fmPs_nil : fmPs [] = true := by rw [fmPs]
abbrev emptyPred : Pred := Pred.z
def okO (x : Policy) : Bool × Nat :=
  if x.kind = 1 then (fmP x.pred && (decide (x.field = ⟨#[]⟩) && x.n == 0), 0)
  else if x.kind = 2 then (fnB x.field && (eqP x.pred emptyPred && w16 x.n), 0)
  else if x.kind = 3 ∨ x.kind = 4 then (eqP x.pred emptyPred && (decide (x.field = ⟨#[]⟩) && x.n == 0), 2)
  else if x.kind = 5 then (eqP x.pred emptyPred && (decide (x.field = ⟨#[]⟩) && x.n == 0), 1)
  else (false, 0)
mutual
def fmO : Policy → Bool
  | ⟨k, p, f, n, xs⟩ => ((okO ⟨k, p, f, n, xs⟩).1 && xs.length == (okO ⟨k, p, f, n, xs⟩).2) && fmOs xs
def fmOs : List Policy → Bool
  | [] => true
  | x :: l => fmO x && fmOs l
end

theorem fmO_eq (x : Policy) : fmO x = (((okO x).1 && x.args.length == (okO x).2) && fmOs x.args) := by cases x; rw [fmO]
theorem fmOs_cons (x : Policy) (l : List Policy) : fmOs (x :: l) = (fmO x && fmOs l) := by rw [fmOs]
theorem fmOs_nil : fmOs [] = true := by rw [fmOs]
def okR (x : Regex) : Bool × Nat :=
  if x.kind = 1 ∨ x.kind = 3 then (decide (x.node = ⟨#[]⟩), 0)
  else if x.kind = 2 then (tnB x.node, 0)
  else if x.kind = 4 ∨ x.kind = 5 then (decide (x.node = ⟨#[]⟩), 2)
  else if x.kind = 6 then (decide (x.node = ⟨#[]⟩), 1)
  else (false, 0)
mutual
def fmR : Regex → Bool
  | ⟨k, n, xs⟩ => ((okR ⟨k, n, xs⟩).1 && xs.length == (okR ⟨k, n, xs⟩).2) && fmRs xs
def fmRs : List Regex → Bool
  | [] => true
  | x :: l => fmR x && fmRs l
end

theorem fmR_eq (x : Regex) : fmR x = (((okR x).1 && x.args.length == (okR x).2) && fmRs x.args) := by cases x; rw [fmR]
theorem fmRs_cons (x : Regex) (l : List Regex) : fmRs (x :: l) = (fmR x && fmRs l) := by rw [fmRs]
theorem fmRs_nil : fmRs [] = true := by rw [fmRs]

/-! ## Checks -/

def limE (z : Sizes) : Int := if z.nodes > 200 ∨ z.depth > 20 then 2 else 0
def fmE (z : Sizes) (b : Bool) : Int := if limE z = 0 then (if b then 0 else 1) else limE z
def ckP (x : Pred) : Int := fmE (szP x) (fmP x)
def ckO (x : Policy) : Int := fmE (szO x) (fmO x)
def ckR (x : Regex) : Int := fmE (szR x) (fmR x)

abbrev emptyStep : Stp := Stp.z
def fmS (x : Stp) : Bool :=
  if eqS x emptyStep then true
  else if !tnB x.var ∨ x.key.length < 1 ∨ 4 < x.key.length ∨ !x.key.all fnB then false
  else if x.kind = 1 then (fnB x.field || decide (x.field = ⟨#[]⟩)) && (x.n == 0 && x.m == 0)
  else if x.kind = 2 then decide (x.field = ⟨#[]⟩) && (x.n == 0 && x.m == 0)
  else if x.kind = 3 then decide (x.field = ⟨#[]⟩) && (decide (0 ≤ x.n) && (decide (x.n ≤ 1073741824) && x.m == 0))
  else if x.kind = 4 then fnB x.field && (decide (0 ≤ x.n) && (decide (x.n ≤ x.m) && decide (x.m ≤ 65535)))
  else if x.kind = 5 then fnB x.field && (x.n == 0 && x.m == 0)
  else if x.kind = 6 then decide (x.field = ⟨#[]⟩) && (decide (1 ≤ x.n) && (decide (x.n ≤ 65535) && (decide (1 ≤ x.m) && decide (x.m ≤ 1073741824))))
  else false
def ckS (x : Stp) : Int := if fmS x then 0 else 1
def ckGo : List Stage → Int
  | [] => 0
  | x :: l => if ckO x.policy = 0 then (if ckS x.step = 0 then ckGo l else ckS x.step) else ckO x.policy
def ckG (l : List Stage) : Int := if 8 < l.length then 2 else ckGo l

/-! ## What is small -/

mutual
def starsO : Policy → Int
  | ⟨k, _, _, _, args⟩ => if k = 5 then i64 (starsOs args 0 + 1) else starsOs args 0
def starsOs : List Policy → Int → Int
  | [], o => o
  | x :: l, o => starsOs l (imax o (starsO x))
end
mutual
def putsO : Policy → Int
  | ⟨k, _, _, _, args⟩ => if k = 2 then i64 (putsOs args 0 + 1) else putsOs args 0
def putsOs : List Policy → Int → Int
  | [], o => o
  | x :: l, o => putsOs l (i64 (o + putsO x))
end
theorem starsO_eq (x : Policy) : starsO x = if x.kind = 5 then i64 (starsOs x.args 0 + 1) else starsOs x.args 0 := by cases x; rw [starsO]
theorem starsOs_cons (x : Policy) (l : List Policy) (o : Int) : starsOs (x :: l) o = starsOs l (imax o (starsO x)) := by rw [starsOs]
theorem starsOs_nil (o : Int) : starsOs [] o = o := by rw [starsOs]
theorem putsO_eq (x : Policy) : putsO x = if x.kind = 2 then i64 (putsOs x.args 0 + 1) else putsOs x.args 0 := by cases x; rw [putsO]
theorem putsOs_cons (x : Policy) (l : List Policy) (o : Int) : putsOs (x :: l) o = putsOs l (i64 (o + putsO x)) := by rw [putsOs]
theorem putsOs_nil (o : Int) : putsOs [] o = o := by rw [putsOs]
def lightO (x : Policy) : Bool :=
  let n := starsO x
  let k := putsO x
  n == 0 || (n == 1 && decide (k ≤ 8) || (n == 2 && decide (k ≤ 4) || (n == 3 && decide (k ≤ 3) || n == 4 && decide (k ≤ 2))))
def fewP (x : Pred) : Bool := decide ((szP x).nodes ≤ 400) && decide ((szP x).depth ≤ 60)
def fewO (x : Policy) : Bool := decide ((szO x).nodes ≤ 400) && (decide ((szO x).depth ≤ 60) && decide ((szP x.pred).nodes ≤ 400))
def fewR (x : Regex) : Bool := decide ((szR x).nodes ≤ 400) && decide ((szR x).depth ≤ 60)
def fewGo (l : List Stage) : Bool := l.all fun x => fewO x.policy && decide ((x.step.key.length : Int) ≤ 20)
def fewG (l : List Stage) : Bool := fewGo (l.take 12) && decide ((l.length : Int) ≤ 12)
def fewN (n : Network) (a b c : Int) : Bool := decide ((n.nodes.length : Int) ≤ a) && (decide ((n.links.length : Int) ≤ b) && decide ((n.edges.length : Int) ≤ c))
def fewT (t : Tenant) : Bool :=
  (fewG t.program && (decide ((t.ports.length : Int) ≤ 80) && (decide ((t.wires.length : Int) ≤ 80) && (decide ((t.routes.length : Int) ≤ 20) && decide ((t.demands.length : Int) ≤ 80))))) &&
    ((t.program.all fun x => decide (starsO x.policy ≤ 2) && lightO x.policy) && (t.routes.all fun x => fewP x.pred && fewR x.path))

/-! ## Fields and networks -/

def placeB (f : Fld) : Bool :=
  decide (1 ≤ f.width) && (decide (f.width ≤ 16) && (decide (16 ≤ f.at_) && (decide (f.at_ ≤ 143) && decide (f.at_ % 16 + f.width ≤ 16))))
def commonB (a b : Fld) : Bool := decide (a.at_ < i64 (b.at_ + b.width)) && decide (b.at_ < i64 (a.at_ + a.width))
def ckFGo (l : List Fld) : Nat → List Fld → Int
  | _, [] => 0
  | i, x :: r => if !nmB x.name ∨ x.name = portS then 4 else if (l.take i).any (fun y => decide (y.name = x.name)) then 4
    else if !placeB x then 1 else if (l.take i).any (fun y => commonB y x) then 1 else ckFGo l (i + 1) r
def ckF (l : List Fld) : Int := if 16 < l.length then 2 else ckFGo l 0 l

def namedGo (l : List ByteArray) : Nat → List ByteArray → Bool
  | _, [] => true
  | i, x :: r => nmB x && (!(l.take i).any (fun y => decide (y = x)) && namedGo l (i + 1) r)
def namedB (l : List ByteArray) : Bool := namedGo l 0 l
def isNodeB (n : Network) (k : Int) : Bool := decide (0 ≤ k) && decide (k < n.nodes.length)
def ckN (n : Network) : Int :=
  if 200 < n.nodes.length ∨ 2000 < n.links.length ∨ 400 < n.edges.length then 2
  else if !namedB (n.nodes.map (·.name)) ∨ !namedB (n.edges.map (·.name)) then 4
  else if !(n.nodes.all fun x => decide (0 ≤ x.rules) && (decide (x.rules ≤ 4000) && (decide (0 ≤ x.entries) && decide (x.entries ≤ 100000)))) then 1
  else if !(n.links.all fun x => isNodeB n x.src && (isNodeB n x.dst && (x.src != x.dst && (decide (0 ≤ x.capacity) && decide (x.capacity ≤ 1048576))))) then 1
  else if !(n.edges.all fun x => isNodeB n x.node) then 1 else 0

end Go.AI

namespace Go.AI

def fldPort : Fld := ⟨portS, 0, 16⟩
def findF (l : List Fld) (s : ByteArray) : Fld × Bool :=
  if s = portS then (fldPort, true) else match l.find? (fun f => decide (f.name = s)) with
    | some f => (f, true)
    | none => (Fld.z, false)
def powW : Nat → Int
  | 0 => 1
  | n + 1 => i64 (powW n * 2)
def maxF (f : Fld) : Int := i64 (powW f.width.toNat - 1)

mutual
def ptsP : Pred → List Pred
  | ⟨k, f, n, m, xs⟩ => ⟨k, f, n, m, xs⟩ :: ptsPs xs
def ptsPs : List Pred → List Pred
  | [] => []
  | x :: l => ptsP x ++ ptsPs l
end
mutual
def ptsO : Policy → List Policy
  | ⟨k, p, f, n, xs⟩ => ⟨k, p, f, n, xs⟩ :: ptsOs xs
def ptsOs : List Policy → List Policy
  | [] => []
  | x :: l => ptsO x ++ ptsOs l
end
theorem ptsP_eq (x : Pred) : ptsP x = x :: ptsPs x.args := by cases x; rw [ptsP]
theorem ptsPs_cons (x : Pred) (l : List Pred) : ptsPs (x :: l) = ptsP x ++ ptsPs l := by rw [ptsPs]
theorem ptsPs_nil : ptsPs [] = [] := by rw [ptsPs]
theorem ptsO_eq (x : Policy) : ptsO x = x :: ptsOs x.args := by cases x; rw [ptsO]
theorem ptsOs_cons (x : Policy) (l : List Policy) : ptsOs (x :: l) = ptsO x ++ ptsOs l := by rw [ptsOs]
theorem ptsOs_nil : ptsOs [] = [] := by rw [ptsOs]

theorem bulk_pred (x : Pred) : bulkL x.c = x.field.size + 5 + bulkL (lPred x.args) := by
  show bulkL [_, _, _, _, _] = _
  simp only [bulkL, AV.bulk]; omega

theorem bulk_policy (x : Policy) : bulkL x.c = bulkL x.pred.c + x.field.size + 4 + bulkL (lPolicy x.args) := by
  show bulkL [_, _, _, _, _, _, _, _, _] = _
  rw [bulk_pred]
  simp only [bulkL, AV.bulk]; omega

theorem ptsP_len : ∀ x : Pred, (ptsP x).length ≤ bulkL x.c := by
  refine Pred.ind _ fun x ih => ?_
  rw [ptsP_eq, bulk_pred, lPred_eq]
  have : ∀ l : List Pred, (∀ y ∈ l, (ptsP y).length ≤ bulkL y.c) → (ptsPs l).length ≤ bulkL (l.map fun x => .agg x.c) := by
    intro l
    induction l with
    | nil => intro _; simp [ptsPs_nil]
    | cons y l ihl =>
      intro h
      have h1 := h y (by simp)
      have h2 := ihl fun z hz => h z (by simp [hz])
      rw [ptsPs_cons, List.length_append]
      simp only [List.map_cons, bulkL, AV.bulk]
      omega
  have := this x.args ih
  simp only [List.length_cons]
  omega

theorem ptsO_len : ∀ x : Policy, (ptsO x).length ≤ bulkL x.c := by
  refine Policy.ind _ fun x ih => ?_
  rw [ptsO_eq, bulk_policy, lPolicy_eq]
  have : ∀ l : List Policy, (∀ y ∈ l, (ptsO y).length ≤ bulkL y.c) → (ptsOs l).length ≤ bulkL (l.map fun x => .agg x.c) := by
    intro l
    induction l with
    | nil => intro _; simp [ptsOs_nil]
    | cons y l ihl =>
      intro h
      have h1 := h y (by simp)
      have h2 := ihl fun z hz => h z (by simp [hz])
      rw [ptsOs_cons, List.length_append]
      simp only [List.map_cons, bulkL, AV.bulk]
      omega
  have := this x.args ih
  simp only [List.length_cons]
  omega

/-- All parts are small. -/
theorem ptsP_bulk : ∀ x : Pred, ∀ y ∈ ptsP x, bulkL y.c ≤ bulkL x.c := by
  refine Pred.ind _ fun x ih => fun y hy => ?_
  rw [ptsP_eq] at hy
  rcases List.mem_cons.1 hy with rfl | hy
  · exact Nat.le_refl _
  have : ∀ l : List Pred, (∀ z ∈ l, ∀ y ∈ ptsP z, bulkL y.c ≤ bulkL z.c) → ∀ y ∈ ptsPs l, bulkL y.c ≤ bulkL (l.map fun x => .agg x.c) := by
    intro l
    induction l with
    | nil => intro _ y hy; rw [ptsPs_nil] at hy; cases hy
    | cons z l ihl =>
      intro h y hy
      rw [ptsPs_cons] at hy
      simp only [List.map_cons, bulkL, AV.bulk]
      rcases List.mem_append.1 hy with hy | hy
      · have := h z (by simp) y hy; omega
      · have := ihl (fun z hz => h z (by simp [hz])) y hy; omega
  have := this x.args ih y hy
  have h2 := bulk_pred x
  rw [lPred_eq] at h2
  omega

theorem ptsO_bulk : ∀ x : Policy, ∀ y ∈ ptsO x, bulkL y.c ≤ bulkL x.c := by
  refine Policy.ind _ fun x ih => fun y hy => ?_
  rw [ptsO_eq] at hy
  rcases List.mem_cons.1 hy with rfl | hy
  · exact Nat.le_refl _
  have : ∀ l : List Policy, (∀ z ∈ l, ∀ y ∈ ptsO z, bulkL y.c ≤ bulkL z.c) → ∀ y ∈ ptsOs l, bulkL y.c ≤ bulkL (l.map fun x => .agg x.c) := by
    intro l
    induction l with
    | nil => intro _ y hy; rw [ptsOs_nil] at hy; cases hy
    | cons z l ihl =>
      intro h y hy
      rw [ptsOs_cons] at hy
      simp only [List.map_cons, bulkL, AV.bulk]
      rcases List.mem_append.1 hy with hy | hy
      · have := h z (by simp) y hy; omega
      · have := ihl (fun z hz => h z (by simp [hz])) y hy; omega
  have := this x.args ih y hy
  have h2 := bulk_policy x
  rw [lPolicy_eq] at h2
  omega

def fitP (l : List Fld) (x : Pred) : Int :=
  if x.kind ≠ 3 ∧ x.kind ≠ 4 ∧ x.kind ≠ 5 then 0
  else if (findF l x.field).2 = false then 4
  else if maxF (findF l x.field).1 < (if x.kind = 5 then x.m else x.n) ∨ (x.kind = 4 ∧ (findF l x.field).1.width < x.m) then 1 else 0
def fitGo (l : List Fld) : List Pred → Int
  | [] => 0
  | x :: r => if fitP l x = 0 then fitGo l r else fitP l x
def fitA (l : List Fld) (x : Pred) : Int := fitGo l (ptsP x)
def ckTP (l : List Fld) (x : Pred) : Int := if ckP x = 0 then fitA l x else ckP x

def polE (l : List Fld) (x : Policy) : Int :=
  if x.kind = 1 then fitA l x.pred
  else if x.kind = 2 then (if (findF l x.field).2 = false then 4 else if maxF (findF l x.field).1 < x.n then 1 else 0)
  else 0
def polGo (l : List Fld) : List Policy → Int
  | [] => 0
  | x :: r => if polE l x = 0 then polGo l r else polE l x
def ckTO (l : List Fld) (x : Policy) : Int := if ckO x = 0 then polGo l (ptsO x) else ckO x

def apartGo (l : List ByteArray) : Nat → List ByteArray → Bool
  | _, [] => true
  | i, x :: r => !(l.take i).any (fun y => decide (y = x)) && apartGo l (i + 1) r
def namesS (s : Stp) : List ByteArray := if s.field = ⟨#[]⟩ then s.key else s.key ++ [s.field]
def ckTS (l : List Fld) (s : Stp) : Int :=
  if ckS s ≠ 0 ∨ s.kind = 0 then ckS s
  else if !(namesS s).all (fun y => (findF l y).2) then 4
  else if !apartGo s.key 0 s.key then 1
  else if s.kind = 4 ∧ maxF (findF l s.field).1 < s.m then 1 else 0

def famS (k : Int) : Int := if k = 1 then 1 else if k = 2 ∨ k = 3 then 2 else if k = 4 ∨ k = 5 then 3 else 4
def widS (l : List Fld) (key : List ByteArray) : List Int := key.map fun y => (findF l y).1.width
def numS (s : Stp) : Bool := s.kind == 4 || s.kind == 6
def eqI (a b : List Int) : Bool := decide (a = b)
def agrS (l : List Fld) (s t : Stp) : Bool :=
  !((numS s && numS t) && (s.n != t.n || s.m != t.m)) && (eqI (widS l s.key) (widS l t.key) && famS s.kind == famS t.kind)
def stGo (l : List Fld) : List Stage → Int
  | [] => 0
  | x :: r => if ckTO l x.policy = 0 then (if ckTS l x.step = 0 then stGo l r else ckTS l x.step) else ckTO l x.policy
def clash (l : List Fld) (s t : Stp) : Bool := (s.kind != 0 && t.kind != 0) && (decide (s.var = t.var) && !agrS l s t)
def typGo (l : List Fld) (p : List Stage) : Nat → List Stage → Bool
  | _, [] => true
  | i, x :: r => !(p.take i).any (fun y => clash l y.step x.step) && typGo l p (i + 1) r
def ckT (l : List Fld) (p : List Stage) : Int :=
  if ckG p ≠ 0 then ckG p else if stGo l p ≠ 0 then stGo l p else if typGo l p 0 p then 0 else 11

def putGo (n : Int) : Bool → List Int → List Int
  | d, [] => if d then [] else [n]
  | d, x :: r => (if n ≤ x ∧ d = false then [n] else []) ++ ((if x ≠ n then [x] else []) ++ putGo n (d || decide (n ≤ x)) r)
def putI (l : List Int) (n : Int) : List Int := putGo n false l
def portGo (o : List Int) : List Policy → List Int
  | [] => o
  | y :: r => portGo (if y.kind = 2 ∧ y.field = portS then putI o y.n else o) r
def portsO (x : Policy) : List Int := portGo [] (ptsO x)

end Go.AI

namespace Go.AI

/-- All of a list pass a test, and no two of them are such as said. -/
def okGo {α : Type} (p : α → Bool) (q : α → α → Bool) (l : List α) : Nat → List α → Bool
  | _, [] => true
  | i, x :: r => (p x && !(l.take i).any (fun y => q y x)) && okGo p q l (i + 1) r
def okAll {α : Type} (p : α → Bool) (q : α → α → Bool) (l : List α) : Bool := okGo p q l 0 l

def hasS (l : List ByteArray) (s : ByteArray) : Bool := l.any (fun y => decide (y = s))
def isPortB (t : Tenant) (n : Int) : Bool := decide (0 ≤ n) && decide (n < (t.ports.length : Int))
def edgeAt (t : Tenant) (n : Int) : Int := (t.ports[n.toNat]?.getD Port.z).edge
def innerB (t : Tenant) (n : Int) : Bool := isPortB t n && edgeAt t n == -1
def outerB (t : Tenant) (n : Int) : Bool := isPortB t n && edgeAt t n != -1

def pnm (x : Port) : Bool := nmB x.name
def qnm (y x : Port) : Bool := decide (y.name = x.name)
def peg (m : Int) (x : Port) : Bool := decide (-1 ≤ x.edge) && decide (x.edge < m)
def qeg (y x : Port) : Bool := x.edge != -1 && y.edge == x.edge
def pwr (t : Tenant) (x : Wire) : Bool := innerB t x.src && innerB t x.dst
def qwr (y x : Wire) : Bool := y.src == x.src
def ckPo (s : Setup) (t : Tenant) : Int :=
  if nmB t.name = false then 4 else if okAll pnm qnm t.ports = false then 4
  else if okAll (peg s.network.edges.length) qeg t.ports = false then 1 else if okAll (pwr t) qwr t.wires = false then 1 else 0

def ckPrGo (t : Tenant) : List Stage → Int
  | [] => 0
  | x :: r => if (portsO x.policy).all (isPortB t) = false then 1 else if x.step.field = portS ∨ (x.step.kind = 5 ∧ hasS x.step.key portS = true) then 1 else ckPrGo t r
def ckPr (s : Setup) (t : Tenant) : Int := if ckT s.fields t.program ≠ 0 then ckT s.fields t.program else ckPrGo t t.program

mutual
def knB (l : List ByteArray) : Regex → Bool
  | ⟨k, n, xs⟩ => !(k == 2 && !hasS l n) && knBs l xs
def knBs (l : List ByteArray) : List Regex → Bool
  | [] => true
  | x :: r => knB l x && knBs l r
end
theorem knB_eq (l : List ByteArray) (x : Regex) : knB l x = (!(x.kind == 2 && !hasS l x.node) && knBs l x.args) := by cases x; rw [knB]
theorem knBs_cons (l : List ByteArray) (x : Regex) (r : List Regex) : knBs l (x :: r) = (knB l x && knBs l r) := by rw [knBs]
theorem knBs_nil (l : List ByteArray) : knBs l [] = true := by rw [knBs]
def nodeNames (n : Network) : List ByteArray := n.nodes.map (·.name)
def edgeNames (n : Network) : List ByteArray := n.edges.map (·.name)

def rouE (s : Setup) (x : Route) : Int :=
  if ckTP s.fields x.pred ≠ 0 then ckTP s.fields x.pred else if ckR x.path ≠ 0 then ckR x.path else if knB (nodeNames s.network) x.path = false then 4 else 0
def rouGo (s : Setup) : List Route → Int
  | [] => 0
  | x :: r => if rouE s x = 0 then rouGo s r else rouE s x
def pdm (t : Tenant) (d : Demand) : Bool :=
  outerB t d.src && (outerB t d.dst && (d.src != d.dst && (decide (0 ≤ d.floor) && (decide (d.floor ≤ d.ceiling) && decide (d.ceiling ≤ 1048576)))))
def qdm (y x : Demand) : Bool := y.src == x.src && y.dst == x.dst
def ck18 (s : Setup) (t : Tenant) : Int :=
  if 64 < t.ports.length ∨ 64 < t.wires.length ∨ 16 < t.routes.length ∨ 64 < t.demands.length then 2
  else if ckPo s t ≠ 0 then ckPo s t else if ckPr s t ≠ 0 then ckPr s t
  else if rouGo s t.routes ≠ 0 then rouGo s t.routes else if okAll (pdm t) qdm t.demands = false then 1 else 0

def trueB {α : Type} (_ : α) : Bool := true
def pna (x : ByteArray) : Bool := nmB x
def qna (y x : ByteArray) : Bool := decide (y = x)
def nodeB (n : Network) (x : Node) : Bool := decide (0 ≤ x.rules) && (decide (x.rules ≤ 4000) && (decide (0 ≤ x.entries) && decide (x.entries ≤ 100000)))
def linkB (n : Network) (x : Link) : Bool := isNodeB n x.src && (isNodeB n x.dst && (x.src != x.dst && (decide (0 ≤ x.capacity) && decide (x.capacity ≤ 1048576))))
def ckNet (n : Network) : Int :=
  if 200 < n.nodes.length ∨ 2000 < n.links.length ∨ 400 < n.edges.length then 2
  else if okAll pna qna (nodeNames n) = false ∨ okAll pna qna (edgeNames n) = false then 4
  else if n.nodes.all (nodeB n) = false then 1 else if n.links.all (linkB n) = false then 1 else if n.edges.all (fun x => isNodeB n x.node) = false then 1 else 0

def rightT (s : Setup) (t : Tenant) : Bool :=
  fewT t && (fewN s.network 20 40 20 && (ckNet s.network == 0 && (ckF s.fields == 0 && ck18 s t == 0)))
def wordB16 (n : Int) : Bool := decide (0 ≤ n) && decide (n ≤ 65535)

theorem putGo_len (n : Int) : ∀ (l : List Int) (d : Bool), (putGo n d l).length ≤ l.length + (if d then 0 else 1)
  | [], d => by cases d <;> simp [putGo]
  | x :: r, d => by
    have ih := putGo_len n r (d || decide (n ≤ x))
    have g1 : (if x ≠ n then [x] else []).length ≤ 1 := by split <;> simp
    simp only [putGo, List.length_append, List.length_cons]
    cases d <;> by_cases hx : n ≤ x <;> simp [hx] at ih g1 ⊢ <;> omega
theorem putI_len (o : List Int) (n : Int) : (putI o n).length ≤ o.length + 1 := by
  have := putGo_len n o false
  simpa [putI] using this

theorem portsO_len (x : Policy) : (portsO x).length ≤ (ptsO x).length := by
  have h1 : ∀ (n : Int) (l : List Int) (d : Bool), (putGo n d l).length ≤ l.length + 1 := by
    have h2 : ∀ (n : Int) (l : List Int), (putGo n true l).length ≤ l.length := by
      intro n l
      induction l with
      | nil => simp [putGo]
      | cons x r ih =>
        simp only [putGo, Bool.true_or, Bool.true_eq_false, and_false, if_false, List.nil_append, List.length_append, List.length_cons]
        have : (if x ≠ n then [x] else []).length ≤ 1 := by split <;> simp
        omega
    intro n l
    induction l with
    | nil => intro d; cases d <;> simp [putGo]
    | cons x r ih =>
      intro d
      cases d with
      | true => have := h2 n (x :: r); simp at this ⊢; omega
      | false =>
        simp only [putGo, List.length_append, List.length_cons]
        have g1 : (if x ≠ n then [x] else []).length ≤ 1 := by split <;> simp
        by_cases hx : n ≤ x
        · have := h2 n r
          simp [hx]
          simp at this g1
          omega
        · have := ih false
          simp [hx]
          simp at this g1
          omega
  have h3 : ∀ (l : List Policy) (o : List Int), (portGo o l).length ≤ o.length + l.length := by
    intro l
    induction l with
    | nil => intro o; simp [portGo]
    | cons y r ih =>
      intro o
      rw [portGo]
      refine Nat.le_trans (ih _) ?_
      have := h1 y.n o false
      simp only [List.length_cons]
      split
      · unfold putI; omega
      · omega
  have := h3 (ptsO x) []
  simpa [portsO] using this

theorem ckF_width {l : List Fld} (h : ckF l = 0) : ∀ f ∈ l, f.width ≤ 16 := by
  have : ∀ (r : List Fld) (i : Nat), ckFGo l i r = 0 → ∀ f ∈ r, f.width ≤ 16 := by
    intro r
    induction r with
    | nil => intro i _ f hf; cases hf
    | cons x r ih =>
      intro i h f hf
      rw [ckFGo] at h
      split at h
      · cases h
      split at h
      · cases h
      split at h
      · cases h
      split at h
      · cases h
      rename_i hp _
      rcases List.mem_cons.1 hf with rfl | hf
      · simp only [placeB, Bool.not_eq_true', Bool.and_eq_false_iff, not_or, Bool.not_eq_false, decide_eq_true_eq] at hp
        omega
      · exact ih _ h f hf
  unfold ckF at h
  split at h
  · cases h
  · exact this l 0 h

end Go.AI

namespace Go.AI
open Go.Proofs
@[go_sem] theorem Pred.cf_put_kind (x : Pred) (v : Int) (o0 : Option Nat) : splice (x.cf o0) 0 [.int .i64 v] = ({ x with kind := v } : Pred).cf o0 := rfl
@[go_sem] theorem Pred.cf_putN_kind (x : Pred) (v : Int) (o0 : Option Nat) : spliceN (x.cf o0) [.int .i64 v] = ({ x with kind := v } : Pred).cf o0 := rfl
@[go_sem] theorem Pred.cf_put_field (x : Pred) (v : ByteArray) (o0 : Option Nat) : splice (x.cf o0) 1 [.str v] = ({ x with field := v } : Pred).cf o0 := rfl
@[go_sem] theorem Pred.cf_put_n (x : Pred) (v : Int) (o0 : Option Nat) : splice (x.cf o0) 2 [.int .i64 v] = ({ x with n := v } : Pred).cf o0 := rfl
@[go_sem] theorem Pred.cf_put_m (x : Pred) (v : Int) (o0 : Option Nat) : splice (x.cf o0) 3 [.int .i64 v] = ({ x with m := v } : Pred).cf o0 := rfl
@[go_sem] theorem Pred.cf_put_args (x : Pred) (v : List Pred) (o0 : Option Nat) (p : Option Nat) : splice (x.cf o0) 4 [.sl p (lPred v)] = ({ x with args := v } : Pred).cf p := rfl
@[go_sem] theorem Pred.cf_put0_args (x : Pred) (o0 : Option Nat) (p : Option Nat) : splice (x.cf o0) 4 [.sl p []] = ({ x with args := [] } : Pred).cf p := rfl
@[go_sem] theorem Policy.cf_put_kind (x : Policy) (v : Int) (o0 o1 : Option Nat) : splice (x.cf o0 o1) 0 [.int .i64 v] = ({ x with kind := v } : Policy).cf o0 o1 := rfl
@[go_sem] theorem Policy.cf_putN_kind (x : Policy) (v : Int) (o0 o1 : Option Nat) : spliceN (x.cf o0 o1) [.int .i64 v] = ({ x with kind := v } : Policy).cf o0 o1 := rfl
@[go_sem] theorem Policy.cf_put_pred (x : Policy) (v : Pred) (o0 o1 : Option Nat) (p0 : Option Nat) : splice (x.cf o0 o1) 1 (v.cf p0) = ({ x with pred := v } : Policy).cf p0 o1 := rfl
@[go_sem] theorem Policy.cf_put_pred_kind (x : Policy) (v : Int) (o0 o1 : Option Nat) : splice (x.cf o0 o1) 1 [.int .i64 v] = ({ x with pred := { x.pred with kind := v } } : Policy).cf o0 o1 := rfl
@[go_sem] theorem Policy.cf_put_pred_field (x : Policy) (v : ByteArray) (o0 o1 : Option Nat) : splice (x.cf o0 o1) 2 [.str v] = ({ x with pred := { x.pred with field := v } } : Policy).cf o0 o1 := rfl
@[go_sem] theorem Policy.cf_put_pred_n (x : Policy) (v : Int) (o0 o1 : Option Nat) : splice (x.cf o0 o1) 3 [.int .i64 v] = ({ x with pred := { x.pred with n := v } } : Policy).cf o0 o1 := rfl
@[go_sem] theorem Policy.cf_put_pred_m (x : Policy) (v : Int) (o0 o1 : Option Nat) : splice (x.cf o0 o1) 4 [.int .i64 v] = ({ x with pred := { x.pred with m := v } } : Policy).cf o0 o1 := rfl
@[go_sem] theorem Policy.cf_put_pred_args (x : Policy) (v : List Pred) (o0 o1 : Option Nat) (p : Option Nat) : splice (x.cf o0 o1) 5 [.sl p (lPred v)] = ({ x with pred := { x.pred with args := v } } : Policy).cf p o1 := rfl
@[go_sem] theorem Policy.cf_put0_pred_args (x : Policy) (o0 o1 : Option Nat) (p : Option Nat) : splice (x.cf o0 o1) 5 [.sl p []] = ({ x with pred := { x.pred with args := [] } } : Policy).cf p o1 := rfl
@[go_sem] theorem Policy.cf_put_field (x : Policy) (v : ByteArray) (o0 o1 : Option Nat) : splice (x.cf o0 o1) 6 [.str v] = ({ x with field := v } : Policy).cf o0 o1 := rfl
@[go_sem] theorem Policy.cf_put_n (x : Policy) (v : Int) (o0 o1 : Option Nat) : splice (x.cf o0 o1) 7 [.int .i64 v] = ({ x with n := v } : Policy).cf o0 o1 := rfl
@[go_sem] theorem Policy.cf_put_args (x : Policy) (v : List Policy) (o0 o1 : Option Nat) (p : Option Nat) : splice (x.cf o0 o1) 8 [.sl p (lPolicy v)] = ({ x with args := v } : Policy).cf o0 p := rfl
@[go_sem] theorem Policy.cf_put0_args (x : Policy) (o0 o1 : Option Nat) (p : Option Nat) : splice (x.cf o0 o1) 8 [.sl p []] = ({ x with args := [] } : Policy).cf o0 p := rfl
end Go.AI

namespace Go.AI
open Go.Proofs
@[go_sem] theorem Variable.cf_put_name (x : Variable) (v : ByteArray) (o0 : Option Nat) : splice (x.cf o0) 0 [.str v] = ({ x with name := v } : Variable).cf o0 := rfl
@[go_sem] theorem Variable.cf_putN_name (x : Variable) (v : ByteArray) (o0 : Option Nat) : spliceN (x.cf o0) [.str v] = ({ x with name := v } : Variable).cf o0 := rfl
@[go_sem] theorem Variable.cf_put_family (x : Variable) (v : Int) (o0 : Option Nat) : splice (x.cf o0) 1 [.int .i64 v] = ({ x with family := v } : Variable).cf o0 := rfl
@[go_sem] theorem Variable.cf_put_widths (x : Variable) (v : List Int) (o0 : Option Nat) (p : Option Nat) : splice (x.cf o0) 2 [.sl p (lI64 v)] = ({ x with widths := v } : Variable).cf p := rfl
@[go_sem] theorem Variable.cf_put0_widths (x : Variable) (o0 : Option Nat) (p : Option Nat) : splice (x.cf o0) 2 [.sl p []] = ({ x with widths := [] } : Variable).cf p := rfl
@[go_sem] theorem Variable.cf_put_n (x : Variable) (v : Int) (o0 : Option Nat) : splice (x.cf o0) 3 [.int .i64 v] = ({ x with n := v } : Variable).cf o0 := rfl
@[go_sem] theorem Variable.cf_put_m (x : Variable) (v : Int) (o0 : Option Nat) : splice (x.cf o0) 4 [.int .i64 v] = ({ x with m := v } : Variable).cf o0 := rfl
end Go.AI
