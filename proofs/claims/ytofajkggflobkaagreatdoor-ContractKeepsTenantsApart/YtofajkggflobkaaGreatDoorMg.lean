/- What the functions of the layers field, graph, token, syntax compute, in plain Lean. -/
import Derived.Test.YtofajkggflobkaaGreatDoorQd
import Derived.Test.YtofajkggflobkaaGreatDoorLi
import Derived.Test.YtofajkggflobkaaGreatDoorMf
import Derived.Test.YtofajkggflobkaaGreatDoorMe
namespace Go.AI
def i64 (n : Int) : Int:=IntKind.i64.wrap n
def bz (c : UInt8) : Int:=c.toNat
def loB (c : UInt8) : Bool:=decide (97 <= bz c) && decide (bz c <= 122)
def dgB (c : UInt8) : Bool:=decide (48 <= bz c) && decide (bz c <= 57)
def wdB (c : UInt8) : Bool:=loB c || dgB c || bz c == 95
def nmGo : Nat -> List UInt8 -> Bool
 | _,[] => true
 | i,c :: l => (loB c || ((dgB c || bz c == 95) && i != 0)) && nmGo (i + 1) l
def nmB (s : ByteArray) : Bool:=nmGo 0 s.data.toList && (decide (1 <= (s.size : Int)) && decide ((s.size : Int) <= 24))
def runN : List UInt8 -> Nat
 | [] => 0
 | c :: l => if wdB c then runN l + 1 else 0
def wordB (s : ByteArray) : Bool:=words.any (fun y => decide (y = s))
def tnB (s : ByteArray) : Bool :=
 (decide (1 <= (s.size : Int)) && decide ((s.size : Int) <= 24)) && ((match s.data.toList with | c :: _ => loB c | [] => false) && (((runN s.data.toList : Int) == (s.size : Int)) && !wordB s))
def portS : ByteArray:=⟨#[112,111,114,116]⟩
def fnB (s : ByteArray) : Bool:=tnB s || decide (s = portS)
def imax (a b : Int) : Int:=if a < b then b else a
def Sizes.more (a b : Sizes) : Sizes:=⟨i64 (a.nodes + b.nodes),imax a.depth (i64 (b.depth + 1))⟩
mutual
def szP : Pred -> Sizes
 | ⟨_,_,_,_,args⟩ => szPs args ⟨1,1⟩
def szPs : List Pred -> Sizes -> Sizes
 | [],o => o
 | x :: l,o => szPs l (o.more (szP x))
end
mutual
def szO : Policy -> Sizes
 | ⟨k,p,_,_,args⟩ => szOs args (if k = 1 then Sizes.more ⟨1,1⟩ (szP p) else ⟨1,1⟩)
def szOs : List Policy -> Sizes -> Sizes
 | [],o => o
 | x :: l,o => szOs l (o.more (szO x))
end
mutual
def szR : Regex -> Sizes
 | ⟨_,_,args⟩ => szRs args ⟨1,1⟩
def szRs : List Regex -> Sizes -> Sizes
 | [],o => o
 | x :: l,o => szRs l (o.more (szR x))
end
theorem szP_eq (x : Pred) : szP x = szPs x.args ⟨1,1⟩:=by cases x; rw [szP]
theorem szPs_cons (x : Pred) (l : List Pred) (o : Sizes) : szPs (x :: l) o = szPs l (o.more (szP x)):=by rw [szPs]
theorem szPs_nil (o : Sizes) : szPs [] o = o:=by rw [szPs]
theorem szO_eq (x : Policy) : szO x = szOs x.args (if x.kind = 1 then Sizes.more ⟨1,1⟩ (szP x.pred) else ⟨1,1⟩):=by cases x; rw [szO]
theorem szOs_cons (x : Policy) (l : List Policy) (o : Sizes) : szOs (x :: l) o = szOs l (o.more (szO x)):=by rw [szOs]
theorem szOs_nil (o : Sizes) : szOs [] o = o:=by rw [szOs]
theorem szR_eq (x : Regex) : szR x = szRs x.args ⟨1,1⟩:=by cases x; rw [szR]
theorem szRs_cons (x : Regex) (l : List Regex) (o : Sizes) : szRs (x :: l) o = szRs l (o.more (szR x)):=by rw [szRs]
theorem szRs_nil (o : Sizes) : szRs [] o = o:=by rw [szRs]
mutual
def eqP : Pred -> Pred -> Bool
 | ⟨k,f,n,m,xs⟩,⟨k',f',n',m',ys⟩ => (k == k' && (decide (f = f') && (n == n' && (m == m' && xs.length == ys.length)))) && eqPs xs ys
def eqPs : List Pred -> List Pred -> Bool
 | [],_ => true
 | x :: l,y :: r => eqP x y && eqPs l r
 | _ :: _,[] => false
end
mutual
def eqO : Policy -> Policy -> Bool
 | ⟨k,p,f,n,xs⟩,⟨k',p',f',n',ys⟩ => eqP p p' && ((k == k' && (decide (f = f') && (n == n' && xs.length == ys.length))) && eqOs xs ys)
def eqOs : List Policy -> List Policy -> Bool
 | [],_ => true
 | x :: l,y :: r => eqO x y && eqOs l r
 | _ :: _,[] => false
end
theorem eqP_eq (x y : Pred) : eqP x y = ((x.kind == y.kind && (decide (x.field = y.field) && (x.n == y.n && (x.m == y.m && x.args.length == y.args.length)))) && eqPs x.args y.args):=by cases x; cases y; rw [eqP]
theorem eqPs_cons (x y : Pred) (l r : List Pred) : eqPs (x :: l) (y :: r) = (eqP x y && eqPs l r):=by rw [eqPs]
theorem eqPs_nil (l : List Pred) : eqPs [] l = true:=by rw [eqPs]
def keysEq : List ByteArray -> List ByteArray -> Bool
 | [],_ => true
 | x :: l,y :: r => decide (x = y) && keysEq l r
 | _ :: _,[] => false
theorem keysEq_cons (x y : ByteArray) (l r : List ByteArray) : keysEq (x :: l) (y :: r) = (decide (x = y) && keysEq l r):=by rw [keysEq]
theorem keysEq_nil (l : List ByteArray) : keysEq [] l = true:=by rw [keysEq]
def eqS (x y : Stp) : Bool :=
 (x.kind == y.kind && (decide (x.var = y.var) && (decide (x.field = y.field) && (x.n == y.n && (x.m == y.m && x.key.length == y.key.length))))) && keysEq x.key y.key
def w16 (n : Int) : Bool:=decide (0 <= n) && decide (n <= 65535)
def noneP (x : Pred) : Bool:=decide (x.field = ⟨#[]⟩) && (x.n == 0 && x.m == 0)
def okP (x : Pred) : Bool × Nat :=
 if x.kind = 1 \/ x.kind = 2 then (noneP x,0)
 else if x.kind = 3 then (fnB x.field && (w16 x.n && x.m == 0),0)
 else if x.kind = 4 then (fnB x.field && (w16 x.n && (decide (0 <= x.m) && decide (x.m <= 16))),0)
 else if x.kind = 5 then (fnB x.field && (decide (0 <= x.n) && (decide (x.n <= x.m) && decide (x.m <= 65535))),0)
 else if x.kind = 6 then (noneP x,1)
 else if x.kind = 7 \/ x.kind = 8 then (noneP x,2)
 else if x.kind = 9 then (decide (x.field = ⟨#[]⟩) && (decide (0 <= x.n) && (decide (x.n < x.m) && decide (x.m <= 1073741824))),0)
 else (false,0)
mutual
def fmP : Pred -> Bool
 | ⟨k,f,n,m,xs⟩ => ((okP ⟨k,f,n,m,xs⟩).1 && xs.length == (okP ⟨k,f,n,m,xs⟩).2) && fmPs xs
def fmPs : List Pred -> Bool
 | [] => true
 | x :: l => fmP x && fmPs l
end
theorem fmP_eq (x : Pred) : fmP x = (((okP x).1 && x.args.length == (okP x).2) && fmPs x.args):=by cases x; rw [fmP]
theorem fmPs_cons (x : Pred) (l : List Pred) : fmPs (x :: l) = (fmP x && fmPs l):=by rw [fmPs]
theorem fmPs_nil : fmPs [] = true:=by rw [fmPs]
abbrev emptyPred : Pred:=Pred.z
def okO (x : Policy) : Bool × Nat :=
 if x.kind = 1 then (fmP x.pred && (decide (x.field = ⟨#[]⟩) && x.n == 0),0)
 else if x.kind = 2 then (fnB x.field && (eqP x.pred emptyPred && w16 x.n),0)
 else if x.kind = 3 \/ x.kind = 4 then (eqP x.pred emptyPred && (decide (x.field = ⟨#[]⟩) && x.n == 0),2)
 else if x.kind = 5 then (eqP x.pred emptyPred && (decide (x.field = ⟨#[]⟩) && x.n == 0),1)
 else (false,0)
mutual
def fmO : Policy -> Bool
 | ⟨k,p,f,n,xs⟩ => ((okO ⟨k,p,f,n,xs⟩).1 && xs.length == (okO ⟨k,p,f,n,xs⟩).2) && fmOs xs
def fmOs : List Policy -> Bool
 | [] => true
 | x :: l => fmO x && fmOs l
end
theorem fmO_eq (x : Policy) : fmO x = (((okO x).1 && x.args.length == (okO x).2) && fmOs x.args):=by cases x; rw [fmO]
theorem fmOs_cons (x : Policy) (l : List Policy) : fmOs (x :: l) = (fmO x && fmOs l):=by rw [fmOs]
theorem fmOs_nil : fmOs [] = true:=by rw [fmOs]
def okR (x : Regex) : Bool × Nat :=
 if x.kind = 1 \/ x.kind = 3 then (decide (x.node = ⟨#[]⟩),0)
 else if x.kind = 2 then (tnB x.node,0)
 else if x.kind = 4 \/ x.kind = 5 then (decide (x.node = ⟨#[]⟩),2)
 else if x.kind = 6 then (decide (x.node = ⟨#[]⟩),1)
 else (false,0)
mutual
def fmR : Regex -> Bool
 | ⟨k,n,xs⟩ => ((okR ⟨k,n,xs⟩).1 && xs.length == (okR ⟨k,n,xs⟩).2) && fmRs xs
def fmRs : List Regex -> Bool
 | [] => true
 | x :: l => fmR x && fmRs l
end
theorem fmR_eq (x : Regex) : fmR x = (((okR x).1 && x.args.length == (okR x).2) && fmRs x.args):=by cases x; rw [fmR]
theorem fmRs_cons (x : Regex) (l : List Regex) : fmRs (x :: l) = (fmR x && fmRs l):=by rw [fmRs]
theorem fmRs_nil : fmRs [] = true:=by rw [fmRs]
def limE (z : Sizes) : Int:=if z.nodes > 200 \/ z.depth > 20 then 2 else 0
def fmE (z : Sizes) (b : Bool) : Int:=if limE z = 0 then (if b then 0 else 1) else limE z
def ckP (x : Pred) : Int:=fmE (szP x) (fmP x)
def ckO (x : Policy) : Int:=fmE (szO x) (fmO x)
def ckR (x : Regex) : Int:=fmE (szR x) (fmR x)
abbrev emptyStep : Stp:=Stp.z
def fmS (x : Stp) : Bool :=
 if eqS x emptyStep then true
 else if !tnB x.var \/ x.key.length < 1 \/ 4 < x.key.length \/ !x.key.all fnB then false
 else if x.kind = 1 then (fnB x.field || decide (x.field = ⟨#[]⟩)) && (x.n == 0 && x.m == 0)
 else if x.kind = 2 then decide (x.field = ⟨#[]⟩) && (x.n == 0 && x.m == 0)
 else if x.kind = 3 then decide (x.field = ⟨#[]⟩) && (decide (0 <= x.n) && (decide (x.n <= 1073741824) && x.m == 0))
 else if x.kind = 4 then fnB x.field && (decide (0 <= x.n) && (decide (x.n <= x.m) && decide (x.m <= 65535)))
 else if x.kind = 5 then fnB x.field && (x.n == 0 && x.m == 0)
 else if x.kind = 6 then decide (x.field = ⟨#[]⟩) && (decide (1 <= x.n) && (decide (x.n <= 65535) && (decide (1 <= x.m) && decide (x.m <= 1073741824))))
 else false
def ckS (x : Stp) : Int:=if fmS x then 0 else 1
def ckGo : List Stage -> Int
 | [] => 0
 | x :: l => if ckO x.policy = 0 then (if ckS x.step = 0 then ckGo l else ckS x.step) else ckO x.policy
def ckG (l : List Stage) : Int:=if 8 < l.length then 2 else ckGo l
mutual
def starsO : Policy -> Int
 | ⟨k,_,_,_,args⟩ => if k = 5 then i64 (starsOs args 0 + 1) else starsOs args 0
def starsOs : List Policy -> Int -> Int
 | [],o => o
 | x :: l,o => starsOs l (imax o (starsO x))
end
mutual
def putsO : Policy -> Int
 | ⟨k,_,_,_,args⟩ => if k = 2 then i64 (putsOs args 0 + 1) else putsOs args 0
def putsOs : List Policy -> Int -> Int
 | [],o => o
 | x :: l,o => putsOs l (i64 (o + putsO x))
end
theorem starsO_eq (x : Policy) : starsO x = if x.kind = 5 then i64 (starsOs x.args 0 + 1) else starsOs x.args 0:=by cases x; rw [starsO]
theorem starsOs_cons (x : Policy) (l : List Policy) (o : Int) : starsOs (x :: l) o = starsOs l (imax o (starsO x)):=by rw [starsOs]
theorem starsOs_nil (o : Int) : starsOs [] o = o:=by rw [starsOs]
theorem putsO_eq (x : Policy) : putsO x = if x.kind = 2 then i64 (putsOs x.args 0 + 1) else putsOs x.args 0:=by cases x; rw [putsO]
theorem putsOs_cons (x : Policy) (l : List Policy) (o : Int) : putsOs (x :: l) o = putsOs l (i64 (o + putsO x)):=by rw [putsOs]
theorem putsOs_nil (o : Int) : putsOs [] o = o:=by rw [putsOs]
def lightO (x : Policy) : Bool :=
 let n:=starsO x
 let k:=putsO x
 n == 0 || (n == 1 && decide (k <= 8) || (n == 2 && decide (k <= 4) || (n == 3 && decide (k <= 3) || n == 4 && decide (k <= 2))))
def fewP (x : Pred) : Bool:=decide ((szP x).nodes <= 400) && decide ((szP x).depth <= 60)
def fewO (x : Policy) : Bool:=decide ((szO x).nodes <= 400) && (decide ((szO x).depth <= 60) && decide ((szP x.pred).nodes <= 400))
def fewR (x : Regex) : Bool:=decide ((szR x).nodes <= 400) && decide ((szR x).depth <= 60)
def fewGo (l : List Stage) : Bool:=l.all fun x => fewO x.policy && decide ((x.step.key.length : Int) <= 20)
def fewG (l : List Stage) : Bool:=fewGo (l.take 12) && decide ((l.length : Int) <= 12)
def fewN (n : Network) (a b c : Int) : Bool:=decide ((n.nodes.length : Int) <= a) && (decide ((n.links.length : Int) <= b) && decide ((n.edges.length : Int) <= c))
def fewT (t : Tenant) : Bool :=
 (fewG t.program && (decide ((t.ports.length : Int) <= 80) && (decide ((t.wires.length : Int) <= 80) && (decide ((t.routes.length : Int) <= 20) && decide ((t.demands.length : Int) <= 80))))) &&
  ((t.program.all fun x => decide (starsO x.policy <= 2) && lightO x.policy) && (t.routes.all fun x => fewP x.pred && fewR x.path))
def placeB (f : Fld) : Bool :=
 decide (1 <= f.width) && (decide (f.width <= 16) && (decide (16 <= f.at_) && (decide (f.at_ <= 143) && decide (f.at_ % 16 + f.width <= 16))))
def commonB (a b : Fld) : Bool:=decide (a.at_ < i64 (b.at_ + b.width)) && decide (b.at_ < i64 (a.at_ + a.width))
def ckFGo (l : List Fld) : Nat -> List Fld -> Int
 | _,[] => 0
 | i,x :: r => if !nmB x.name \/ x.name = portS then 4 else if (l.take i).any (fun y => decide (y.name = x.name)) then 4
  else if !placeB x then 1 else if (l.take i).any (fun y => commonB y x) then 1 else ckFGo l (i + 1) r
def ckF (l : List Fld) : Int:=if 16 < l.length then 2 else ckFGo l 0 l
def isNodeB (n : Network) (k : Int) : Bool:=decide (0 <= k) && decide (k < n.nodes.length)
end Go.AI
namespace Go.AI
def fldPort : Fld:=⟨portS,0,16⟩
def findF (l : List Fld) (s : ByteArray) : Fld × Bool :=
 if s = portS then (fldPort,true) else match l.find? (fun f => decide (f.name = s)) with
  | some f => (f,true)
  | none => (Fld.z,false)
def powW : Nat -> Int
 | 0 => 1
 | n + 1 => i64 (powW n * 2)
def maxF (f : Fld) : Int:=i64 (powW f.width.toNat - 1)
mutual
def ptsP : Pred -> List Pred
 | ⟨k,f,n,m,xs⟩ => ⟨k,f,n,m,xs⟩ :: ptsPs xs
def ptsPs : List Pred -> List Pred
 | [] => []
 | x :: l => ptsP x ++ ptsPs l
end
mutual
def ptsO : Policy -> List Policy
 | ⟨k,p,f,n,xs⟩ => ⟨k,p,f,n,xs⟩ :: ptsOs xs
def ptsOs : List Policy -> List Policy
 | [] => []
 | x :: l => ptsO x ++ ptsOs l
end
theorem ptsP_eq (x : Pred) : ptsP x = x :: ptsPs x.args:=by cases x; rw [ptsP]
theorem ptsPs_cons (x : Pred) (l : List Pred) : ptsPs (x :: l) = ptsP x ++ ptsPs l:=by rw [ptsPs]
theorem ptsPs_nil : ptsPs [] = []:=by rw [ptsPs]
theorem ptsO_eq (x : Policy) : ptsO x = x :: ptsOs x.args:=by cases x; rw [ptsO]
theorem ptsOs_cons (x : Policy) (l : List Policy) : ptsOs (x :: l) = ptsO x ++ ptsOs l:=by rw [ptsOs]
theorem ptsOs_nil : ptsOs [] = []:=by rw [ptsOs]
theorem bulk_pred (x : Pred) : bulkL x.c = x.field.size + 5 + bulkL (lPred x.args):=by
 show bulkL [_,_,_,_,_] = _
 simp only [bulkL,AV.bulk]; omega
theorem bulk_policy (x : Policy) : bulkL x.c = bulkL x.pred.c + x.field.size + 4 + bulkL (lPolicy x.args):=by
 show bulkL [_,_,_,_,_,_,_,_,_] = _
 rw [bulk_pred]
 simp only [bulkL,AV.bulk]; omega
theorem ptsP_len : ∀ x : Pred,(ptsP x).length <= bulkL x.c:=by
 refine Pred.ind _ fun x ih => ?_
 rw [ptsP_eq,bulk_pred,lPred_eq]
 have : ∀ l : List Pred,(∀ y ∈ l,(ptsP y).length <= bulkL y.c) -> (ptsPs l).length <= bulkL (l.map fun x => .agg x.c):=by
  intro l
  induction l with
  | nil => intro _; simp [ptsPs_nil]
  | cons y l ihl =>
   intro h
   have h1:=h y (by simp)
   have h2:=ihl fun z hz => h z (by simp [hz])
   rw [ptsPs_cons,List.length_append]
   simp only [List.map_cons,bulkL,AV.bulk]
   omega
 have:=this x.args ih
 simp only [List.length_cons]
 omega
theorem ptsO_len : ∀ x : Policy,(ptsO x).length <= bulkL x.c:=by
 refine Policy.ind _ fun x ih => ?_
 rw [ptsO_eq,bulk_policy,lPolicy_eq]
 have : ∀ l : List Policy,(∀ y ∈ l,(ptsO y).length <= bulkL y.c) -> (ptsOs l).length <= bulkL (l.map fun x => .agg x.c):=by
  intro l
  induction l with
  | nil => intro _; simp [ptsOs_nil]
  | cons y l ihl =>
   intro h
   have h1:=h y (by simp)
   have h2:=ihl fun z hz => h z (by simp [hz])
   rw [ptsOs_cons,List.length_append]
   simp only [List.map_cons,bulkL,AV.bulk]
   omega
 have:=this x.args ih
 simp only [List.length_cons]
 omega
theorem ptsO_bulk : ∀ x : Policy,∀ y ∈ ptsO x,bulkL y.c <= bulkL x.c:=by
 refine Policy.ind _ fun x ih => fun y hy => ?_
 rw [ptsO_eq] at hy
 rcases List.mem_cons.1 hy with rfl | hy
 ·exact Nat.le_refl _
 have : ∀ l : List Policy,(∀ z ∈ l,∀ y ∈ ptsO z,bulkL y.c <= bulkL z.c) -> ∀ y ∈ ptsOs l,bulkL y.c <= bulkL (l.map fun x => .agg x.c):=by
  intro l
  induction l with
  | nil => intro _ y hy; rw [ptsOs_nil] at hy; cases hy
  | cons z l ihl =>
   intro h y hy
   rw [ptsOs_cons] at hy
   simp only [List.map_cons,bulkL,AV.bulk]
   rcases List.mem_append.1 hy with hy | hy
   ·have:=h z (by simp) y hy; omega
   ·have:=ihl (fun z hz => h z (by simp [hz])) y hy; omega
 have:=this x.args ih y hy
 have h2:=bulk_policy x
 rw [lPolicy_eq] at h2
 omega
def fitP (l : List Fld) (x : Pred) : Int :=
 if x.kind ≠ 3 /\ x.kind ≠ 4 /\ x.kind ≠ 5 then 0
 else if (findF l x.field).2 = false then 4
 else if maxF (findF l x.field).1 < (if x.kind = 5 then x.m else x.n) \/ (x.kind = 4 /\ (findF l x.field).1.width < x.m) then 1 else 0
def fitGo (l : List Fld) : List Pred -> Int
 | [] => 0
 | x :: r => if fitP l x = 0 then fitGo l r else fitP l x
def fitA (l : List Fld) (x : Pred) : Int:=fitGo l (ptsP x)
def ckTP (l : List Fld) (x : Pred) : Int:=if ckP x = 0 then fitA l x else ckP x
def polE (l : List Fld) (x : Policy) : Int :=
 if x.kind = 1 then fitA l x.pred
 else if x.kind = 2 then (if (findF l x.field).2 = false then 4 else if maxF (findF l x.field).1 < x.n then 1 else 0)
 else 0
def polGo (l : List Fld) : List Policy -> Int
 | [] => 0
 | x :: r => if polE l x = 0 then polGo l r else polE l x
def ckTO (l : List Fld) (x : Policy) : Int:=if ckO x = 0 then polGo l (ptsO x) else ckO x
def apartGo (l : List ByteArray) : Nat -> List ByteArray -> Bool
 | _,[] => true
 | i,x :: r => !(l.take i).any (fun y => decide (y = x)) && apartGo l (i + 1) r
def namesS (s : Stp) : List ByteArray:=if s.field = ⟨#[]⟩ then s.key else s.key ++ [s.field]
def ckTS (l : List Fld) (s : Stp) : Int :=
 if ckS s ≠ 0 \/ s.kind = 0 then ckS s
 else if !(namesS s).all (fun y => (findF l y).2) then 4
 else if !apartGo s.key 0 s.key then 1
 else if s.kind = 4 /\ maxF (findF l s.field).1 < s.m then 1 else 0
def famS (k : Int) : Int:=if k = 1 then 1 else if k = 2 \/ k = 3 then 2 else if k = 4 \/ k = 5 then 3 else 4
def widS (l : List Fld) (key : List ByteArray) : List Int:=key.map fun y => (findF l y).1.width
def numS (s : Stp) : Bool:=s.kind == 4 || s.kind == 6
def eqI (a b : List Int) : Bool:=decide (a = b)
def agrS (l : List Fld) (s t : Stp) : Bool :=
 !((numS s && numS t) && (s.n != t.n || s.m != t.m)) && (eqI (widS l s.key) (widS l t.key) && famS s.kind == famS t.kind)
def stGo (l : List Fld) : List Stage -> Int
 | [] => 0
 | x :: r => if ckTO l x.policy = 0 then (if ckTS l x.step = 0 then stGo l r else ckTS l x.step) else ckTO l x.policy
def clash (l : List Fld) (s t : Stp) : Bool:=(s.kind != 0 && t.kind != 0) && (decide (s.var = t.var) && !agrS l s t)
def typGo (l : List Fld) (p : List Stage) : Nat -> List Stage -> Bool
 | _,[] => true
 | i,x :: r => !(p.take i).any (fun y => clash l y.step x.step) && typGo l p (i + 1) r
def ckT (l : List Fld) (p : List Stage) : Int :=
 if ckG p ≠ 0 then ckG p else if stGo l p ≠ 0 then stGo l p else if typGo l p 0 p then 0 else 11
def putGo (n : Int) : Bool -> List Int -> List Int
 | d,[] => if d then [] else [n]
 | d,x :: r => (if n <= x /\ d = false then [n] else []) ++ ((if x ≠ n then [x] else []) ++ putGo n (d || decide (n <= x)) r)
def putI (l : List Int) (n : Int) : List Int:=putGo n false l
def portGo (o : List Int) : List Policy -> List Int
 | [] => o
 | y :: r => portGo (if y.kind = 2 /\ y.field = portS then putI o y.n else o) r
def portsO (x : Policy) : List Int:=portGo [] (ptsO x)
end Go.AI
namespace Go.AI
def okGo {α : Type} (p : α -> Bool) (q : α -> α -> Bool) (l : List α) : Nat -> List α -> Bool
 | _,[] => true
 | i,x :: r => (p x && !(l.take i).any (fun y => q y x)) && okGo p q l (i + 1) r
def okAll {α : Type} (p : α -> Bool) (q : α -> α -> Bool) (l : List α) : Bool:=okGo p q l 0 l
def hasS (l : List ByteArray) (s : ByteArray) : Bool:=l.any (fun y => decide (y = s))
def isPortB (t : Tenant) (n : Int) : Bool:=decide (0 <= n) && decide (n < (t.ports.length : Int))
def edgeAt (t : Tenant) (n : Int) : Int:=(t.ports[n.toNat]?.getD Port.z).edge
def innerB (t : Tenant) (n : Int) : Bool:=isPortB t n && edgeAt t n == -1
def outerB (t : Tenant) (n : Int) : Bool:=isPortB t n && edgeAt t n != -1
def pnm (x : Port) : Bool:=nmB x.name
def qnm (y x : Port) : Bool:=decide (y.name = x.name)
def peg (m : Int) (x : Port) : Bool:=decide (-1 <= x.edge) && decide (x.edge < m)
def qeg (y x : Port) : Bool:=x.edge != -1 && y.edge == x.edge
def pwr (t : Tenant) (x : Wire) : Bool:=innerB t x.src && innerB t x.dst
def qwr (y x : Wire) : Bool:=y.src == x.src
def ckPo (s : Setup) (t : Tenant) : Int :=
 if nmB t.name = false then 4 else if okAll pnm qnm t.ports = false then 4
 else if okAll (peg s.network.edges.length) qeg t.ports = false then 1 else if okAll (pwr t) qwr t.wires = false then 1 else 0
def ckPrGo (t : Tenant) : List Stage -> Int
 | [] => 0
 | x :: r => if (portsO x.policy).all (isPortB t) = false then 1 else if x.step.field = portS \/ (x.step.kind = 5 /\ hasS x.step.key portS = true) then 1 else ckPrGo t r
def ckPr (s : Setup) (t : Tenant) : Int:=if ckT s.fields t.program ≠ 0 then ckT s.fields t.program else ckPrGo t t.program
mutual
def knB (l : List ByteArray) : Regex -> Bool
 | ⟨k,n,xs⟩ => !(k == 2 && !hasS l n) && knBs l xs
def knBs (l : List ByteArray) : List Regex -> Bool
 | [] => true
 | x :: r => knB l x && knBs l r
end
theorem knB_eq (l : List ByteArray) (x : Regex) : knB l x = (!(x.kind == 2 && !hasS l x.node) && knBs l x.args):=by cases x; rw [knB]
theorem knBs_cons (l : List ByteArray) (x : Regex) (r : List Regex) : knBs l (x :: r) = (knB l x && knBs l r):=by rw [knBs]
theorem knBs_nil (l : List ByteArray) : knBs l [] = true:=by rw [knBs]
def nodeNames (n : Network) : List ByteArray:=n.nodes.map (·.name)
def edgeNames (n : Network) : List ByteArray:=n.edges.map (·.name)
def rouE (s : Setup) (x : Route) : Int :=
 if ckTP s.fields x.pred ≠ 0 then ckTP s.fields x.pred else if ckR x.path ≠ 0 then ckR x.path else if knB (nodeNames s.network) x.path = false then 4 else 0
def rouGo (s : Setup) : List Route -> Int
 | [] => 0
 | x :: r => if rouE s x = 0 then rouGo s r else rouE s x
def pdm (t : Tenant) (d : Demand) : Bool :=
 outerB t d.src && (outerB t d.dst && (d.src != d.dst && (decide (0 <= d.floor) && (decide (d.floor <= d.ceiling) && decide (d.ceiling <= 1048576)))))
def qdm (y x : Demand) : Bool:=y.src == x.src && y.dst == x.dst
def ck18 (s : Setup) (t : Tenant) : Int :=
 if 64 < t.ports.length \/ 64 < t.wires.length \/ 16 < t.routes.length \/ 64 < t.demands.length then 2
 else if ckPo s t ≠ 0 then ckPo s t else if ckPr s t ≠ 0 then ckPr s t
 else if rouGo s t.routes ≠ 0 then rouGo s t.routes else if okAll (pdm t) qdm t.demands = false then 1 else 0
def pna (x : ByteArray) : Bool:=nmB x
def qna (y x : ByteArray) : Bool:=decide (y = x)
def nodeB (n : Network) (x : Node) : Bool:=decide (0 <= x.rules) && (decide (x.rules <= 4000) && (decide (0 <= x.entries) && decide (x.entries <= 100000)))
def linkB (n : Network) (x : Link) : Bool:=isNodeB n x.src && (isNodeB n x.dst && (x.src != x.dst && (decide (0 <= x.capacity) && decide (x.capacity <= 1048576))))
def ckNet (n : Network) : Int :=
 if 200 < n.nodes.length \/ 2000 < n.links.length \/ 400 < n.edges.length then 2
 else if okAll pna qna (nodeNames n) = false \/ okAll pna qna (edgeNames n) = false then 4
 else if n.nodes.all (nodeB n) = false then 1 else if n.links.all (linkB n) = false then 1 else if n.edges.all (fun x => isNodeB n x.node) = false then 1 else 0
def wordB16 (n : Int) : Bool:=decide (0 <= n) && decide (n <= 65535)
theorem putGo_len (n : Int) : ∀ (l : List Int) (d : Bool),(putGo n d l).length <= l.length + (if d then 0 else 1)
 | [],d => by cases d <;> simp [putGo]
 | x :: r,d => by
  have ih:=putGo_len n r (d || decide (n <= x))
  have g1 : (if x ≠ n then [x] else []).length <= 1:=by split <;> simp
  simp only [putGo,List.length_append,List.length_cons]
  cases d <;> by_cases hx : n <= x <;> simp [hx] at ih g1 ⊢ <;> omega
theorem putI_len (o : List Int) (n : Int) : (putI o n).length <= o.length + 1:=by
 have:=putGo_len n o false
 simpa [putI] using this
theorem portsO_len (x : Policy) : (portsO x).length <= (ptsO x).length:=by
 have h1 : ∀ (n : Int) (l : List Int) (d : Bool),(putGo n d l).length <= l.length + 1:=by
  have h2 : ∀ (n : Int) (l : List Int),(putGo n true l).length <= l.length:=by
   intro n l
   induction l with
   | nil => simp [putGo]
   | cons x r ih =>
    simp only [putGo,Bool.true_or,Bool.true_eq_false,and_false,if_false,List.nil_append,List.length_append,List.length_cons]
    have : (if x ≠ n then [x] else []).length <= 1:=by split <;> simp
    omega
  intro n l
  induction l with
  | nil => intro d; cases d <;> simp [putGo]
  | cons x r ih =>
   intro d
   cases d with
   | true => have:=h2 n (x :: r); simp at this ⊢; omega
   | false =>
    simp only [putGo,List.length_append,List.length_cons]
    have g1 : (if x ≠ n then [x] else []).length <= 1:=by split <;> simp
    by_cases hx : n <= x
    ·have:=h2 n r
     simp [hx]
     simp at this g1
     omega
    ·have:=ih false
     simp [hx]
     simp at this g1
     omega
 have h3 : ∀ (l : List Policy) (o : List Int),(portGo o l).length <= o.length + l.length:=by
  intro l
  induction l with
  | nil => intro o; simp [portGo]
  | cons y r ih =>
   intro o
   rw [portGo]
   refine Nat.le_trans (ih _) ?_
   have:=h1 y.n o false
   simp only [List.length_cons]
   split
   ·unfold putI; omega
   ·omega
 have:=h3 (ptsO x) []
 simpa [portsO] using this
theorem ckF_width {l : List Fld} (h : ckF l = 0) : ∀ f ∈ l,f.width <= 16:=by
 have : ∀ (r : List Fld) (i : Nat),ckFGo l i r = 0 -> ∀ f ∈ r,f.width <= 16:=by
  intro r
  induction r with
  | nil => intro i _ f hf; cases hf
  | cons x r ih =>
   intro i h f hf
   rw [ckFGo] at h
   split at h
   ·cases h
   split at h
   ·cases h
   split at h
   ·cases h
   split at h
   ·cases h
   rename_i hp _
   rcases List.mem_cons.1 hf with rfl | hf
   ·simp only [placeB,Bool.not_eq_true',Bool.and_eq_false_iff,not_or,Bool.not_eq_false,decide_eq_true_eq] at hp
    omega
   ·exact ih _ h f hf
 unfold ckF at h
 split at h
 ·cases h
 ·exact this l 0 h
end Go.AI
namespace Go.AI
open Go.Proofs
@[go_sem] theorem Pred.cf_putN_kind (x : Pred) (v : Int) (o0 : Option Nat) : spliceN (x.cf o0) [.int .i64 v] = ({ x with kind:=v } : Pred).cf o0:=rfl
@[go_sem] theorem Pred.cf_put_field (x : Pred) (v : ByteArray) (o0 : Option Nat) : splice (x.cf o0) 1 [.str v] = ({ x with field:=v } : Pred).cf o0:=rfl
@[go_sem] theorem Pred.cf_put_n (x : Pred) (v : Int) (o0 : Option Nat) : splice (x.cf o0) 2 [.int .i64 v] = ({ x with n:=v } : Pred).cf o0:=rfl
@[go_sem] theorem Pred.cf_put_args (x : Pred) (v : List Pred) (o0 : Option Nat) (p : Option Nat) : splice (x.cf o0) 4 [.sl p (lPred v)] = ({ x with args:=v } : Pred).cf p:=rfl
@[go_sem] theorem Policy.cf_putN_kind (x : Policy) (v : Int) (o0 o1 : Option Nat) : spliceN (x.cf o0 o1) [.int .i64 v] = ({ x with kind:=v } : Policy).cf o0 o1:=rfl
@[go_sem] theorem Policy.cf_put_pred (x : Policy) (v : Pred) (o0 o1 : Option Nat) (p0 : Option Nat) : splice (x.cf o0 o1) 1 (v.cf p0) = ({ x with pred:=v } : Policy).cf p0 o1:=rfl
@[go_sem] theorem Policy.cf_put_field (x : Policy) (v : ByteArray) (o0 o1 : Option Nat) : splice (x.cf o0 o1) 6 [.str v] = ({ x with field:=v } : Policy).cf o0 o1:=rfl
@[go_sem] theorem Policy.cf_put_n (x : Policy) (v : Int) (o0 o1 : Option Nat) : splice (x.cf o0 o1) 7 [.int .i64 v] = ({ x with n:=v } : Policy).cf o0 o1:=rfl
@[go_sem] theorem Policy.cf_put_args (x : Policy) (v : List Policy) (o0 o1 : Option Nat) (p : Option Nat) : splice (x.cf o0 o1) 8 [.sl p (lPolicy v)] = ({ x with args:=v } : Policy).cf o0 p:=rfl
end Go.AI
namespace Go.AI
open Go.Proofs
@[ext] structure Pat where
 mask : Head
 bits : Head
 deriving DecidableEq,Inhabited
def Pat.c (x : Pat) : List AV:=[.int .i64 x.mask.h0,.int .i64 x.mask.h1,.int .i64 x.mask.h2,.int .i64 x.mask.h3,.int .i64 x.mask.h4,.int .i64 x.mask.h5,.int .i64 x.mask.h6,.int .i64 x.mask.h7,.int .i64 x.mask.h8,.int .i64 x.mask.h9,.int .i64 x.bits.h0,.int .i64 x.bits.h1,.int .i64 x.bits.h2,.int .i64 x.bits.h3,.int .i64 x.bits.h4,.int .i64 x.bits.h5,.int .i64 x.bits.h6,.int .i64 x.bits.h7,.int .i64 x.bits.h8,.int .i64 x.bits.h9]
theorem Pat.bk1 (x : Pat) : 1 <= bulkL x.c:=by
 have h1 : 1 <= (.int .i64 x.mask.h0 : AV).bulk:=by simp [AV.bulk]
 exact Nat.le_trans h1 (bulk_mem (List.mem_of_getElem? (i:=0) rfl))
@[go_sem] theorem Pat.cf_len (x : Pat) : x.c.length = 20:=rfl
theorem Pat.c_len (x : Pat) : x.c.length = 20:=rfl
@[go_sem] theorem Pat.cf_bor (x : Pat) : x.c.map borrow1 = x.c:=rfl
theorem Pat.c_bor (x : Pat) : x.c.map borrow1 = x.c:=rfl
@[go_sem] theorem Pat.cf_own (x : Pat) : x.c.any owned1 = false:=by
 rfl
@[go_sem] theorem Pat.cf_take (x : Pat) : x.c.take 20 = x.c:=rfl
@[go_sem] theorem Pat.cf_pure (x : Pat) : pureL x.c = true:=by
 simp [Pat.c,pureL,AV.pure]
theorem Pat.c_pure (x : Pat) : pureL x.c = true:=x.cf_pure
@[go_sem] theorem Pat.cf_bnd (k : Nat) (x : Pat) : bndL k x.c = true:=by
 simp [Pat.c,bndL,AV.bnd]
theorem Pat.c_bnd (k : Nat) (x : Pat) : bndL k x.c = true:=Pat.cf_bnd k x
@[go_sem] theorem Pat.cf_putN_mask (x : Pat) (v : Head) : spliceN x.c v.c = ({ x with mask:=v } : Pat).c:=rfl
@[go_sem] theorem Pat.cf_put_bits (x : Pat) (v : Head) : splice x.c 10 v.c = ({ x with bits:=v } : Pat).c:=rfl
def Pat.z : Pat:=⟨⟨0,0,0,0,0,0,0,0,0,0⟩,⟨0,0,0,0,0,0,0,0,0,0⟩⟩
@[go_sem] theorem Pat.zero : zeroAV Tryz.prog 267 = some (.agg Pat.z.c):=by kernel_rfl
def Pat.ok (x : Pat) : Prop:=(x.mask.ok) /\ (x.bits.ok)
theorem Pat.rd {a : AV} (h : Rd Tryz.prog 267 a) : ∃ x : Pat,a = .agg x.c /\ x.ok:=by
 obtain ⟨ps,rfl,hp⟩:=Rd.unpack (ts:=[34,34]) (by kernel_rfl) h
 obtain ⟨a0,a1,rfl,g0,g1⟩:=RdAll.split2 hp
 obtain ⟨v0,rfl,k0⟩:=Head.rd g0
 obtain ⟨v1,rfl,k1⟩:=Head.rd g1
 exact ⟨⟨v0,v1⟩,rfl,⟨k0,k1⟩⟩
def lHead (l : List Head) : List AV:=l.map fun x => .agg x.c
@[go_sem] theorem lHead_len (l : List Head) : (lHead l).length = l.length:=by simp [lHead]
theorem lHead_get {l : List Head} {i : Nat} {x : Head} (h : l[i]? = some x) : (lHead l)[i]? = some (.agg x.c):=by simp [lHead,h]
theorem lHead_cells (l : List Head) : ∀ x ∈ lHead l,x.cells.length = 10:=by
 intro x hx; obtain ⟨y,_,rfl⟩:=List.mem_map.1 hx; rfl
@[go_sem] theorem lHead_cells' (l : List Head) : (∀ x ∈ lHead l,x.cells.length = 10) = True:=eq_true (lHead_cells l)
@[go_sem] theorem lHead_nil : lHead [] = []:=rfl
@[go_sem] theorem lHead_takeF (l : List Head) (k : Nat) : (lHead l).take k = lHead (l.take k):=by simp [lHead]
@[go_sem] theorem lHead_app (a b : List Head) : lHead a ++ lHead b = lHead (a ++ b):=by simp [lHead]
@[go_sem] theorem lHead_snoc (a : List Head) (x : Head) : lHead a ++ [.agg x.c] = lHead (a ++ [x]):=by simp [lHead]
@[go_sem] theorem lHead_pure (l : List Head) : pureL (lHead l) = true:=by
 induction l with
 | nil => rfl
 | cons x xs ih => simpa [lHead,pureL,AV.pure] using ⟨Head.c_pure x,ih⟩
end Go.AI
namespace Go.AI
open Go.Proofs
set_option maxRecDepth 50000
theorem c_letter (c : UInt8) : PCall Tryz.prog 347 [.int .u8 c.toNat] (.bool (loB c)):=by
 refine pC h347_k rfl ?_
 simp only [Tryz.f347,go_sem]
 repeat' (first
  | ((first | refine cS ?_ ?_ | refine gS ?_ ?_) <;> (intro hc; simp only [go_sem,hc])))
 all_goals (simp only [loB,bz]; grind)
theorem c_digit (c : UInt8) : PCall Tryz.prog 374 [.int .u8 c.toNat] (.bool (dgB c)):=by
 refine pC h374_k rfl ?_
 simp only [Tryz.f374,go_sem]
 repeat' (first
  | ((first | refine cS ?_ ?_ | refine gS ?_ ?_) <;> (intro hc; simp only [go_sem,hc])))
 all_goals (simp only [dgB,bz]; grind)
theorem c_wordByte (c : UInt8) : PCall Tryz.prog 366 [.int .u8 c.toNat] (.bool (wdB c)):=by
 refine pC h366_k rfl ?_
 simp only [Tryz.f366,go_sem]
 repeat' (first
  | ((first | refine pK (c_letter _) ?_ | refine pK (c_digit _) ?_); simp only [go_sem])
  | ((first | refine cS ?_ ?_ | refine gS ?_ ?_) <;> (intro hc; simp only [go_sem,hc])))
 all_goals (simp only [wdB,bz]; grind)
theorem c_run (s : ByteArray) (hs : s.size <= 1073741824) : PCall Tryz.prog 349 [.str s] (.int .i64 (runN s.data.toList)):=by
 refine pC h349_k rfl ?_
 simp only [Tryz.f349,go_sem]
 refine awp_alls s (fun l => s.size - l.length + runN l) (fun k => [(0,.str s),(3,.int .i64 k)]) (by omega) rfl ?_ ?_
 ·intro k x xs hd hx hF h0 h1 hw hl
  rw [blen] at hF
  simp only [List.length_cons,runN] at hF
  simp only [go_sem,h0,h1,hx]
  repeat' (first
   | (refine pK (c_wordByte _) ?_; simp only [go_sem,hw])
   | ((first | refine cS ?_ ?_ | refine gS ?_ ?_) <;> (intro hc; simp only [go_sem,hc,hw])))
  ·simp only [Bool.not_eq_true'] at hc
   rw [hc] at hF
   have : runN s.data.toList = k:=by simp at hF; omega
   rw [this]
  ·simp only [Bool.not_eq_false'] at hc
   simp only [runN,hc]
   simp; omega
 ·intro hF hlt
  simp only [go_sem,hlt,decide_false]
  rw [blen] at hF
  simp [runN] at hF
  rw [hF]
theorem evOk0 : EvOk Tryz.prog (evTree.evt [] noOrc):=ETree.ok mixedE (fun _ h => by cases h) (noOrc_ok _) evTree_all
theorem words_pure : pureL (words.map AV.str) = true:=by kernel_rfl
theorem c_Words : PCall Tryz.prog 365 [] (.sl (some 1) (words.map AV.str)):=PCall.run evOk0 100 rfl words_pure (by kernel_rfl)
theorem c_isWord (s : ByteArray) : PCall Tryz.prog 348 [.str s] (.bool (wordB s)):=by
 refine pC h348_k rfl ?_
 simp only [Tryz.f348,go_sem]
 repeat' (first
  | (refine pK (c_Words) ?_; simp only [go_sem])
  | ((first | refine cS ?_ ?_ | refine gS ?_ ?_) <;> (intro hc; simp only [go_sem,hc])))
 refine awp_all words (fun l => l.any (fun y => decide (y = s))) (fun k => [(0,.str s),(3,.sl (some 1) (words.map AV.str)),(4,.int .i64 k)]) (by decide) rfl ?_ ?_
 ·intro k x xs hd hx hF h0 h1 hw
  have hg : (words.map AV.str)[k]? = some (.str x):=by simp [hx]
  simp only [go_sem,h0,h1,hg,List.length_map,toList_beq]
  repeat' (first
   | ((first | refine cS ?_ ?_ | refine gS ?_ ?_) <;> (intro hc; simp only [go_sem,hc,h0,h1,hg,hw,List.length_map,toList_beq])))
  ·simp only [wordB,hF,List.any_cons,hc,Bool.true_or]
 ·intro hF hlt
  simp only [go_sem,hlt,decide_false,List.length_map]
  rw [wordB,hF]; rfl
theorem c_Name10 (s : ByteArray) (hs : s.size <= 1073741824) : PCall Tryz.prog 335 [.str s] (.bool (tnB s)):=by
 refine pC h335_k rfl ?_
 by_cases hz : s.size = 0
 ·have hz2 : ((s.size : Int) == 0) = true:=by simp [hz]
  simp only [Tryz.f335,go_sem,hz2]
  simp [tnB,hz]
 ·have h0 : (0 : Int) < (s.size : Int):=by omega
  obtain ⟨x,xs,hx⟩ : ∃ x xs,s.data.toList = x :: xs:=by
   cases h : s.data.toList with
   | nil => rw [<- blen,h] at hz; simp at hz
   | cons x xs => exact ⟨x,xs,rfl⟩
  have hx0 : (s.data[0]?).getD 0 = x:=by rw [<- Array.getElem?_toList,hx]; rfl
  have hne : ((s.size : Int) == 0) = false:=by simp [hz]
  simp only [Tryz.f335,go_sem,hne]
  repeat' (first
   | ((first | refine pK (c_letter _) ?_ | refine pK (c_isWord _) ?_ | refine pK (c_run _ hs) ?_); simp only [go_sem,h0,hx0,hx])
   | ((first | refine cS ?_ ?_ | refine gS ?_ ?_) <;> (intro hc; simp only [go_sem,hc,h0,hx0,hx])))
  all_goals (simp only [tnB,hx]; grind)
theorem c_Plain (s : ByteArray) (hs : s.size <= 1073741824) : PCall Tryz.prog 308 [.str s] (.bool (tnB s)):=by
 refine pC h308_k rfl ?_
 simp only [Tryz.f308,go_sem]
 repeat' (first
  | (refine pK (c_Name10 _ hs) ?_; simp only [go_sem])
  | ((first | refine cS ?_ ?_ | refine gS ?_ ?_) <;> (intro hc; simp only [go_sem,hc])))
theorem c_Named (s : ByteArray) (hs : s.size <= 1073741824) : PCall Tryz.prog 313 [.str s] (.bool (fnB s)):=by
 refine pC h313_k rfl ?_
 simp only [Tryz.f313,go_sem]
 repeat' (first
  | (refine pK (c_Plain _ hs) ?_; simp only [go_sem])
  | ((first | refine cS ?_ ?_ | refine gS ?_ ?_) <;> (intro hc; simp only [go_sem,hc])))
 all_goals first
  | rfl
  | (simp only [toList_beq,fnB,portS,hc,Bool.false_or,Bool.true_or,Bool.not_false]; rfl)
  | grind [toList_beq,fnB,portS,Bool.false_or,Bool.true_or,Bool.not_false]
  | (simp only [toList_beq,fnB,portS,hc,Bool.false_or,Bool.true_or,Bool.not_false]; grind)
  | (simp [toList_beq,fnB,portS,hc,Bool.false_or,Bool.true_or,Bool.not_false, *]; done)
  | (simp_all [toList_beq,fnB,portS,hc,Bool.false_or,Bool.true_or,Bool.not_false]; done)
  | skip
theorem c_Name8 (s : ByteArray) (hs : s.size <= 1073741824) : PCall Tryz.prog 127 [.str s] (.bool (nmB s)):=by
 refine pC h127_k rfl ?_
 simp only [Tryz.f127,go_sem]
 refine awp_alls s (fun l => nmGo (s.size - l.length) l) (fun k => [(0,.str s),(3,.int .i64 k)]) (by omega) rfl ?_ ?_
 ·intro k x xs hd hx hF h0 h1 hw hl
  have e1 : s.size - (x :: xs).length = k:=by simp; omega
  have e2 : s.size - xs.length = k + 1:=by omega
  rw [e1,blen,Nat.sub_self] at hF
  simp only [go_sem,h0,h1,hx,e2]
  repeat' (first
   | ((first | refine cS ?_ ?_ | refine gS ?_ ?_) <;> (intro hc; simp only [go_sem,hc,h0,h1,hx,hw,e1,e2])))
  all_goals first | (simp only [nmB,hF,nmGo,loB,dgB,bz]; grind) | (simp only [nmGo,loB,dgB,bz]; grind) | skip
 ·intro hF hlt
  simp only [go_sem,hlt,decide_false]
  rw [blen,Nat.sub_self] at hF
  repeat' (first
   | ((first | refine cS ?_ ?_ | refine gS ?_ ?_) <;> (intro hc; simp only [go_sem,hc])))
  all_goals (simp only [nmB,hF,nmGo]; grind)
end Go.AI
namespace Go.AI
open Go.Proofs
set_option maxRecDepth 50000
theorem fit1 {cs : List AV} {l : List AV} (h : fitL (.agg cs :: l)) : fitL cs:=h.1
theorem fits {o : Option Nat} {es : List AV} {l : List AV} (h : fitL (.sl o es :: l)) : es.length <= 9223372036854775807:=h.1.1
theorem c_more (a b : Sizes) : PCall Tryz.prog 196 [.agg a.c,.agg b.c] (.agg (a.more b).c):=by
 refine pB h196_k rfl ?_
 simp only [Tryz.f196,go_sem]
 rfl
theorem c_szP : ∀ x : Pred,PCall Tryz.prog 123 [.agg x.c] (.agg (szP x).c):=by
 refine Pred.ind _ fun x ih => ?_
 refine PCall.fit h123_k.c fun hf => ?_
 have hl:=Pred.fit_args (fit1 hf)
 refine pB h123_k rfl ?_
 simp only [Tryz.f123,go_sem]
 refine awp_lst x.args (fun o l => szPs l o) (fun _ _ => True) (fun k o => [(1,.ptr 0 0),(2,.ptr 1 0),(3,.ptr 2 0),(4,.int .i64 k)]) (fun k o => [some x.c,some Sizes.z.c,some o.c]) ⟨1,1⟩ hl trivial rfl rfl ?_ ?_
 ·intro k o y ys hd hx _ hF h0 h1 hw
  have hm:=List.mem_of_getElem? hx
  simp only [go_sem,h0,h1,lPred_get hx]
  repeat' (first
   | ((first | refine pK (ih _ hm) ?_ | refine pK (c_more _ _) ?_); simp only [go_sem,h0,h1,hw,lPred_get hx])
   | ((first | refine cS ?_ ?_ | refine gS ?_ ?_) <;> (intro hc; simp only [go_sem,hc,h0,h1,hw,lPred_get hx])))
  exact ⟨_,szPs_cons _ _ _,rfl,rfl⟩
 ·intro o _ hF
  simp only [go_sem,Int.lt_irrefl,decide_false]
  rw [szP_eq,hF,szPs_nil]
theorem c_szR : ∀ x : Regex,PCall Tryz.prog 195 [.agg x.c] (.agg (szR x).c):=by
 refine Regex.ind _ fun x ih => ?_
 refine PCall.fit h195_k.c fun hf => ?_
 have hl:=Regex.fit_args (fit1 hf)
 refine pB h195_k rfl ?_
 simp only [Tryz.f195,go_sem]
 refine awp_lst x.args (fun o l => szRs l o) (fun _ _ => True) (fun k o => [(1,.ptr 0 0),(2,.ptr 1 0),(3,.ptr 2 0),(4,.int .i64 k)]) (fun k o => [some x.c,some Sizes.z.c,some o.c]) ⟨1,1⟩ hl trivial rfl rfl ?_ ?_
 ·intro k o y ys hd hx _ hF h0 h1 hw
  have hm:=List.mem_of_getElem? hx
  simp only [go_sem,h0,h1,lRegex_get hx]
  repeat' (first
   | ((first | refine pK (ih _ hm) ?_ | refine pK (c_more _ _) ?_); simp only [go_sem,h0,h1,hw,lRegex_get hx])
   | ((first | refine cS ?_ ?_ | refine gS ?_ ?_) <;> (intro hc; simp only [go_sem,hc,h0,h1,hw,lRegex_get hx])))
  exact ⟨_,szRs_cons _ _ _,rfl,rfl⟩
 ·intro o _ hF
  simp only [go_sem,Int.lt_irrefl,decide_false]
  rw [szR_eq,hF,szRs_nil]
theorem c_szO : ∀ x : Policy,PCall Tryz.prog 257 [.agg x.c] (.agg (szO x).c):=by
 refine Policy.ind _ fun x ih => ?_
 refine PCall.fit h257_k.c fun hf => ?_
 have hl:=Policy.fit_args (fit1 hf)
 refine pB h257_k rfl ?_
 simp only [Tryz.f257,go_sem]
 repeat' (first
  | ((first | refine pK (c_szP _) ?_ | refine pK (c_more _ _) ?_); simp only [go_sem])
  | ((first | refine cS ?_ ?_ | refine gS ?_ ?_) <;> (intro hc; simp only [go_sem,hc])))
 ·have hs : szO x = szOs x.args (Sizes.more ⟨1,1⟩ (szP x.pred)):=by rw [szO_eq,if_pos (by simpa using hc)]
  refine awp_lst x.args (fun o l => szOs l o) (fun _ _ => True) (fun k o => [(1,.ptr 0 0),(2,.ptr 1 0),(3,.ptr 2 0),(4,.int .i64 k)]) (fun k o => [some x.c,some Sizes.z.c,some o.c]) (Sizes.more ⟨1,1⟩ (szP x.pred)) hl trivial rfl rfl ?_ ?_
  ·intro k o y ys hd hx _ hF h0 h1 hw
   have hm:=List.mem_of_getElem? hx
   simp only [go_sem,h0,h1,lPolicy_get hx]
   repeat' (first
    | ((first | refine pK (ih _ hm) ?_ | refine pK (c_more _ _) ?_); simp only [go_sem,h0,h1,hw,lPolicy_get hx])
    | ((first | refine cS ?_ ?_ | refine gS ?_ ?_) <;> (intro hc; simp only [go_sem,hc,h0,h1,hw,lPolicy_get hx])))
   exact ⟨_,szOs_cons _ _ _,rfl,rfl⟩
  ·intro o _ hF
   rw [szOs_nil] at hF
   simp only [go_sem,Int.lt_irrefl,decide_false]
   rw [hs,hF]
 ·have hs : szO x = szOs x.args ⟨1,1⟩:=by rw [szO_eq,if_neg (by simpa using hc)]
  refine awp_lst x.args (fun o l => szOs l o) (fun _ _ => True) (fun k o => [(1,.ptr 0 0),(2,.ptr 1 0),(3,.ptr 2 0),(4,.int .i64 k)]) (fun k o => [some x.c,some Sizes.z.c,some o.c]) (⟨1,1⟩) hl trivial rfl rfl ?_ ?_
  ·intro k o y ys hd hx _ hF h0 h1 hw
   have hm:=List.mem_of_getElem? hx
   simp only [go_sem,h0,h1,lPolicy_get hx]
   repeat' (first
    | ((first | refine pK (ih _ hm) ?_ | refine pK (c_more _ _) ?_); simp only [go_sem,h0,h1,hw,lPolicy_get hx])
    | ((first | refine cS ?_ ?_ | refine gS ?_ ?_) <;> (intro hc; simp only [go_sem,hc,h0,h1,hw,lPolicy_get hx])))
   exact ⟨_,szOs_cons _ _ _,rfl,rfl⟩
  ·intro o _ hF
   rw [szOs_nil] at hF
   simp only [go_sem,Int.lt_irrefl,decide_false]
   rw [hs,hF]
theorem c_starsO : ∀ x : Policy,PCall Tryz.prog 120 [.agg x.c] (.int .i64 (starsO x)):=by
 refine Policy.ind _ fun x ih => ?_
 refine PCall.fit h120_k.c fun hf => ?_
 have hl:=Policy.fit_args (fit1 hf)
 refine pC h120_k rfl ?_
 simp only [Tryz.f120,go_sem]
 refine awp_lst x.args (fun o l => starsOs l o) (fun _ _ => True) (fun k o => [(1,.ptr 0 0),(3,.int .i64 o),(4,.int .i64 k)]) (fun k o => [some x.c]) 0 hl trivial rfl rfl ?_ ?_
 ·intro k o y ys hd hx _ hF h0 h1 hw
  have hm:=List.mem_of_getElem? hx
  simp only [go_sem,h0,h1,lPolicy_get hx]
  repeat' (first
   | (refine pK (ih _ hm) ?_; simp only [go_sem,h0,h1,hw,lPolicy_get hx])
   | ((first | refine cS ?_ ?_ | refine gS ?_ ?_) <;> (intro hc; simp only [go_sem,hc,h0,h1,hw,lPolicy_get hx])))
  exact ⟨_,starsOs_cons _ _ _,rfl,rfl⟩
 ·intro o _ hF
  rw [starsOs_nil] at hF
  simp only [go_sem,Int.lt_irrefl,decide_false]
  repeat' (first
   | ((first | refine cS ?_ ?_ | refine gS ?_ ?_) <;> (intro hc; simp only [go_sem,hc])))
  all_goals first
   | rfl
   | (simp only [starsO_eq,hF,i64]; rfl)
   | grind [starsO_eq,i64]
   | (simp only [starsO_eq,hF,i64]; grind)
   | (simp [starsO_eq,hF,i64, *]; done)
   | (simp_all [starsO_eq,hF,i64]; done)
   | skip
theorem c_putsO : ∀ x : Policy,PCall Tryz.prog 194 [.agg x.c] (.int .i64 (putsO x)):=by
 refine Policy.ind _ fun x ih => ?_
 refine PCall.fit h194_k.c fun hf => ?_
 have hl:=Policy.fit_args (fit1 hf)
 refine pC h194_k rfl ?_
 simp only [Tryz.f194,go_sem]
 refine awp_lst x.args (fun o l => putsOs l o) (fun _ _ => True) (fun k o => [(1,.ptr 0 0),(3,.int .i64 o),(4,.int .i64 k)]) (fun k o => [some x.c]) 0 hl trivial rfl rfl ?_ ?_
 ·intro k o y ys hd hx _ hF h0 h1 hw
  have hm:=List.mem_of_getElem? hx
  simp only [go_sem,h0,h1,lPolicy_get hx]
  repeat' (first
   | (refine pK (ih _ hm) ?_; simp only [go_sem,h0,h1,hw,lPolicy_get hx])
   | ((first | refine cS ?_ ?_ | refine gS ?_ ?_) <;> (intro hc; simp only [go_sem,hc,h0,h1,hw,lPolicy_get hx])))
  exact ⟨_,putsOs_cons _ _ _,rfl,rfl⟩
 ·intro o _ hF
  rw [putsOs_nil] at hF
  simp only [go_sem,Int.lt_irrefl,decide_false]
  repeat' (first
   | ((first | refine cS ?_ ?_ | refine gS ?_ ?_) <;> (intro hc; simp only [go_sem,hc])))
  all_goals first
   | rfl
   | (simp only [putsO_eq,hF,i64]; rfl)
   | grind [putsO_eq,i64]
   | (simp only [putsO_eq,hF,i64]; grind)
   | (simp [putsO_eq,hF,i64, *]; done)
   | (simp_all [putsO_eq,hF,i64]; done)
   | skip
theorem c_lightO (x : Policy) : PCall Tryz.prog 121 [.agg x.c] (.bool (lightO x)):=by
 refine pC h121_k rfl ?_
 simp only [Tryz.f121,go_sem]
 repeat' (first
  | ((first | refine pK (c_starsO _) ?_ | refine pK (c_putsO _) ?_); simp only [go_sem])
  | ((first | refine cS ?_ ?_ | refine gS ?_ ?_) <;> (intro hc; simp only [go_sem,hc])))
 all_goals first
  | rfl
  | (simp only [lightO]; rfl)
  | grind [lightO]
  | (simp only [lightO]; grind)
  | (simp [lightO, *]; done)
  | (simp_all [lightO]; done)
  | skip
theorem c_fewP (x : Pred) : PCall Tryz.prog 70 [.agg x.c] (.bool (fewP x)):=by
 refine pC h70_k rfl ?_
 simp only [Tryz.f70,go_sem]
 repeat' (first
  | (refine pK (c_szP _) ?_; simp only [go_sem])
  | ((first | refine cS ?_ ?_ | refine gS ?_ ?_) <;> (intro hc; simp only [go_sem,hc])))
 all_goals first
  | rfl
  | (simp only [fewP]; rfl)
  | grind [fewP]
  | (simp only [fewP]; grind)
  | (simp [fewP, *]; done)
  | (simp_all [fewP]; done)
  | skip
theorem c_fewR (x : Regex) : PCall Tryz.prog 122 [.agg x.c] (.bool (fewR x)):=by
 refine pC h122_k rfl ?_
 simp only [Tryz.f122,go_sem]
 repeat' (first
  | (refine pK (c_szR _) ?_; simp only [go_sem])
  | ((first | refine cS ?_ ?_ | refine gS ?_ ?_) <;> (intro hc; simp only [go_sem,hc])))
 all_goals first
  | rfl
  | (simp only [fewR]; rfl)
  | grind [fewR]
  | (simp only [fewR]; grind)
  | (simp [fewR, *]; done)
  | (simp_all [fewR]; done)
  | skip
theorem c_fewO (x : Policy) : PCall Tryz.prog 193 [.agg x.c] (.bool (fewO x)):=by
 refine pC h193_k rfl ?_
 simp only [Tryz.f193,go_sem]
 repeat' (first
  | ((first | refine pK (c_szO _) ?_ | refine pK (c_szP _) ?_); simp only [go_sem])
  | ((first | refine cS ?_ ?_ | refine gS ?_ ?_) <;> (intro hc; simp only [go_sem,hc])))
 all_goals first
  | rfl
  | (simp only [fewO]; rfl)
  | grind [fewO]
  | (simp only [fewO]; grind)
  | (simp [fewO, *]; done)
  | (simp_all [fewO]; done)
  | skip
end Go.AI
namespace Go.AI
open Go.Proofs
set_option maxRecDepth 50000
theorem c_fewG (x : List Stage) : PCall Tryz.prog 119 [.sl none (lStage x)] (.bool (fewG x)):=by
 refine PCall.fit h119_k.c fun hf => ?_
 have hl:=fits hf
 rw [lStage_len] at hl
 refine pC h119_k rfl ?_
 simp only [Tryz.f119,go_sem]
 refine awp_all x (fun r => fewGo (r.take (12 - (x.length - r.length)))) (fun k => [(0,.sl none (lStage x)),(3,.int .i64 k)]) hl rfl ?_ ?_
 ·intro k y ys hd hx hF h0 h1 hw
  have hk:=drop_len hd
  have e1 : x.length - (ys.length + 1) = k:=by omega
  have e2 : x.length - ys.length = k + 1:=by omega
  simp only [List.length_cons,e1,Nat.sub_self,Nat.sub_zero] at hF
  simp only [go_sem,h0,h1,lStage_get hx,e1,e2]
  rcases Nat.lt_or_ge k 12 with h12 | h12
  ·have e3 : 12 - k = (12 - (k + 1)) + 1:=by omega
   rw [e3,List.take_succ_cons] at hF
   repeat' (first
    | (refine pK (c_fewO _) ?_; simp only [go_sem,h0,h1,hw,lStage_get hx,e1,e2])
    | ((first | refine cS ?_ ?_ | refine gS ?_ ?_) <;> (intro hc; simp only [go_sem,hc,h0,h1,hw,lStage_get hx,e1,e2])))
   all_goals first
    | rfl
    | (simp only [fewG,fewGo,e3]; rfl)
    | grind [fewG,fewGo]
    | (simp only [fewG,fewGo,e3]; grind)
    | (simp [fewG,fewGo,e3, *]; done)
    | (simp_all [fewG,fewGo,e3]; done)
    | skip
  ·have e3 : 12 - k = 0:=by omega
   rw [e3,List.take_zero] at hF
   have h13 : ¬ (k : Int) < 12:=by omega
   simp only [go_sem,h13,decide_false]
   repeat' (first
    | (refine pK (c_fewO _) ?_; simp only [go_sem,h0,h1,hw,lStage_get hx,e1,e2])
    | ((first | refine cS ?_ ?_ | refine gS ?_ ?_) <;> (intro hc; simp only [go_sem,hc,h0,h1,hw,lStage_get hx,e1,e2])))
   all_goals first
    | rfl
    | (simp only [fewG,fewGo]; rfl)
    | grind [fewG,fewGo]
    | (simp only [fewG,fewGo]; grind)
    | (simp [fewG,fewGo, *]; done)
    | (simp_all [fewG,fewGo]; done)
    | skip
 ·intro hF hlt
  simp only [go_sem,hlt,decide_false]
  repeat' (first
   | ((first | refine cS ?_ ?_ | refine gS ?_ ?_) <;> (intro hc; simp only [go_sem,hc])))
  all_goals first
   | rfl
   | (simp only [fewG,fewGo]; rfl)
   | grind [fewG,fewGo]
   | (simp only [fewG,fewGo]; grind)
   | (simp [fewG,fewGo, *]; done)
   | (simp_all [fewG,fewGo]; done)
   | skip
theorem c_fewT (t : Tenant) : PCall Tryz.prog 69 [.agg t.c] (.bool (fewT t)):=by
 refine PCall.fit h69_k.c fun hf => ?_
 have hl1:=Tenant.fit_program (fit1 hf)
 have hl2:=Tenant.fit_routes (fit1 hf)
 refine pC h69_k rfl ?_
 simp only [Tryz.f69,go_sem]
 repeat' (first
  | (refine pK (c_fewG _) ?_; simp only [go_sem])
  | ((first | refine cS ?_ ?_ | refine gS ?_ ?_) <;> (intro hc; simp only [go_sem,hc])))
 all_goals first
  | rfl
  | (simp only [fewT]; rfl)
  | grind [fewT]
  | (simp only [fewT]; grind)
  | (simp [fewT, *]; done)
  | (simp_all [fewT]; done)
  | skip
 refine awp_all t.program (fun r => r.all fun x => decide (starsO x.policy <= 2) && lightO x.policy) (fun k => [(1,.ptr 0 0),(4,.int .i64 k)]) hl1 rfl ?_ ?_
 ·intro k y ys hd hx hF h0 h1 hw
  simp only [go_sem,h0,h1,lStage_get hx]
  repeat' (first
   | ((first | refine pK (c_starsO _) ?_ | refine pK (c_lightO _) ?_); simp only [go_sem,h0,h1,hw,lStage_get hx])
   | ((first | refine cS ?_ ?_ | refine gS ?_ ?_) <;> (intro hc; simp only [go_sem,hc,h0,h1,hw,lStage_get hx])))
  all_goals first
   | rfl
   | (simp only [fewT,List.all_cons,List.all_nil]; rfl)
   | grind [fewT]
   | (simp only [fewT,List.all_cons,List.all_nil]; grind)
   | (simp [fewT,List.all_cons,List.all_nil, *]; done)
   | (simp_all [fewT,List.all_cons,List.all_nil]; done)
   | skip
  skip
 ·intro hF hlt
  simp only [go_sem,hlt,decide_false]
  refine awp_all t.routes (fun r => r.all fun x => fewP x.pred && fewR x.path) (fun k => [(1,.ptr 0 0),(5,.int .i64 k)]) hl2 rfl ?_ ?_
  ·intro k y ys hd hx hF h0 h1 hw
   simp only [go_sem,h0,h1,lRoute_get hx]
   repeat' (first
    | ((first | refine pK (c_fewP _) ?_ | refine pK (c_fewR _) ?_); simp only [go_sem,h0,h1,hw,lRoute_get hx])
    | ((first | refine cS ?_ ?_ | refine gS ?_ ?_) <;> (intro hc; simp only [go_sem,hc,h0,h1,hw,lRoute_get hx])))
   all_goals first
    | rfl
    | (simp only [fewT,List.all_cons,List.all_nil]; rfl)
    | grind [fewT]
    | (simp only [fewT,List.all_cons,List.all_nil]; grind)
    | (simp [fewT,List.all_cons,List.all_nil, *]; done)
    | (simp_all [fewT,List.all_cons,List.all_nil]; done)
    | skip
   skip
  ·intro hF2 hlt2
   simp only [go_sem,hlt2,decide_false]
   repeat' (first
    | ((first | refine cS ?_ ?_ | refine gS ?_ ?_) <;> (intro hc; simp only [go_sem,hc])))
   all_goals first
    | rfl
    | (simp only [fewT,List.all_cons,List.all_nil]; rfl)
    | grind [fewT]
    | (simp only [fewT,List.all_cons,List.all_nil]; grind)
    | (simp [fewT,List.all_cons,List.all_nil, *]; done)
    | (simp_all [fewT,List.all_cons,List.all_nil]; done)
    | skip
   skip
theorem c_eqP : ∀ x y : Pred,PCall Tryz.prog 314 [.agg x.c,.agg y.c] (.bool (eqP x y)):=by
 refine Pred.ind _ fun x ih => fun y => ?_
 refine PCall.fit h314_k.c fun hf => ?_
 have hl:=Pred.fit_args (fit1 hf)
 refine pC h314_k rfl ?_
 simp only [Tryz.f314,go_sem,toList_beq]
 repeat' (first
  | ((first | refine cS ?_ ?_ | refine gS ?_ ?_) <;> (intro hc; simp only [go_sem,hc,toList_beq])))
 all_goals first
  | rfl
  | (simp only [eqP_eq]; rfl)
  | grind [eqP_eq]
  | (simp only [eqP_eq]; grind)
  | (simp [eqP_eq, *]; done)
  | (simp_all [eqP_eq]; done)
  | skip
 have hll : x.args.length = y.args.length:=by grind
 refine awp_all x.args (fun r => eqPs r (y.args.drop (x.args.length - r.length))) (fun k => [(2,.ptr 0 0),(3,.ptr 1 0),(5,.int .i64 k)]) hl rfl ?_ ?_
 ·intro k z zs hd hx hF h0 h1 hw
  have hk:=drop_len hd
  obtain ⟨w,hy⟩ : ∃ w,y.args[k]? = some w:=⟨_,List.getElem?_eq_getElem (by omega)⟩
  have e1 : x.args.length - (z :: zs).length = k:=by simp; omega
  have e2 : x.args.length - zs.length = k + 1:=by omega
  have e3 : y.args.drop k = w :: y.args.drop (k + 1):=by rw [List.drop_eq_getElem_cons (by omega)]; congr 1; grind
  have h2 : (k : Int) < (y.args.length : Int):=by omega
  rw [e1,e3,Nat.sub_self,List.drop_zero,eqPs_cons] at hF
  have hm:=List.mem_of_getElem? hx
  simp only [go_sem,h0,h1,h2,lPred_get hx,lPred_get hy,e1,e2,e3]
  repeat' (first
   | (refine pK (ih _ hm _) ?_; simp only [go_sem,h0,h1,h2,hw,lPred_get hx,lPred_get hy,e1,e2,e3])
   | ((first | refine cS ?_ ?_ | refine gS ?_ ?_) <;> (intro hc; simp only [go_sem,hc,h0,h1,h2,hw,lPred_get hx,lPred_get hy,e1,e2,e3])))
  all_goals first
   | rfl
   | (simp only [eqP_eq,eqPs_cons,hF]; rfl)
   | grind [eqP_eq,eqPs_cons]
   | (simp only [eqP_eq,eqPs_cons,hF]; grind)
   | (simp [eqP_eq,eqPs_cons,hF, *]; done)
   | (simp_all [eqP_eq,eqPs_cons,hF]; done)
   | skip
 ·intro hF hlt
  simp only [go_sem,hlt,decide_false]
  all_goals first
   | rfl
   | (simp only [eqP_eq,eqPs_nil]; rfl)
   | grind [eqP_eq,eqPs_nil]
   | (simp only [eqP_eq,eqPs_nil]; grind)
   | (simp [eqP_eq,eqPs_nil, *]; done)
   | (simp_all [eqP_eq,eqPs_nil]; done)
   | skip
end Go.AI
namespace Go.AI
open Go.Proofs
set_option maxRecDepth 50000
theorem c_eqS (x y : Stp) : PCall Tryz.prog 315 [.agg x.c,.agg y.c] (.bool (eqS x y)):=by
 refine PCall.fit h315_k.c fun hf => ?_
 have hl:=Stp.fit_key (fit1 hf)
 refine pC h315_k rfl ?_
 simp only [Tryz.f315,go_sem,toList_beq]
 repeat' (first
  | ((first | refine cS ?_ ?_ | refine gS ?_ ?_) <;> (intro hc; simp only [go_sem,hc,toList_beq])))
 all_goals first
  | rfl
  | (simp only [eqS]; rfl)
  | grind [eqS]
  | (simp only [eqS]; grind)
  | (simp [eqS, *]; done)
  | (simp_all [eqS]; done)
  | skip
 have hll : x.key.length = y.key.length:=by grind
 refine awp_all x.key (fun r => keysEq r (y.key.drop (x.key.length - r.length))) (fun k => [(2,.ptr 0 0),(3,.ptr 1 0),(5,.int .i64 k)]) hl rfl ?_ ?_
 ·intro k z zs hd hx hF h0 h1 hw
  have hk:=drop_len hd
  obtain ⟨w,hy⟩ : ∃ w,y.key[k]? = some w:=⟨_,List.getElem?_eq_getElem (by omega)⟩
  have e1 : x.key.length - (z :: zs).length = k:=by simp; omega
  have e2 : x.key.length - zs.length = k + 1:=by omega
  have e3 : y.key.drop k = w :: y.key.drop (k + 1):=by rw [List.drop_eq_getElem_cons (by omega)]; congr 1; grind
  have h2 : (k : Int) < (y.key.length : Int):=by omega
  rw [e1,e3,Nat.sub_self,List.drop_zero,keysEq_cons] at hF
  have hm:=List.mem_of_getElem? hx
  simp only [go_sem,h0,h1,h2,lStr_get hx,lStr_get hy,e1,e2,e3,toList_beq]
  repeat' (first
   | ((first | refine cS ?_ ?_ | refine gS ?_ ?_) <;> (intro hc; simp only [go_sem,hc,h0,h1,h2,hw,lStr_get hx,lStr_get hy,e1,e2,e3,toList_beq])))
  all_goals first
   | rfl
   | (simp only [eqS,keysEq_cons,hF]; rfl)
   | grind [eqS,keysEq_cons]
   | (simp only [eqS,keysEq_cons,hF]; grind)
   | (simp [eqS,keysEq_cons,hF, *]; done)
   | (simp_all [eqS,keysEq_cons,hF]; done)
   | skip
 ·intro hF hlt
  simp only [go_sem,hlt,decide_false]
  all_goals first
   | rfl
   | (simp only [eqS,keysEq_nil]; rfl)
   | grind [eqS,keysEq_nil]
   | (simp only [eqS,keysEq_nil]; grind)
   | (simp [eqS,keysEq_nil, *]; done)
   | (simp_all [eqS,keysEq_nil]; done)
   | skip
end Go.AI
namespace Go.AI
open Go.Proofs
set_option maxRecDepth 50000
set_option maxHeartbeats 8000000 in
theorem c_fmP : ∀ x : Pred,bulkL x.c <= 1073741824 -> PCall Tryz.prog 270 [.agg x.c] (.bool (fmP x)):=by
 refine Pred.ind _ fun x ih => fun hb => ?_
 have hl : x.args.length <= 9223372036854775807:=Nat.le_trans (lPred_bn (Pred.bl_args hb)) (by decide)
 refine pC h270_k rfl ?_
 simp only [Tryz.f270,go_sem,toList_beq]
 repeat' (first
  | (refine pK (c_Named _ (Pred.bk_field hb)) ?_; simp only [go_sem,toList_beq])
  | ((first | refine cS ?_ ?_ | refine gS ?_ ?_) <;> (intro hc; simp only [go_sem,hc,toList_beq])))
 all_goals first
  | rfl
  | (simp only [fmP_eq,okP,noneP,w16]; rfl)
  | grind [fmP_eq,okP,noneP,w16]
  | (simp only [fmP_eq,okP,noneP,w16]; grind)
  | (simp [fmP_eq,okP,noneP,w16, *]; done)
  | (simp_all [fmP_eq,okP,noneP,w16]; done)
  | skip
 all_goals
  have ho : ((okP x).1 && x.args.length == (okP x).2) = true:=by grind [okP,noneP,w16]
  refine awp_all x.args (fun r => fmPs r) (fun k => [(1,.ptr 0 0),(6,.int .i64 x.args.length),(8,.int .i64 k)]) hl (by grind) ?_ ?_
  ·intro k y ys hd hx hF h0 h1 hw
   have hm:=List.mem_of_getElem? hx
   have hby : bulkL y.c <= 1073741824:=by have:=lPred_bk (Pred.bl_args hb) hm; simpa only [AV.bulk] using this
   simp only [go_sem,h0,h1,lPred_get hx]
   repeat' (first
    | (refine pK (ih _ hm hby) ?_; simp only [go_sem,h0,h1,hw,lPred_get hx])
    | ((first | refine cS ?_ ?_ | refine gS ?_ ?_) <;> (intro hc; simp only [go_sem,hc,h0,h1,hw,lPred_get hx])))
   ·rw [fmP_eq,ho,hF,fmPs_cons]
    simp only [Bool.not_eq_true'] at hc
    rw [hc]; rfl
   ·rw [fmPs_cons]
    simp only [Bool.not_eq_false'] at hc
    rw [hc]; rfl
  ·intro hF hlt
   simp only [go_sem,hlt,decide_false]
   rw [fmP_eq,ho,hF,fmPs_nil]; rfl
end Go.AI
namespace Go.AI
open Go.Proofs
set_option maxRecDepth 50000
set_option maxHeartbeats 8000000 in
theorem c_fmO : ∀ x : Policy,bulkL x.c <= 1073741824 -> PCall Tryz.prog 269 [.agg x.c] (.bool (fmO x)):=by
 refine Policy.ind _ fun x ih => fun hb => ?_
 have hl : x.args.length <= 9223372036854775807:=Nat.le_trans (lPolicy_bn (Policy.bl_args hb)) (by decide)
 refine pC h269_k rfl ?_
 simp only [Tryz.f269,go_sem,toList_beq]
 repeat' (first
  | ((first | refine pK (c_Named _ (Policy.bk_field hb)) ?_ | refine pK (PCall.lend (c_eqP x.pred Pred.z)) ?_ | refine pK (c_fmP _ (Policy.bs_pred hb)) ?_); simp only [go_sem,toList_beq])
  | ((first | refine cS ?_ ?_ | refine gS ?_ ?_) <;> (intro hc; simp only [go_sem,hc,toList_beq])))
 all_goals first
  | rfl
  | (simp only [fmO_eq,okO,w16]; rfl)
  | grind [fmO_eq,okO,w16]
  | (simp only [fmO_eq,okO,w16]; grind)
  | (simp [fmO_eq,okO,w16, *]; done)
  | (simp_all [fmO_eq,okO,w16]; done)
  | skip
 all_goals
  have ho : ((okO x).1 && x.args.length == (okO x).2) = true:=by grind [okO,w16]
  refine awp_all x.args (fun r => fmOs r) (fun k => [(1,.ptr 0 0),(6,.int .i64 x.args.length),(8,.int .i64 k)]) hl (by grind) ?_ ?_
  ·intro k y ys hd hx hF h0 h1 hw
   have hm:=List.mem_of_getElem? hx
   have hby : bulkL y.c <= 1073741824:=by have:=lPolicy_bk (Policy.bl_args hb) hm; simpa only [AV.bulk] using this
   simp only [go_sem,h0,h1,lPolicy_get hx]
   repeat' (first
    | (refine pK (ih _ hm hby) ?_; simp only [go_sem,h0,h1,hw,lPolicy_get hx])
    | ((first | refine cS ?_ ?_ | refine gS ?_ ?_) <;> (intro hc; simp only [go_sem,hc,h0,h1,hw,lPolicy_get hx])))
   ·rw [fmO_eq,ho,hF,fmOs_cons]
    simp only [Bool.not_eq_true'] at hc
    rw [hc]; rfl
   ·rw [fmOs_cons]
    simp only [Bool.not_eq_false'] at hc
    rw [hc]; rfl
  ·intro hF hlt
   simp only [go_sem,hlt,decide_false]
   rw [fmO_eq,ho,hF,fmOs_nil]; rfl
set_option maxHeartbeats 8000000 in
theorem c_fmR : ∀ x : Regex,bulkL x.c <= 1073741824 -> PCall Tryz.prog 263 [.agg x.c] (.bool (fmR x)):=by
 refine Regex.ind _ fun x ih => fun hb => ?_
 have hl : x.args.length <= 9223372036854775807:=Nat.le_trans (lRegex_bn (Regex.bl_args hb)) (by decide)
 refine pC h263_k rfl ?_
 simp only [Tryz.f263,go_sem,toList_beq]
 repeat' (first
  | (refine pK (c_Plain _ (Regex.bk_node hb)) ?_; simp only [go_sem,toList_beq])
  | ((first | refine cS ?_ ?_ | refine gS ?_ ?_) <;> (intro hc; simp only [go_sem,hc,toList_beq])))
 all_goals first
  | rfl
  | (simp only [fmR_eq,okR]; rfl)
  | grind [fmR_eq,okR]
  | (simp only [fmR_eq,okR]; grind)
  | (simp [fmR_eq,okR, *]; done)
  | (simp_all [fmR_eq,okR]; done)
  | skip
 all_goals
  have ho : ((okR x).1 && x.args.length == (okR x).2) = true:=by grind [okR]
  refine awp_all x.args (fun r => fmRs r) (fun k => [(1,.ptr 0 0),(4,.int .i64 x.args.length),(6,.int .i64 k)]) hl (by grind) ?_ ?_
  ·intro k y ys hd hx hF h0 h1 hw
   have hm:=List.mem_of_getElem? hx
   have hby : bulkL y.c <= 1073741824:=by have:=lRegex_bk (Regex.bl_args hb) hm; simpa only [AV.bulk] using this
   simp only [go_sem,h0,h1,lRegex_get hx]
   repeat' (first
    | (refine pK (ih _ hm hby) ?_; simp only [go_sem,h0,h1,hw,lRegex_get hx])
    | ((first | refine cS ?_ ?_ | refine gS ?_ ?_) <;> (intro hc; simp only [go_sem,hc,h0,h1,hw,lRegex_get hx])))
   ·rw [fmR_eq,ho,hF,fmRs_cons]
    simp only [Bool.not_eq_true'] at hc
    rw [hc]; rfl
   ·rw [fmRs_cons]
    simp only [Bool.not_eq_false'] at hc
    rw [hc]; rfl
  ·intro hF hlt
   simp only [go_sem,hlt,decide_false]
   rw [fmR_eq,ho,hF,fmRs_nil]; rfl
end Go.AI
namespace Go.AI
open Go.Proofs
set_option maxRecDepth 50000
theorem c_limit (z : Sizes) : PCall Tryz.prog 307 [.agg z.c] (.int .i64 (limE z)):=by
 refine pC h307_k rfl ?_
 simp only [Tryz.f307,go_sem]
 repeat' (first
  | ((first | refine cS ?_ ?_ | refine gS ?_ ?_) <;> (intro hc; simp only [go_sem,hc])))
 all_goals first
  | rfl
  | (simp only [limE]; rfl)
  | grind [limE]
  | (simp only [limE]; grind)
  | (simp [limE, *]; done)
  | (simp_all [limE]; done)
  | skip
theorem c_formed (z : Sizes) (b : Bool) : PCall Tryz.prog 262 [.agg z.c,.bool b] (.int .i64 (fmE z b)):=by
 refine pC h262_k rfl ?_
 simp only [Tryz.f262,go_sem]
 repeat' (first
  | (refine pK (c_limit _) ?_; simp only [go_sem])
  | ((first | refine cS ?_ ?_ | refine gS ?_ ?_) <;> (intro hc; simp only [go_sem,hc])))
 all_goals first
  | rfl
  | (simp only [fmE]; rfl)
  | grind [fmE]
  | (simp only [fmE]; grind)
  | (simp [fmE, *]; done)
  | (simp_all [fmE]; done)
  | skip
theorem c_ckP (x : Pred) (hb : bulkL x.c <= 1073741824) : PCall Tryz.prog 204 [.agg x.c] (.int .i64 (ckP x)):=by
 refine pC h204_k rfl ?_
 simp only [Tryz.f204,go_sem]
 repeat' (first
  | ((first | refine pK (c_szP _) ?_ | refine pK (c_fmP _ hb) ?_ | refine pK (c_formed _ _) ?_); simp only [go_sem])
  | ((first | refine cS ?_ ?_ | refine gS ?_ ?_) <;> (intro hc; simp only [go_sem,hc])))
 all_goals first
  | rfl
  | (simp only [ckP]; rfl)
  | grind [ckP]
  | (simp only [ckP]; grind)
  | (simp [ckP, *]; done)
  | (simp_all [ckP]; done)
  | skip
theorem c_ckO (x : Policy) (hb : bulkL x.c <= 1073741824) : PCall Tryz.prog 203 [.agg x.c] (.int .i64 (ckO x)):=by
 refine pC h203_k rfl ?_
 simp only [Tryz.f203,go_sem]
 repeat' (first
  | ((first | refine pK (c_szO _) ?_ | refine pK (c_fmO _ hb) ?_ | refine pK (c_formed _ _) ?_); simp only [go_sem])
  | ((first | refine cS ?_ ?_ | refine gS ?_ ?_) <;> (intro hc; simp only [go_sem,hc])))
 all_goals first
  | rfl
  | (simp only [ckO]; rfl)
  | grind [ckO]
  | (simp only [ckO]; grind)
  | (simp [ckO, *]; done)
  | (simp_all [ckO]; done)
  | skip
theorem c_ckR (x : Regex) (hb : bulkL x.c <= 1073741824) : PCall Tryz.prog 199 [.agg x.c] (.int .i64 (ckR x)):=by
 refine pC h199_k rfl ?_
 simp only [Tryz.f199,go_sem]
 repeat' (first
  | ((first | refine pK (c_szR _) ?_ | refine pK (c_fmR _ hb) ?_ | refine pK (c_formed _ _) ?_); simp only [go_sem])
  | ((first | refine cS ?_ ?_ | refine gS ?_ ?_) <;> (intro hc; simp only [go_sem,hc])))
 all_goals first
  | rfl
  | (simp only [ckR]; rfl)
  | grind [ckR]
  | (simp only [ckR]; grind)
  | (simp [ckR, *]; done)
  | (simp_all [ckR]; done)
  | skip
set_option maxHeartbeats 8000000 in
theorem c_fmS (x : Stp) (hb : bulkL x.c <= 1073741824) : PCall Tryz.prog 273 [.agg x.c] (.bool (fmS x)):=by
 have hl : x.key.length <= 9223372036854775807:=Nat.le_trans (lStr_bn (Stp.bl_key hb)) (by decide)
 refine pC h273_k rfl ?_
 simp only [Tryz.f273,go_sem,toList_beq]
 repeat' (first
  | ((first | refine pK (PCall.lend (c_eqS x Stp.z)) ?_ | refine pK (c_Plain _ (Stp.bk_var hb)) ?_); simp only [go_sem,toList_beq])
  | ((first | refine cS ?_ ?_ | refine gS ?_ ?_) <;> (intro hc; simp only [go_sem,hc,toList_beq])))
 all_goals first
  | rfl
  | (simp only [fmS]; rfl)
  | grind [fmS]
  | (simp only [fmS]; grind)
  | (simp [fmS, *]; done)
  | (simp_all [fmS]; done)
  | skip
 refine awp_all x.key (fun r => r.all fnB) (fun k => [(1,.ptr 0 0),(5,.int .i64 k)]) hl rfl ?_ ?_
 ·intro k y ys hd hx hF h0 h1 hw
  have hm:=List.mem_of_getElem? hx
  have hby : y.size <= 1073741824:=by have:=lStr_bk (Stp.bl_key hb) hm; simp only [AV.bulk] at this; omega
  simp only [go_sem,h0,h1,lStr_get hx]
  repeat' (first
   | (refine pK (c_Named _ hby) ?_; simp only [go_sem,h0,h1,hw,lStr_get hx])
   | ((first | refine cS ?_ ?_ | refine gS ?_ ?_) <;> (intro hc; simp only [go_sem,hc,h0,h1,hw,lStr_get hx])))
  all_goals first
   | rfl
   | (simp only [fmS,List.all_cons]; rfl)
   | grind [fmS]
   | (simp only [fmS,List.all_cons]; grind)
   | (simp [fmS,List.all_cons, *]; done)
   | (simp_all [fmS,List.all_cons]; done)
   | skip
 ·intro hF hlt
  simp only [go_sem,hlt,decide_false]
  repeat' (first
   | (refine pK (c_Named _ (Stp.bk_field hb)) ?_; simp only [go_sem,toList_beq])
   | ((first | refine cS ?_ ?_ | refine gS ?_ ?_) <;> (intro hc; simp only [go_sem,hc,toList_beq])))
  all_goals first
   | rfl
   | (simp only [fmS,List.all_nil]; rfl)
   | grind [fmS]
   | (simp only [fmS,List.all_nil]; grind)
   | (simp [fmS,List.all_nil, *]; done)
   | (simp_all [fmS,List.all_nil]; done)
   | skip
theorem c_ckS (x : Stp) (hb : bulkL x.c <= 1073741824) : PCall Tryz.prog 206 [.agg x.c] (.int .i64 (ckS x)):=by
 refine pC h206_k rfl ?_
 simp only [Tryz.f206,go_sem]
 repeat' (first
  | (refine pK (c_fmS _ hb) ?_; simp only [go_sem])
  | ((first | refine cS ?_ ?_ | refine gS ?_ ?_) <;> (intro hc; simp only [go_sem,hc])))
 all_goals first
  | rfl
  | (simp only [ckS]; rfl)
  | grind [ckS]
  | (simp only [ckS]; grind)
  | (simp [ckS, *]; done)
  | (simp_all [ckS]; done)
  | skip
theorem c_ckG (x : List Stage) (hb : bulkL (lStage x) <= 1073741824) : PCall Tryz.prog 136 [.sl none (lStage x)] (.int .i64 (ckG x)):=by
 have hl : x.length <= 9223372036854775807:=Nat.le_trans (lStage_bn hb) (by decide)
 refine pC h136_k rfl ?_
 simp only [Tryz.f136,go_sem]
 repeat' (first
  | ((first | refine cS ?_ ?_ | refine gS ?_ ?_) <;> (intro hc; simp only [go_sem,hc])))
 all_goals first
  | rfl
  | (simp only [ckG]; rfl)
  | grind [ckG]
  | (simp only [ckG]; grind)
  | (simp [ckG, *]; done)
  | (simp_all [ckG]; done)
  | skip
 refine awp_all x (fun r => ckGo r) (fun k => [(0,.sl none (lStage x)),(3,.int .i64 k)]) hl rfl ?_ ?_
 ·intro k y ys hd hx hF h0 h1 hw
  have hm:=List.mem_of_getElem? hx
  have hby : bulkL y.c <= 1073741824:=by have:=lStage_bk hb hm; simpa only [AV.bulk] using this
  simp only [go_sem,h0,h1,lStage_get hx]
  repeat' (first
   | ((first | refine pK (c_ckO _ (Stage.bs_policy hby)) ?_ | refine pK (c_ckS _ (Stage.bs_step hby)) ?_); simp only [go_sem,h0,h1,hw,lStage_get hx])
   | ((first | refine cS ?_ ?_ | refine gS ?_ ?_) <;> (intro hc; simp only [go_sem,hc,h0,h1,hw,lStage_get hx])))
  all_goals first
   | rfl
   | (simp only [ckG,ckGo]; rfl)
   | grind [ckG,ckGo]
   | (simp only [ckG,ckGo]; grind)
   | (simp [ckG,ckGo, *]; done)
   | (simp_all [ckG,ckGo]; done)
   | skip
 ·intro hF hlt
  simp only [go_sem,hlt,decide_false]
  all_goals first
   | rfl
   | (simp only [ckG,ckGo]; rfl)
   | grind [ckG,ckGo]
   | (simp only [ckG,ckGo]; grind)
   | (simp [ckG,ckGo, *]; done)
   | (simp_all [ckG,ckGo]; done)
   | skip
end Go.AI
namespace Go.AI
open Go.Proofs
set_option maxRecDepth 50000
theorem c_Port8 : PCall Tryz.prog 274 [] (.agg fldPort.c):=by
 have h : PCall Tryz.prog 274 [] (.agg fldPort.c):=PCall.run evOk0 100 rfl (by kernel_rfl) (by kernel_rfl)
 exact h
theorem c_Find (l : List Fld) (s : ByteArray) : PCall Tryz.prog 208 [.sl none (lFld l),.str s] (.tup [.agg (findF l s).1.c,.bool (findF l s).2]):=by
 refine PCall.fit h208_k.c fun hf => ?_
 have hl:=fits hf
 rw [lFld_len] at hl
 refine pB h208_k rfl ?_
 simp only [Tryz.f208,go_sem,toList_beq]
 repeat' (first
  | (refine pK (c_Port8) ?_; simp only [go_sem,toList_beq])
  | ((first | refine cS ?_ ?_ | refine gS ?_ ?_) <;> (intro hc; simp only [go_sem,hc,toList_beq])))
 all_goals first
  | rfl
  | (simp only [findF,portS]; rfl)
  | grind [findF,portS]
  | (simp only [findF,portS]; grind)
  | (simp [findF,portS, *]; done)
  | (simp_all [findF,portS]; done)
  | skip
 ·refine awp_all l (fun r => r.find? (fun f => decide (f.name = s))) (fun k => [(0,.sl none (lFld l)),(1,.str s),(4,.ptr 0 0),(6,.int .i64 k)]) hl rfl ?_ ?_
  ·intro k y ys hd hx hF h0 h1 hw
   simp only [go_sem,h0,h1,lFld_get hx,toList_beq]
   repeat' (first
    | ((first | refine cS ?_ ?_ | refine gS ?_ ?_) <;> (intro hc; simp only [go_sem,hc,h0,h1,hw,lFld_get hx,toList_beq])))
   all_goals first
    | rfl
    | (simp only [findF,portS]; rfl)
    | grind [findF,portS]
    | (simp only [findF,portS]; grind)
    | (simp [findF,portS, *]; done)
    | (simp_all [findF,portS]; done)
    | skip
  ·intro hF hlt
   simp only [go_sem,hlt,decide_false]
   all_goals first
    | rfl
    | (simp only [findF,portS]; rfl)
    | grind [findF,portS]
    | (simp only [findF,portS]; grind)
    | (simp [findF,portS, *]; done)
    | (simp_all [findF,portS]; done)
    | skip
theorem c_power (n : Int) (hn : n < 9223372036854775807) : PCall Tryz.prog 275 [.int .i64 n] (.int .i64 (powW n.toNat)):=by
 refine pC h275_k rfl ?_
 simp only [Tryz.f275,go_sem]
 refine awp_for n.toNat (fun k => [(0,.int .i64 n),(3,.int .i64 (powW k)),(4,.int .i64 k)]) (fun _ => []) rfl rfl ?_
 intro k hk
 by_cases h : (k : Int) < n
 ·have hw:=w64s (k:=k) (by omega)
  simp only [go_sem,h,decide_true,hw]
  exact ⟨by omega,rfl,rfl⟩
 ·have : k = n.toNat:=by omega
  subst this
  simp only [go_sem,h,decide_false]
theorem c_maxF (f : Fld) (hn : f.width < 9223372036854775807) : PCall Tryz.prog 209 [.agg f.c] (.int .i64 (maxF f)):=by
 refine pC h209_k rfl ?_
 simp only [Tryz.f209,go_sem]
 repeat' (first
  | (refine pK (c_power _ hn) ?_; simp only [go_sem])
  | ((first | refine cS ?_ ?_ | refine gS ?_ ?_) <;> (intro hc; simp only [go_sem,hc])))
 all_goals first
  | rfl
  | (simp only [maxF]; rfl)
  | grind [maxF]
  | (simp only [maxF]; grind)
  | (simp [maxF, *]; done)
  | (simp_all [maxF]; done)
  | skip
theorem c_ptsP : ∀ x : Pred,bulkL x.c <= 1073741824 -> PCall Tryz.prog 271 [.agg x.c] (.sl none (lPred (ptsP x))):=by
 refine Pred.ind _ fun x ih => fun hb => ?_
 have hl : x.args.length <= 9223372036854775807:=Nat.le_trans (lPred_bn (Pred.bl_args hb)) (by decide)
 have hn:=Nat.le_trans (ptsP_len x) hb
 refine pB h271_k rfl ?_
 simp only [Tryz.f271,go_sem]
 refine awp_lst x.args (fun o l => o ++ ptsPs l) (fun _ _ => True) (fun k o => [(1,.ptr 0 0),(3,.sl (some 5) (lPred o)),(4,.int .i64 k)]) (fun k o => [some x.c]) [x] hl trivial (by rw [lPred_eq]; rfl) rfl ?_ ?_
 ·intro k o y ys hd hx _ hF h0 h1 hw
  have hm:=List.mem_of_getElem? hx
  have hby : bulkL y.c <= 1073741824:=by have:=lPred_bk (Pred.bl_args hb) hm; simpa only [AV.bulk] using this
  have hlen : o.length + (ptsP y).length <= 1073741824:=by
   have:=congrArg List.length hF
   rw [ptsPs_cons] at this
   rw [ptsP_eq] at hn
   simp at this hn
   omega
  simp only [go_sem,h0,h1,lPred_get hx]
  repeat' (first
   | (refine pK (ih _ hm hby) ?_; simp only [go_sem,h0,h1,hw,lPred_get hx])
   | ((first | refine cS ?_ ?_ | refine gS ?_ ?_) <;> (intro hc; simp only [go_sem,hc,h0,h1,hw,lPred_get hx])))
  exact ⟨by omega,by omega,o ++ ptsP y,by rw [ptsPs_cons,List.append_assoc],rfl,rfl⟩
 ·intro o _ hF
  simp only [go_sem,Int.lt_irrefl,decide_false]
  rw [ptsP_eq]
  simp only [ptsPs_nil,List.append_nil] at hF
  rw [<- hF]; rfl
theorem c_ptsO : ∀ x : Policy,bulkL x.c <= 1073741824 -> PCall Tryz.prog 207 [.agg x.c] (.sl none (lPolicy (ptsO x))):=by
 refine Policy.ind _ fun x ih => fun hb => ?_
 have hl : x.args.length <= 9223372036854775807:=Nat.le_trans (lPolicy_bn (Policy.bl_args hb)) (by decide)
 have hn:=Nat.le_trans (ptsO_len x) hb
 refine pB h207_k rfl ?_
 simp only [Tryz.f207,go_sem]
 refine awp_lst x.args (fun o l => o ++ ptsOs l) (fun _ _ => True) (fun k o => [(1,.ptr 0 0),(3,.sl (some 9) (lPolicy o)),(4,.int .i64 k)]) (fun k o => [some x.c]) [x] hl trivial (by rw [lPolicy_eq]; rfl) rfl ?_ ?_
 ·intro k o y ys hd hx _ hF h0 h1 hw
  have hm:=List.mem_of_getElem? hx
  have hby : bulkL y.c <= 1073741824:=by have:=lPolicy_bk (Policy.bl_args hb) hm; simpa only [AV.bulk] using this
  have hlen : o.length + (ptsO y).length <= 1073741824:=by
   have:=congrArg List.length hF
   rw [ptsOs_cons] at this
   rw [ptsO_eq] at hn
   simp at this hn
   omega
  simp only [go_sem,h0,h1,lPolicy_get hx]
  repeat' (first
   | (refine pK (ih _ hm hby) ?_; simp only [go_sem,h0,h1,hw,lPolicy_get hx])
   | ((first | refine cS ?_ ?_ | refine gS ?_ ?_) <;> (intro hc; simp only [go_sem,hc,h0,h1,hw,lPolicy_get hx])))
  exact ⟨by omega,by omega,o ++ ptsO y,by rw [ptsOs_cons,List.append_assoc],rfl,rfl⟩
 ·intro o _ hF
  simp only [go_sem,Int.lt_irrefl,decide_false]
  rw [ptsO_eq]
  simp only [ptsOs_nil,List.append_nil] at hF
  rw [<- hF]; rfl
theorem c_fitP (l : List Fld) (x : Pred) (hl : ∀ f ∈ l,f.width <= 9000000000000000000) : PCall Tryz.prog 272 [.sl none (lFld l),.agg x.c] (.int .i64 (fitP l x)):=by
 have hw : (findF l x.field).1.width < 9223372036854775807:=by
  unfold findF
  split
  ·decide
  ·split
   ·rename_i f hf
    have:=hl f (List.mem_of_find?_eq_some hf)
    show f.width < _
    omega
   ·decide
 refine pC h272_k rfl ?_
 simp only [Tryz.f272,go_sem]
 repeat' (first
  | ((first | refine pK (c_Find _ _) ?_ | refine pK (c_maxF _ hw) ?_); simp only [go_sem])
  | ((first | refine cS ?_ ?_ | refine gS ?_ ?_) <;> (intro hc; simp only [go_sem,hc])))
 all_goals first
  | rfl
  | (simp only [fitP]; rfl)
  | grind [fitP]
  | (simp only [fitP]; grind)
  | (simp [fitP, *]; done)
  | (simp_all [fitP]; done)
  | skip
theorem c_fitA (l : List Fld) (x : Pred) (hl : ∀ f ∈ l,f.width <= 9000000000000000000) (hb : bulkL x.c <= 1073741824) : PCall Tryz.prog 205 [.sl none (lFld l),.agg x.c] (.int .i64 (fitA l x)):=by
 have hn:=Nat.le_trans (ptsP_len x) hb
 refine pC h205_k rfl ?_
 simp only [Tryz.f205,go_sem]
 repeat' (first
  | (refine pK (c_ptsP _ hb) ?_; simp only [go_sem])
  | ((first | refine cS ?_ ?_ | refine gS ?_ ?_) <;> (intro hc; simp only [go_sem,hc])))
 refine awp_all (ptsP x) (fun r => fitGo l r) (fun k => [(0,.sl none (lFld l)),(5,.sl none (lPred (ptsP x))),(6,.int .i64 k)]) (by omega) rfl ?_ ?_
 ·intro k y ys hd hx hF h0 h1 hw
  simp only [go_sem,h0,h1,lPred_get hx]
  repeat' (first
   | (refine pK (c_fitP _ _ hl) ?_; simp only [go_sem,h0,h1,hw,lPred_get hx])
   | ((first | refine cS ?_ ?_ | refine gS ?_ ?_) <;> (intro hc; simp only [go_sem,hc,h0,h1,hw,lPred_get hx])))
  all_goals first
   | rfl
   | (simp only [fitA,fitGo]; rfl)
   | grind [fitA,fitGo]
   | (simp only [fitA,fitGo]; grind)
   | (simp [fitA,fitGo, *]; done)
   | (simp_all [fitA,fitGo]; done)
   | skip
 ·intro hF hlt
  simp only [go_sem,hlt,decide_false]
  all_goals first
   | rfl
   | (simp only [fitA,fitGo]; rfl)
   | grind [fitA,fitGo]
   | (simp only [fitA,fitGo]; grind)
   | (simp [fitA,fitGo, *]; done)
   | (simp_all [fitA,fitGo]; done)
   | skip
end Go.AI
namespace Go.AI
open Go.Proofs
set_option maxRecDepth 50000
abbrev okF (l : List Fld) : Prop:=∀ f ∈ l,f.width <= 9000000000000000000
theorem findF_w {l : List Fld} (hl : okF l) (s : ByteArray) : (findF l s).1.width < 9223372036854775807:=by
 unfold findF
 split
 ·decide
 ·split
  ·rename_i f hf
   have:=hl f (List.mem_of_find?_eq_some hf)
   show f.width < _
   omega
  ·decide
theorem c_numS (s : Stp) : PCall Tryz.prog 147 [.agg s.c] (.bool (numS s)):=by
 refine pC h147_k rfl ?_
 simp only [Tryz.f147,go_sem]
 repeat' (first
  | ((first | refine cS ?_ ?_ | refine gS ?_ ?_) <;> (intro hc; simp only [go_sem,hc])))
 all_goals first
  | rfl
  | (simp only [numS]; rfl)
  | grind [numS]
  | (simp only [numS]; grind)
  | (simp [numS, *]; done)
  | (simp_all [numS]; done)
  | skip
theorem c_famS (k : Int) : PCall Tryz.prog 145 [.int .i64 k] (.int .i64 (famS k)):=by
 refine pC h145_k rfl ?_
 simp only [Tryz.f145,go_sem]
 repeat' (first
  | ((first | refine cS ?_ ?_ | refine gS ?_ ?_) <;> (intro hc; simp only [go_sem,hc])))
 all_goals first
  | rfl
  | (simp only [famS]; rfl)
  | grind [famS]
  | (simp only [famS]; grind)
  | (simp [famS, *]; done)
  | (simp_all [famS]; done)
  | skip
theorem c_widS (l : List Fld) (key : List ByteArray) (hk : key.length <= 1073741824) : PCall Tryz.prog 146 [.sl none (lFld l),.sl none (lStr key)] (.sl none (lI64 (widS l key))):=by
 refine pB h146_k rfl ?_
 simp only [Tryz.f146,go_sem]
 refine awp_lst key (fun o r => o ++ widS l r) (fun k o => o.length = k) (fun k o => [(0,.sl none (lFld l)),(1,.sl none (lStr key)),(5,.sl (some 1) (lI64 o)),(6,.int .i64 k)]) (fun k o => []) [] (by omega) rfl rfl rfl ?_ ?_
 ·intro k o y ys hd hx hI hF h0 h1 hw
  have hk2:=drop_len hd
  simp only [go_sem,h0,h1,lStr_get hx]
  repeat' (first
   | (refine pK (c_Find _ _) ?_; simp only [go_sem,h0,h1,hw,lStr_get hx])
   | ((first | refine cS ?_ ?_ | refine gS ?_ ?_) <;> (intro hc; simp only [go_sem,hc,h0,h1,hw,lStr_get hx])))
  exact ⟨by omega,by omega,o ++ [(findF l y).1.width],by simp [widS],by simp [hI],rfl,rfl⟩
 ·intro o hI hF
  simp only [go_sem,Int.lt_irrefl,decide_false]
  simp only [widS,List.map_nil,List.append_nil,List.nil_append] at hF
  rw [widS,hF]
theorem c_eqI (a b : List Int) : PCall Tryz.prog 210 [.sl none (lI64 a),.sl none (lI64 b)] (.bool (eqI a b)):=by
 refine PCall.fit h210_k.c fun hf => ?_
 have hl:=fits hf
 rw [lI64_len] at hl
 refine pC h210_k rfl ?_
 simp only [Tryz.f210,go_sem]
 repeat' (first
  | ((first | refine cS ?_ ?_ | refine gS ?_ ?_) <;> (intro hc; simp only [go_sem,hc])))
 all_goals first
  | rfl
  | (simp only [eqI]; rfl)
  | grind [eqI]
  | (simp only [eqI]; grind)
  | (simp [eqI, *]; done)
  | (simp_all [eqI]; done)
  | skip
 have hll : a.length = b.length:=by grind
 refine awp_all a (fun r => decide (r = b.drop (a.length - r.length))) (fun k => [(0,.sl none (lI64 a)),(1,.sl none (lI64 b)),(5,.int .i64 k)]) hl rfl ?_ ?_
 ·intro k z zs hd hx hF h0 h1 hw
  have hk:=drop_len hd
  obtain ⟨w,hy⟩ : ∃ w,b[k]? = some w:=⟨_,List.getElem?_eq_getElem (by omega)⟩
  have e1 : a.length - (zs.length + 1) = k:=by omega
  have e2 : a.length - zs.length = k + 1:=by omega
  have e3 : b.drop k = w :: b.drop (k + 1):=by rw [List.drop_eq_getElem_cons (by omega)]; congr 1; grind
  have h2 : (k : Int) < (b.length : Int):=by omega
  simp only [List.length_cons,e1,Nat.sub_self,List.drop_zero,e3] at hF
  simp only [go_sem,h0,h1,h2,lI64_get hx,lI64_get hy,e1,e2,e3]
  repeat' (first
   | ((first | refine cS ?_ ?_ | refine gS ?_ ?_) <;> (intro hc; simp only [go_sem,hc,h0,h1,h2,hw,lI64_get hx,lI64_get hy,e1,e2,e3])))
  all_goals first
   | rfl
   | (simp only [eqI,hF,List.cons.injEq]; rfl)
   | grind [eqI,List.cons.injEq]
   | (simp only [eqI,hF,List.cons.injEq]; grind)
   | (simp [eqI,hF,List.cons.injEq, *]; done)
   | (simp_all [eqI,hF,List.cons.injEq]; done)
   | skip
 ·intro hF hlt
  simp only [go_sem,hlt,decide_false]
  simp only [Nat.sub_self,List.drop_zero,List.length_nil,Nat.sub_zero] at hF
  have h3 : b.drop a.length = []:=by rw [hll]; simp
  simp only [h3] at hF
  rw [eqI,hF]; rfl
theorem c_agrS (l : List Fld) (s t : Stp) (h1 : s.key.length <= 1073741824) (h2 : t.key.length <= 1073741824) : PCall Tryz.prog 139 [.sl none (lFld l),.agg s.c,.agg t.c] (.bool (agrS l s t)):=by
 refine pC h139_k rfl ?_
 simp only [Tryz.f139,go_sem]
 repeat' (first
  | ((first | refine pK (c_numS _) ?_ | refine pK (c_widS _ _ h1) ?_ | refine pK (c_widS _ _ h2) ?_ | refine pK (c_eqI _ _) ?_ | refine pK (c_famS _) ?_); simp only [go_sem])
  | ((first | refine cS ?_ ?_ | refine gS ?_ ?_) <;> (intro hc; simp only [go_sem,hc])))
 all_goals first
  | rfl
  | (simp only [agrS]; rfl)
  | grind [agrS]
  | (simp only [agrS]; grind)
  | (simp [agrS, *]; done)
  | (simp_all [agrS]; done)
  | skip
theorem c_ckTP (l : List Fld) (x : Pred) (hl : okF l) (hb : bulkL x.c <= 1073741824) : PCall Tryz.prog 135 [.sl none (lFld l),.agg x.c] (.int .i64 (ckTP l x)):=by
 refine pC h135_k rfl ?_
 simp only [Tryz.f135,go_sem]
 repeat' (first
  | ((first | refine pK (c_ckP _ hb) ?_ | refine pK (c_fitA _ _ hl hb) ?_); simp only [go_sem])
  | ((first | refine cS ?_ ?_ | refine gS ?_ ?_) <;> (intro hc; simp only [go_sem,hc])))
 all_goals first
  | rfl
  | (simp only [ckTP]; rfl)
  | grind [ckTP]
  | (simp only [ckTP]; grind)
  | (simp [ckTP, *]; done)
  | (simp_all [ckTP]; done)
  | skip
theorem c_ckTO (l : List Fld) (x : Policy) (hl : okF l) (hb : bulkL x.c <= 1073741824) : PCall Tryz.prog 137 [.sl none (lFld l),.agg x.c] (.int .i64 (ckTO l x)):=by
 have hn:=Nat.le_trans (ptsO_len x) hb
 refine pC h137_k rfl ?_
 simp only [Tryz.f137,go_sem]
 repeat' (first
  | ((first | refine pK (c_ckO _ hb) ?_ | refine pK (c_ptsO _ hb) ?_); simp only [go_sem])
  | ((first | refine cS ?_ ?_ | refine gS ?_ ?_) <;> (intro hc; simp only [go_sem,hc])))
 all_goals first
  | rfl
  | (simp only [ckTO]; rfl)
  | grind [ckTO]
  | (simp only [ckTO]; grind)
  | (simp [ckTO, *]; done)
  | (simp_all [ckTO]; done)
  | skip
 refine awp_all (ptsO x) (fun r => polGo l r) (fun k => [(0,.sl none (lFld l)),(5,.int .i64 0),(6,.sl none (lPolicy (ptsO x))),(7,.int .i64 k)]) (by omega) (by grind) ?_ ?_
 ·intro k y ys hd hx hF h0 h1 hw
  have hm:=List.mem_of_getElem? hx
  have hby:=Nat.le_trans (ptsO_bulk x y hm) hb
  simp only [go_sem,h0,h1,lPolicy_get hx]
  repeat' (first
   | ((first | refine pK (c_fitA _ _ hl (Policy.bs_pred hby)) ?_ | refine pK (c_Find _ _) ?_ | refine pK (c_maxF _ (findF_w hl _)) ?_); simp only [go_sem,h0,h1,hw,lPolicy_get hx])
   | ((first | refine cS ?_ ?_ | refine gS ?_ ?_) <;> (intro hc; simp only [go_sem,hc,h0,h1,hw,lPolicy_get hx])))
  all_goals first
   | rfl
   | (simp only [ckTO,polGo,polE,At]; rfl)
   | grind [ckTO,polGo,polE,At]
   | (simp only [ckTO,polGo,polE,At]; grind)
   | (simp [ckTO,polGo,polE,At, *]; done)
   | (simp_all [ckTO,polGo,polE,At]; done)
   | skip
 ·intro hF hlt
  simp only [go_sem,hlt,decide_false]
  all_goals first
   | rfl
   | (simp only [ckTO,polGo]; rfl)
   | grind [ckTO,polGo]
   | (simp only [ckTO,polGo]; grind)
   | (simp [ckTO,polGo, *]; done)
   | (simp_all [ckTO,polGo]; done)
   | skip
end Go.AI
namespace Go.AI
open Go.Proofs
set_option maxRecDepth 50000
theorem take_get {α : Type} {l : List α} {i k : Nat} {x : α} (h : (l.take i)[k]? = some x) : l[k]? = some x:=by
 rw [List.getElem?_take] at h
 split at h
 ·exact h
 ·cases h
theorem take_len {α : Type} {l : List α} {i : Nat} (h : i <= l.length) : (l.take i).length = i:=by simp; omega
set_option maxHeartbeats 2000000 in
theorem c_ckTS (l : List Fld) (s : Stp) (hl : okF l) (hb : bulkL s.c <= 1073741824) : PCall Tryz.prog 138 [.sl none (lFld l), .agg s.c] (.int .i64 (ckTS l s)) := by
  have hk : s.key.length <= 1073741824 := lStr_bn (Stp.bl_key hb)
  have g0 : s.key.length * 16 <= 140737488355328 := by omega
  have g1 : s.key.length <= 9223372036854775807 := by omega
  have g2 : (s.key.length + 1) * 16 <= 140737488355328 := by omega
  have g3 : s.key.length <= 9223372036854775806 := by omega
  refine pC h138_k rfl ?_
  simp only [Tryz.f138, go_sem, toList_beq]
  repeat' (first
    | (refine pK (c_ckS _ hb) ?_; simp only [go_sem, toList_beq, g0, g1, g2, g3])
    | ((first | refine cS ?_ ?_ | refine gS ?_ ?_) <;> (intro hc; simp only [go_sem, hc, toList_beq, g0, g1, g2, g3])))
  all_goals first
    | rfl
    | (simp only [ckTS]; rfl)
    | grind [ckTS]
    | (simp only [ckTS]; grind)
    | (simp [ckTS, *]; done)
    | (simp_all [ckTS]; done)
    | skip
  · have hnm : namesS s = s.key ++ [s.field] := by grind [namesS]
    have hnl : (s.key ++ [s.field]).length <= 1073741825 := by first | omega | (simp; omega)
    refine awp_all (s.key ++ [s.field]) (fun r => r.all (fun y => (findF l y).2)) (fun k => [(0, .sl none (lFld l)), (3, .ptr 0 0), (6, .sl (some 1) (lStr (s.key ++ [s.field]))), (7, .int .i64 k)]) (by omega) rfl ?_ ?_
    · intro k y ys hd hx hF h0 h1 hw
      simp only [go_sem, h0, h1, lStr_get hx]
      repeat' (first
        | (refine pK (c_Find _ _) ?_; simp only [go_sem, h0, h1, hw, lStr_get hx])
        | ((first | refine cS ?_ ?_ | refine gS ?_ ?_) <;> (intro hc; simp only [go_sem, hc, h0, h1, hw, lStr_get hx])))
      all_goals first
        | (have h5 : (namesS s).all (fun y => (findF l y).2) = false := by rw [hnm, hF]; simp_all
           grind [ckTS])
        | simp_all
    · intro hF hlt
      simp only [go_sem, hlt, decide_false]
      refine awp_all s.key (fun r => apartGo s.key (s.key.length - r.length) r) (fun k => [(0, .sl none (lFld l)), (3, .ptr 0 0), (10, .int .i64 k)]) (by omega) rfl ?_ ?_
      · intro k y ys hd hx hF2 h0 h1 hw
        have hk2 := drop_len hd
        have e1 : s.key.length - (ys.length + 1) = k := by omega
        have e2 : s.key.length - ys.length = k + 1 := by omega
        have ht : (s.key.take k).length = k := take_len (by omega)
        simp only [List.length_cons, e1, Nat.sub_self] at hF2
        simp only [go_sem, h0, h1, e1, e2]
        refine awp_all (s.key.take k) (fun r => r.any (fun z => decide (z = y))) (fun i => [(0, .sl none (lFld l)), (3, .ptr 0 0), (10, .int .i64 k), (11, .int .i64 i)]) (by omega) rfl ?_ ?_
        · intro i z zs hd3 hx3 hF3 h03 h13 hw3
          rw [ht] at h13
          have hx4 := take_get hx3
          have h14 : (i : Int) < (s.key.length : Int) := by omega
          simp only [go_sem, h03, h13, h14, h0, h1, lStr_get hx4, lStr_get hx, toList_beq]
          repeat' (first
            | ((first | refine cS ?_ ?_ | refine gS ?_ ?_) <;> (intro hc; simp only [go_sem, hc, h03, h13, h14, hw3, h0, h1, lStr_get hx4, lStr_get hx, toList_beq])))
          all_goals first
            | (have h5 : apartGo s.key 0 s.key = false := by rw [hF2, apartGo, hF3, List.any_cons, hc]; rfl
               have h6 : (namesS s).all (fun y => (findF l y).2) = true := by rw [hnm, hF]; rfl
               grind [ckTS])
            | (rw [List.any_cons, hc]; rfl)
        · intro hF3 hlt3
          rw [ht] at hlt3
          simp only [go_sem, ht, hlt3, decide_false, hw]
          rw [e1, e2, apartGo, hF3]; rfl
      · intro hF2 hlt2
        have h5 : apartGo s.key 0 s.key = true := by simp only [Nat.sub_self] at hF2; rw [hF2]; rfl
        have h6 : (namesS s).all (fun y => (findF l y).2) = true := by rw [hnm, hF]; rfl
        simp only [go_sem, hlt2, decide_false]
        repeat' (first
          | ((first | refine pK (c_Find _ _) ?_ | refine pK (c_maxF _ (findF_w hl _)) ?_); simp only [go_sem])
          | ((first | refine cS ?_ ?_ | refine gS ?_ ?_) <;> (intro hc; simp only [go_sem, hc])))
        all_goals grind [ckTS]
  · have hnm : namesS s = s.key := by grind [namesS]
    have hnl : (s.key).length <= 1073741825 := by first | omega | (simp; omega)
    refine awp_all (s.key) (fun r => r.all (fun y => (findF l y).2)) (fun k => [(0, .sl none (lFld l)), (3, .ptr 0 0), (6, .sl (some 1) (lStr (s.key))), (7, .int .i64 k)]) (by omega) rfl ?_ ?_
    · intro k y ys hd hx hF h0 h1 hw
      simp only [go_sem, h0, h1, lStr_get hx]
      repeat' (first
        | (refine pK (c_Find _ _) ?_; simp only [go_sem, h0, h1, hw, lStr_get hx])
        | ((first | refine cS ?_ ?_ | refine gS ?_ ?_) <;> (intro hc; simp only [go_sem, hc, h0, h1, hw, lStr_get hx])))
      all_goals first
        | (have h5 : (namesS s).all (fun y => (findF l y).2) = false := by rw [hnm, hF]; simp_all
           grind [ckTS])
        | simp_all
    · intro hF hlt
      simp only [go_sem, hlt, decide_false]
      refine awp_all s.key (fun r => apartGo s.key (s.key.length - r.length) r) (fun k => [(0, .sl none (lFld l)), (3, .ptr 0 0), (10, .int .i64 k)]) (by omega) rfl ?_ ?_
      · intro k y ys hd hx hF2 h0 h1 hw
        have hk2 := drop_len hd
        have e1 : s.key.length - (ys.length + 1) = k := by omega
        have e2 : s.key.length - ys.length = k + 1 := by omega
        have ht : (s.key.take k).length = k := take_len (by omega)
        simp only [List.length_cons, e1, Nat.sub_self] at hF2
        simp only [go_sem, h0, h1, e1, e2]
        refine awp_all (s.key.take k) (fun r => r.any (fun z => decide (z = y))) (fun i => [(0, .sl none (lFld l)), (3, .ptr 0 0), (10, .int .i64 k), (11, .int .i64 i)]) (by omega) rfl ?_ ?_
        · intro i z zs hd3 hx3 hF3 h03 h13 hw3
          rw [ht] at h13
          have hx4 := take_get hx3
          have h14 : (i : Int) < (s.key.length : Int) := by omega
          simp only [go_sem, h03, h13, h14, h0, h1, lStr_get hx4, lStr_get hx, toList_beq]
          repeat' (first
            | ((first | refine cS ?_ ?_ | refine gS ?_ ?_) <;> (intro hc; simp only [go_sem, hc, h03, h13, h14, hw3, h0, h1, lStr_get hx4, lStr_get hx, toList_beq])))
          all_goals first
            | (have h5 : apartGo s.key 0 s.key = false := by rw [hF2, apartGo, hF3, List.any_cons, hc]; rfl
               have h6 : (namesS s).all (fun y => (findF l y).2) = true := by rw [hnm, hF]; rfl
               grind [ckTS])
            | (rw [List.any_cons, hc]; rfl)
        · intro hF3 hlt3
          rw [ht] at hlt3
          simp only [go_sem, ht, hlt3, decide_false, hw]
          rw [e1, e2, apartGo, hF3]; rfl
      · intro hF2 hlt2
        have h5 : apartGo s.key 0 s.key = true := by simp only [Nat.sub_self] at hF2; rw [hF2]; rfl
        have h6 : (namesS s).all (fun y => (findF l y).2) = true := by rw [hnm, hF]; rfl
        simp only [go_sem, hlt2, decide_false]
        repeat' (first
          | ((first | refine pK (c_Find _ _) ?_ | refine pK (c_maxF _ (findF_w hl _)) ?_); simp only [go_sem])
          | ((first | refine cS ?_ ?_ | refine gS ?_ ?_) <;> (intro hc; simp only [go_sem, hc])))
        all_goals grind [ckTS]
theorem c_ckT (l : List Fld) (p : List Stage) (hl : okF l) (hb : bulkL (lStage p) <= 1073741824) : PCall Tryz.prog 76 [.sl none (lFld l), .sl none (lStage p)] (.int .i64 (ckT l p)) := by
  have hn := lStage_bn hb
  refine pC h76_k rfl ?_
  simp only [Tryz.f76, go_sem]
  repeat' (first
    | (refine pK (c_ckG _ hb) ?_; simp only [go_sem])
    | ((first | refine cS ?_ ?_ | refine gS ?_ ?_) <;> (intro hc; simp only [go_sem, hc])))
  all_goals first
    | rfl
    | (simp only [ckT]; rfl)
    | grind [ckT]
    | (simp only [ckT]; grind)
    | (simp [ckT, *]; done)
    | (simp_all [ckT]; done)
    | skip
  refine awp_all p (fun r => stGo l r) (fun k => [(0, .sl none (lFld l)), (1, .sl none (lStage p)), (6, .int .i64 k)]) (by omega) rfl ?_ ?_
  · intro k y ys hd hx hF h0 h1 hw
    have hby : bulkL y.c <= 1073741824 := by have := lStage_bk hb (List.mem_of_getElem? hx); simpa only [AV.bulk] using this
    simp only [go_sem, h0, h1, lStage_get hx]
    repeat' (first
      | ((first | refine pK (c_ckTO _ _ hl (Stage.bs_policy hby)) ?_ | refine pK (c_ckTS _ _ hl (Stage.bs_step hby)) ?_); simp only [go_sem, h0, h1, hw, lStage_get hx])
      | ((first | refine cS ?_ ?_ | refine gS ?_ ?_) <;> (intro hc; simp only [go_sem, hc, h0, h1, hw, lStage_get hx])))
    all_goals first
      | rfl
      | (simp only [ckT, stGo]; rfl)
      | grind [ckT, stGo]
      | (simp only [ckT, stGo]; grind)
      | (simp [ckT, stGo, *]; done)
      | (simp_all [ckT, stGo]; done)
      | skip
  · intro hF hlt
    simp only [go_sem, hlt, decide_false]
    refine awp_all p (fun r => typGo l p (p.length - r.length) r) (fun k => [(0, .sl none (lFld l)), (1, .sl none (lStage p)), (9, .int .i64 k)]) (by omega) rfl ?_ ?_
    · intro k y ys hd hx hF2 h0 h1 hw
      have hk := drop_len hd
      have e1 : p.length - (ys.length + 1) = k := by omega
      have e2 : p.length - ys.length = k + 1 := by omega
      have hby : bulkL y.c <= 1073741824 := by have := lStage_bk hb (List.mem_of_getElem? hx); simpa only [AV.bulk] using this
      have hy := lStr_bn (Stp.bl_key (Stage.bs_step hby))
      have ht : (p.take k).length = k := take_len (by omega)
      simp only [List.length_cons, e1, Nat.sub_self] at hF2
      simp only [go_sem, h0, h1, lStage_get hx, e1, e2]
      refine awp_all (p.take k) (fun r => r.any (fun z => clash l z.step y.step)) (fun i => [(0, .sl none (lFld l)), (1, .sl none (lStage p)), (9, .int .i64 k), (10, .int .i64 i)]) (by omega) rfl ?_ ?_
      · intro i z zs hd3 hx3 hF3 h03 h13 hw3
        rw [ht] at h13
        have hx4 := take_get hx3
        have h14 : (i : Int) < (p.length : Int) := by omega
        have hbz : bulkL z.c <= 1073741824 := by have := lStage_bk hb (List.mem_of_getElem? hx4); simpa only [AV.bulk] using this
        have hz := lStr_bn (Stp.bl_key (Stage.bs_step hbz))
        simp only [go_sem, h03, h13, h14, h0, h1, lStage_get hx4, lStage_get hx, toList_beq]
        repeat' (first
          | (refine pK (c_agrS _ _ _ hz hy) ?_; simp only [go_sem, h03, h13, h14, hw3, h0, h1, lStage_get hx4, lStage_get hx, toList_beq])
          | ((first | refine cS ?_ ?_ | refine gS ?_ ?_) <;> (intro hc; simp only [go_sem, hc, h03, h13, h14, hw3, h0, h1, lStage_get hx4, lStage_get hx, toList_beq])))
        all_goals first
          | (have hcl : clash l z.step y.step = true := by grind [clash]
             have h5 : typGo l p 0 p = false := by rw [hF2, typGo, hF3, List.any_cons, hcl]; rfl
             grind [ckT, stGo])
          | grind [clash]
      · intro hF3 hlt3
        rw [ht] at hlt3
        simp only [go_sem, ht, hlt3, decide_false, hw]
        rw [e1, e2, typGo, hF3]; rfl
    · intro hF2 hlt2
      simp only [go_sem, hlt2, decide_false]
      all_goals first
        | rfl
        | (simp only [ckT, typGo, stGo]; rfl)
        | grind [ckT, typGo, stGo]
        | (simp only [ckT, typGo, stGo]; grind)
        | (simp [ckT, typGo, stGo, *]; done)
        | (simp_all [ckT, typGo, stGo]; done)
        | skip
theorem c_putI (l : List Int) (n : Int) (hl : l.length <= 1073741824) : PCall Tryz.prog 306 [.sl none (lI64 l),.int .i64 n] (.sl none (lI64 (putI l n))):=by
 refine pB h306_k rfl ?_
 simp only [Tryz.f306,go_sem]
 refine awp_lst l (fun (s : List Int × Bool) r => s.1 ++ putGo n s.2 r) (fun k s => s.1.length <= 2 * k) (fun k s => [(0,.sl none (lI64 l)),(1,.int .i64 n),(5,.sl (some 1) (lI64 s.1)),(6,.bool s.2),(7,.int .i64 k)]) (fun k o => []) ([],false) (by omega) (by simp) rfl rfl ?_ ?_
 ·intro k s y ys hd hx hI hF h0 h1 hw
  have hk2:=drop_len hd
  have g1 : (s.1.length + 1) * 8 <= 140737488355328:=by omega
  have g2 : s.1.length <= 9223372036854775806:=by omega
  have g3 : (s.1.length + 1 + 1) * 8 <= 140737488355328:=by omega
  have g4 : s.1.length + 1 <= 9223372036854775806:=by omega
  have g5 : s.1.length <= 9223372036854775805:=by omega
  simp only [go_sem,h0,h1,lI64_get hx]
  repeat' (first
   | ((first | refine cS ?_ ?_ | refine gS ?_ ?_) <;> (intro hc; simp only [go_sem,hc,h0,h1,hw,lI64_get hx,List.length_append,List.length_singleton,g1,g2,g3,g4,g5])))
  all_goals first
   | exact ⟨(s.1 ++ [n,y],true),by grind [putGo],by simp; omega,rfl,rfl⟩
   | exact ⟨(s.1 ++ [n],true),by grind [putGo],by simp; omega,rfl,rfl⟩
   | exact ⟨(s.1 ++ [y],s.2),by grind [putGo],by simp; omega,rfl,rfl⟩
   | exact ⟨(s.1,s.2),by grind [putGo],by simp; omega,rfl,rfl⟩
   | skip
 ·intro s hI hF
  have g1 : (s.1.length + 1) * 8 <= 140737488355328:=by omega
  have g2 : s.1.length <= 9223372036854775806:=by omega
  simp only [go_sem,Int.lt_irrefl,decide_false]
  repeat' (first
   | ((first | refine cS ?_ ?_ | refine gS ?_ ?_) <;> (intro hc; simp only [go_sem,hc,g1,g2])))
  all_goals first
   | rfl
   | (simp only [putI,putGo]; rfl)
   | grind [putI,putGo]
   | (simp only [putI,putGo]; grind)
   | (simp [putI,putGo, *]; done)
   | (simp_all [putI,putGo]; done)
   | skip
end Go.AI
namespace Go.AI
open Go.Proofs
set_option maxRecDepth 50000
theorem c_isPort (t : Tenant) (n : Int) : PCall Tryz.prog 260 [.agg t.c,.int .i64 n] (.bool (isPortB t n)):=by
 refine pC h260_k rfl ?_
 simp only [Tryz.f260,go_sem]
 repeat' (first
  | ((first | refine cS ?_ ?_ | refine gS ?_ ?_) <;> (intro hc; simp only [go_sem,hc])))
 all_goals first
  | rfl
  | (simp only [isPortB]; rfl)
  | grind [isPortB]
  | (simp only [isPortB]; grind)
  | (simp [isPortB, *]; done)
  | (simp_all [isPortB]; done)
  | skip
theorem port_get {t : Tenant} {n : Int} (h : isPortB t n = true) : 0 <= n /\ n < (t.ports.length : Int) /\ ∃ p,t.ports[n.toNat]? = some p /\ edgeAt t n = p.edge /\ (lPort t.ports)[n.toNat]? = some (.agg p.c):=by
 simp only [isPortB,Bool.and_eq_true,decide_eq_true_eq] at h
 have hg:=List.getElem?_eq_getElem (l:=t.ports) (i:=n.toNat) (by omega)
 exact ⟨h.1,h.2,_,hg,by simp [edgeAt,hg],lPort_get hg⟩
theorem c_inner (t : Tenant) (n : Int) : PCall Tryz.prog 258 [.agg t.c,.int .i64 n] (.bool (innerB t n)):=by
 refine pC h258_k rfl ?_
 cases hp : isPortB t n with
 | false =>
  simp only [Tryz.f258,go_sem]
  repeat' (first
   | (refine pK (c_isPort _ _) ?_; simp only [go_sem,hp])
   | ((first | refine cS ?_ ?_ | refine gS ?_ ?_) <;> (intro hc; simp only [go_sem,hc,hp])))
  all_goals first
   | rfl
   | (simp only [innerB]; rfl)
   | grind [innerB]
   | (simp only [innerB]; grind)
   | (simp [innerB, *]; done)
   | (simp_all [innerB]; done)
   | skip
 | true =>
  obtain ⟨h1,h2,p,h3,h4,h5⟩:=port_get hp
  simp only [Tryz.f258,go_sem]
  repeat' (first
   | (refine pK (c_isPort _ _) ?_; simp only [go_sem,hp,h1,h2,h5])
   | ((first | refine cS ?_ ?_ | refine gS ?_ ?_) <;> (intro hc; simp only [go_sem,hc,hp,h1,h2,h5])))
  all_goals first
   | rfl
   | (simp only [innerB]; rfl)
   | grind [innerB]
   | (simp only [innerB]; grind)
   | (simp [innerB, *]; done)
   | (simp_all [innerB]; done)
   | skip
theorem c_outer (t : Tenant) (n : Int) : PCall Tryz.prog 201 [.agg t.c,.int .i64 n] (.bool (outerB t n)):=by
 refine pC h201_k rfl ?_
 cases hp : isPortB t n with
 | false =>
  simp only [Tryz.f201,go_sem]
  repeat' (first
   | (refine pK (c_isPort _ _) ?_; simp only [go_sem,hp])
   | ((first | refine cS ?_ ?_ | refine gS ?_ ?_) <;> (intro hc; simp only [go_sem,hc,hp])))
  all_goals first
   | rfl
   | (simp only [outerB]; rfl)
   | grind [outerB]
   | (simp only [outerB]; grind)
   | (simp [outerB, *]; done)
   | (simp_all [outerB]; done)
   | skip
 | true =>
  obtain ⟨h1,h2,p,h3,h4,h5⟩:=port_get hp
  simp only [Tryz.f201,go_sem]
  repeat' (first
   | (refine pK (c_isPort _ _) ?_; simp only [go_sem,hp,h1,h2,h5])
   | ((first | refine cS ?_ ?_ | refine gS ?_ ?_) <;> (intro hc; simp only [go_sem,hc,hp,h1,h2,h5])))
  all_goals first
   | rfl
   | (simp only [outerB]; rfl)
   | grind [outerB]
   | (simp only [outerB]; grind)
   | (simp [outerB, *]; done)
   | (simp_all [outerB]; done)
   | skip
theorem c_has (l : List ByteArray) (s : ByteArray) : PCall Tryz.prog 261 [.sl none (lStr l),.str s] (.bool (hasS l s)):=by
 refine PCall.fit h261_k.c fun hf => ?_
 have hl:=fits hf
 rw [lStr_len] at hl
 refine pC h261_k rfl ?_
 simp only [Tryz.f261,go_sem]
 refine awp_all l (fun r => r.any (fun y => decide (y = s))) (fun k => [(0,.sl none (lStr l)),(1,.str s),(5,.int .i64 k)]) hl rfl ?_ ?_
 ·intro k y ys hd hx hF h0 h1 hw
  simp only [go_sem,h0,h1,lStr_get hx,toList_beq]
  repeat' (first
   | ((first | refine cS ?_ ?_ | refine gS ?_ ?_) <;> (intro hc; simp only [go_sem,hc,h0,h1,hw,lStr_get hx,toList_beq])))
  all_goals first
   | (rw [hasS,hF,List.any_cons,hc]; rfl)
   | (rw [List.any_cons,hc]; rfl)
 ·intro hF hlt
  simp only [go_sem,hlt,decide_false]
  rw [hasS,hF]; rfl
theorem c_portsO (x : Policy) (hb : bulkL x.c <= 1073741824) : PCall Tryz.prog 259 [.agg x.c] (.sl none (lI64 (portsO x))):=by
 have hn:=Nat.le_trans (ptsO_len x) hb
 refine pB h259_k rfl ?_
 simp only [Tryz.f259,go_sem]
 repeat' (first
  | (refine pK (c_ptsO _ hb) ?_; simp only [go_sem])
  | ((first | refine cS ?_ ?_ | refine gS ?_ ?_) <;> (intro hc; simp only [go_sem,hc])))
 have step : ∀ (y : Policy) (ys : List Policy) (o : List Int),portGo o (y :: ys) = portGo (if y.kind = 2 /\ y.field = portS then putI o y.n else o) ys:=fun y ys o => by rw [portGo]
 have len1 : ∀ (o : List Int) (n : Int),(putI o n).length <= o.length + 1:=fun o n => putI_len o n
 refine awp_lst (ptsO x) (fun (o : Option Nat × List Int) r => portGo o.2 r) (fun k o => o.2.length <= k) (fun k o => [(3,.sl o.1 (lI64 o.2)),(4,.sl none (lPolicy (ptsO x))),(5,.int .i64 k)]) (fun k o => [some x.c]) (some 1,[]) (by omega) (by simp) rfl rfl ?_ ?_
 ·intro k o y ys hd hx hI hF h0 h1 hw
  have hk2:=drop_len hd
  simp only [go_sem,h0,h1,lPolicy_get hx,toList_beq]
  repeat' (first
   | (refine pK (c_putI o.2 y.n (show o.2.length <= 1073741824 by omega)) ?_; simp only [go_sem,h0,h1,hw,lPolicy_get hx,toList_beq])
   | ((first | refine cS ?_ ?_ | refine gS ?_ ?_) <;> (intro hc; simp only [go_sem,hc,h0,h1,hw,lPolicy_get hx,toList_beq])))
  all_goals first
   | exact ⟨(none,putI o.2 y.n),by rw [step,if_pos (by simp_all [portS])],by have:=len1 o.2 y.n; simp only; omega,rfl,rfl⟩
   | exact ⟨o,by rw [step,if_neg (by simp_all [portS])],by omega,rfl,rfl⟩
   | skip
 ·intro o hI hF
  simp only [go_sem,Int.lt_irrefl,decide_false]
  rw [portsO,hF,portGo]
theorem c_ckPr (s : Setup) (t : Tenant) (hl : okF s.fields) (hb : bulkL t.c <= 1073741824) : PCall Tryz.prog 198 [.agg s.c, .agg t.c] (.int .i64 (ckPr s t)) := by
  have hbp := Tenant.bl_program hb
  have hn := lStage_bn hbp
  refine pC h198_k rfl ?_
  simp only [Tryz.f198, go_sem, toList_beq]
  repeat' (first
    | (refine pK (c_ckT _ _ hl hbp) ?_; simp only [go_sem, toList_beq])
    | ((first | refine cS ?_ ?_ | refine gS ?_ ?_) <;> (intro hc; simp only [go_sem, hc, toList_beq])))
  all_goals first
    | rfl
    | (simp only [ckPr]; rfl)
    | grind [ckPr]
    | (simp only [ckPr]; grind)
    | (simp [ckPr, *]; done)
    | (simp_all [ckPr]; done)
    | skip
  refine awp_all t.program (fun r => ckPrGo t r) (fun k => [(3, .ptr 1 0), (6, .int .i64 k)]) (by omega) rfl ?_ ?_
  · intro k y ys hd hx hF h0 h1 hw
    have hby : bulkL y.c <= 1073741824 := by have := lStage_bk hbp (List.mem_of_getElem? hx); simpa only [AV.bulk] using this
    have hp1 := portsO_len y.policy
    have hp2 := Nat.le_trans (ptsO_len y.policy) (Stage.bs_policy hby)
    simp only [go_sem, h0, h1, lStage_get hx, toList_beq]
    repeat' (first
      | (refine pK (c_portsO _ (Stage.bs_policy hby)) ?_; simp only [go_sem, h0, h1, hw, lStage_get hx, toList_beq])
      | ((first | refine cS ?_ ?_ | refine gS ?_ ?_) <;> (intro hc; simp only [go_sem, hc, h0, h1, hw, lStage_get hx, toList_beq])))
    refine awp_all (portsO y.policy) (fun r => r.all (isPortB t)) (fun i => [(3, .ptr 1 0), (6, .int .i64 k), (7, .sl none (lI64 (portsO y.policy))), (8, .int .i64 i)]) (by omega) rfl ?_ ?_
    · intro i z zs hd3 hx3 hF3 h03 h13 hw3
      simp only [go_sem, h03, h13, lI64_get hx3]
      repeat' (first
        | (refine pK (c_isPort _ _) ?_; simp only [go_sem, h03, h13, hw3, lI64_get hx3])
        | ((first | refine cS ?_ ?_ | refine gS ?_ ?_) <;> (intro hc; simp only [go_sem, hc, h03, h13, hw3, lI64_get hx3])))
      all_goals first
        | (have h5 : (portsO y.policy).all (isPortB t) = false := by rw [hF3, List.all_cons]; simp_all
           grind [ckPr, ckPrGo])
        | simp_all
    · intro hF3 hlt3
      have h5 : (portsO y.policy).all (isPortB t) = true := by rw [hF3]; rfl
      simp only [go_sem, hlt3, decide_false, h0, h1, lStage_get hx, toList_beq]
      repeat' (first
        | (refine pK (c_has _ _) ?_; simp only [go_sem, h0, h1, hw, lStage_get hx, toList_beq])
        | ((first | refine cS ?_ ?_ | refine gS ?_ ?_) <;> (intro hc; simp only [go_sem, hc, h0, h1, hw, lStage_get hx, toList_beq])))
      all_goals first
        | rfl
        | (simp only [ckPr, ckPrGo, portS]; rfl)
        | grind [ckPr, ckPrGo, portS]
        | (simp only [ckPr, ckPrGo, portS]; grind)
        | (simp [ckPr, ckPrGo, portS, *]; done)
        | (simp_all [ckPr, ckPrGo, portS]; done)
        | skip
  · intro hF hlt
    simp only [go_sem, hlt, decide_false]
    all_goals first
      | rfl
      | (simp only [ckPr, ckPrGo]; rfl)
      | grind [ckPr, ckPrGo]
      | (simp only [ckPr, ckPrGo]; grind)
      | (simp [ckPr, ckPrGo, *]; done)
      | (simp_all [ckPr, ckPrGo]; done)
      | skip
end Go.AI
namespace Go.AI
open Go.Proofs
set_option maxRecDepth 50000
theorem c_Names (n : Network) (h1 : n.nodes.length <= 1073741824) (h2 : n.edges.length <= 1073741824) : PCall Tryz.prog 124 [.agg n.c] (.tup [.sl none (lStr (nodeNames n)),.sl none (lStr (edgeNames n))]):=by
 refine pB h124_k rfl ?_
 simp only [Tryz.f124,go_sem]
 refine awp_lst n.nodes (fun o r => o ++ r.map (·.name)) (fun k o => o.length = k) (fun k o => [(1,.ptr 0 0),(4,.sl (some 1) (lStr o)),(5,.sl (some 1) (lStr [])),(6,.int .i64 k)]) (fun k o => [some n.c]) [] (by omega) rfl rfl rfl ?_ ?_
 ·intro k o y ys hd hx hI hF h0 h1 hw
  have hk2:=drop_len hd
  simp only [go_sem,h0,h1,hw,lNode_get hx]
  repeat' (first
   | ((first | refine cS ?_ ?_ | refine gS ?_ ?_) <;> (intro hc; simp only [go_sem,hc,h0,h1,hw,lNode_get hx])))
  exact ⟨by omega,by omega,o ++ [y.name],by simp,by simp [hI],rfl,rfl⟩
 ·intro o hI hF
  simp only [go_sem,Int.lt_irrefl,decide_false]
  have ho : o = nodeNames n:=by simpa [nodeNames] using hF.symm
  subst ho
  refine awp_lst n.edges (fun o r => o ++ r.map (·.name)) (fun k o => o.length = k) (fun k o => [(1,.ptr 0 0),(4,.sl (some 1) (lStr (nodeNames n))),(5,.sl (some 1) (lStr o)),(7,.int .i64 k)]) (fun k o => [some n.c]) [] (by omega) rfl rfl rfl ?_ ?_
  ·intro k o y ys hd hx hI hF h0 h1 hw
   have hk2:=drop_len hd
   simp only [go_sem,h0,h1,hw,lEdge_get hx]
   repeat' (first
    | ((first | refine cS ?_ ?_ | refine gS ?_ ?_) <;> (intro hc; simp only [go_sem,hc,h0,h1,hw,lEdge_get hx])))
   exact ⟨by omega,by omega,o ++ [y.name],by simp,by simp [hI],rfl,rfl⟩
  ·intro o hI hF
   simp only [go_sem,Int.lt_irrefl,decide_false]
   have ho : o = edgeNames n:=by simpa [edgeNames] using hF.symm
   subst ho
   rfl
theorem c_knB (n : Network) (h1 : n.nodes.length <= 1073741824) (h2 : n.edges.length <= 1073741824) : ∀ x : Regex,PCall Tryz.prog 200 [.agg n.c,.agg x.c] (.bool (knB (nodeNames n) x)):=by
 refine Regex.ind _ fun x ih => ?_
 refine PCall.fit h200_k.c fun hf => ?_
 have hl : x.args.length <= 9223372036854775807:=Regex.fit_args (fit1 (show fitL [.agg x.c] from hf.2))
 refine pC h200_k rfl ?_
 simp only [Tryz.f200,go_sem]
 repeat' (first
  | ((first | refine pK (c_Names n h1 h2) ?_ | refine pK (c_has _ _) ?_); simp only [go_sem])
  | ((first | refine cS ?_ ?_ | refine gS ?_ ?_) <;> (intro hc; simp only [go_sem,hc])))
 all_goals first
  | rfl
  | (simp only [knB_eq]; rfl)
  | grind [knB_eq]
  | (simp only [knB_eq]; grind)
  | (simp [knB_eq, *]; done)
  | (simp_all [knB_eq]; done)
  | skip
 all_goals
  refine awp_all x.args (fun r => knBs (nodeNames n) r) (fun k => [(2,.ptr 0 0),(3,.ptr 1 0),(7,.int .i64 k)]) hl rfl ?_ ?_
  ·intro k y ys hd hx hF h0 h1 hw
   have hm:=List.mem_of_getElem? hx
   simp only [go_sem,h0,h1,lRegex_get hx]
   repeat' (first
    | (refine pK (ih _ hm) ?_; simp only [go_sem,h0,h1,hw,lRegex_get hx])
    | ((first | refine cS ?_ ?_ | refine gS ?_ ?_) <;> (intro hc; simp only [go_sem,hc,h0,h1,hw,lRegex_get hx])))
   all_goals first
    | rfl
    | (simp only [knB_eq,knBs_cons]; rfl)
    | grind [knB_eq,knBs_cons]
    | (simp only [knB_eq,knBs_cons]; grind)
    | (simp [knB_eq,knBs_cons, *]; done)
    | (simp_all [knB_eq,knBs_cons]; done)
    | skip
  ·intro hF hlt
   simp only [go_sem,hlt,decide_false]
   all_goals first
    | rfl
    | (simp only [knB_eq,knBs_nil]; rfl)
    | grind [knB_eq,knBs_nil]
    | (simp only [knB_eq,knBs_nil]; grind)
    | (simp [knB_eq,knBs_nil, *]; done)
    | (simp_all [knB_eq,knBs_nil]; done)
    | skip
set_option maxHeartbeats 2000000 in
theorem c_ckPo (s : Setup) (t : Tenant) (hb : bulkL t.c <= 1073741824) : PCall Tryz.prog 197 [.agg s.c, .agg t.c] (.int .i64 (ckPo s t)) := by
  have hbp := Tenant.bl_ports hb
  have hn := lPort_bn hbp
  have hn2 := lWire_bn (Tenant.bl_wires hb)
  refine pC h197_k rfl ?_
  simp only [Tryz.f197, go_sem, toList_beq]
  repeat' (first
    | (refine pK (c_Name8 _ (Tenant.bk_name hb)) ?_; simp only [go_sem, toList_beq])
    | ((first | refine cS ?_ ?_ | refine gS ?_ ?_) <;> (intro hc; simp only [go_sem, hc, toList_beq])))
  all_goals first
    | rfl
    | (simp only [ckPo]; rfl)
    | grind [ckPo]
    | (simp only [ckPo]; grind)
    | (simp [ckPo, *]; done)
    | (simp_all [ckPo]; done)
    | skip
  refine awp_all t.ports (fun r => okGo pnm qnm t.ports (t.ports.length - r.length) r) (fun k => [(2, .ptr 0 0), (3, .ptr 1 0), (6, .int .i64 k)]) (by omega) rfl ?_ ?_
  · intro k y ys hd hx hF2 h0 h1 hw
    have hk2 := drop_len hd
    have hmy := List.mem_of_getElem? hx
    have e1 : t.ports.length - (ys.length + 1) = k := by omega
    have e2 : t.ports.length - ys.length = k + 1 := by omega
    have ht : (t.ports.take k).length = k := take_len (by omega)
    have hby : bulkL y.c <= 1073741824 := by have := lPort_bk hbp hmy; simpa only [AV.bulk] using this
    simp only [List.length_cons, e1, Nat.sub_self] at hF2
    simp only [go_sem, h0, h1, lPort_get hx, toList_beq]
    repeat' (first
      | (refine pK (c_Name8 _ (Port.bk_name hby)) ?_; simp only [go_sem, h0, h1, hw, lPort_get hx, toList_beq])
      | ((first | refine cS ?_ ?_ | refine gS ?_ ?_) <;> (intro hc; simp only [go_sem, hc, h0, h1, hw, lPort_get hx, toList_beq])))
    all_goals first
      | (have hp : pnm y = false := by grind [ckPo, pnm, qnm, peg, qeg, pwr, qwr]
         have h5 : okGo pnm qnm t.ports 0 t.ports = false := by rw [hF2, okGo, hp]; rfl
         have h6 : okAll pnm qnm t.ports = false := h5
         grind [ckPo, pnm, qnm, peg, qeg, pwr, qwr])
      | skip
    have hp : pnm y = true := by grind [ckPo, pnm, qnm, peg, qeg, pwr, qwr]
    refine awp_all (t.ports.take k) (fun r => r.any (fun z => qnm z y)) (fun i => [(2, .ptr 0 0), (3, .ptr 1 0), (6, .int .i64 k), (8, .int .i64 i)]) (by omega) rfl ?_ ?_
    · intro i z zs hd3 hx3 hF3 h03 h13 hw3
      rw [ht] at h13
      have hx4 := take_get hx3
      have h14 : (i : Int) < (t.ports.length : Int) := by omega
      have hmz := List.mem_of_getElem? hx4
      simp only [go_sem, h03, h13, h14, h0, h1, lPort_get hx4, lPort_get hx, toList_beq]
      repeat' (first
        | ((first | refine cS ?_ ?_ | refine gS ?_ ?_) <;> (intro hc; simp only [go_sem, hc, h03, h13, h14, hw3, h0, h1, lPort_get hx4, lPort_get hx, toList_beq])))
      all_goals first
        | (have hq : qnm z y = true := by grind [ckPo, pnm, qnm, peg, qeg, pwr, qwr]
           have h5 : okGo pnm qnm t.ports 0 t.ports = false := by rw [hF2, okGo, hF3, List.any_cons, hq]; simp
           have h6 : okAll pnm qnm t.ports = false := h5
           grind [ckPo, pnm, qnm, peg, qeg, pwr, qwr])
        | (have hq : qnm z y = false := by grind [ckPo, pnm, qnm, peg, qeg, pwr, qwr]
           first | (rw [List.any_cons, hq]; rfl) | (rw [hq]; rfl))
        | skip
    · intro hF3 hlt3
      rw [ht] at hlt3
      simp only [go_sem, ht, hlt3, decide_false, hw]
      rw [e1, e2, okGo, hF3, hp]; rfl
  · intro hF2 hlt2
    have hok : okAll pnm qnm t.ports = true := by simp only [Nat.sub_self] at hF2; exact hF2
    simp only [go_sem, hlt2, decide_false]
    refine awp_all t.ports (fun r => okGo (peg s.network.edges.length) qeg t.ports (t.ports.length - r.length) r) (fun k => [(2, .ptr 0 0), (3, .ptr 1 0), (9, .int .i64 k)]) (by omega) rfl ?_ ?_
    · intro k y ys hd hx hF2 h0 h1 hw
      have hk2 := drop_len hd
      have hmy := List.mem_of_getElem? hx
      have e1 : t.ports.length - (ys.length + 1) = k := by omega
      have e2 : t.ports.length - ys.length = k + 1 := by omega
      have ht : (t.ports.take k).length = k := take_len (by omega)
      simp only [List.length_cons, e1, Nat.sub_self] at hF2
      simp only [go_sem, h0, h1, lPort_get hx, toList_beq]
      repeat' (first
        | ((first | refine cS ?_ ?_ | refine gS ?_ ?_) <;> (intro hc; simp only [go_sem, hc, h0, h1, hw, lPort_get hx, toList_beq])))
      all_goals first
        | (have hp : (peg s.network.edges.length) y = false := by grind [ckPo, pnm, qnm, peg, qeg, pwr, qwr]
           have h5 : okGo (peg s.network.edges.length) qeg t.ports 0 t.ports = false := by rw [hF2, okGo, hp]; rfl
           have h6 : okAll (peg s.network.edges.length) qeg t.ports = false := h5
           grind [ckPo, pnm, qnm, peg, qeg, pwr, qwr])
        | skip
      have hp : (peg s.network.edges.length) y = true := by grind [ckPo, pnm, qnm, peg, qeg, pwr, qwr]
      refine awp_all (t.ports.take k) (fun r => r.any (fun z => qeg z y)) (fun i => [(2, .ptr 0 0), (3, .ptr 1 0), (9, .int .i64 k), (10, .int .i64 y.edge), (11, .int .i64 i)]) (by omega) rfl ?_ ?_
      · intro i z zs hd3 hx3 hF3 h03 h13 hw3
        rw [ht] at h13
        have hx4 := take_get hx3
        have h14 : (i : Int) < (t.ports.length : Int) := by omega
        have hmz := List.mem_of_getElem? hx4
        simp only [go_sem, h03, h13, h14, h0, h1, lPort_get hx4, lPort_get hx, toList_beq]
        repeat' (first
          | ((first | refine cS ?_ ?_ | refine gS ?_ ?_) <;> (intro hc; simp only [go_sem, hc, h03, h13, h14, hw3, h0, h1, lPort_get hx4, lPort_get hx, toList_beq])))
        all_goals first
          | (have hq : qeg z y = true := by grind [ckPo, pnm, qnm, peg, qeg, pwr, qwr]
             have h5 : okGo (peg s.network.edges.length) qeg t.ports 0 t.ports = false := by rw [hF2, okGo, hF3, List.any_cons, hq]; simp
             have h6 : okAll (peg s.network.edges.length) qeg t.ports = false := h5
             grind [ckPo, pnm, qnm, peg, qeg, pwr, qwr])
          | (have hq : qeg z y = false := by grind [ckPo, pnm, qnm, peg, qeg, pwr, qwr]
             first | (rw [List.any_cons, hq]; rfl) | (rw [hq]; rfl))
          | skip
      · intro hF3 hlt3
        rw [ht] at hlt3
        simp only [go_sem, ht, hlt3, decide_false, hw]
        rw [e1, e2, okGo, hF3, hp]; rfl
    · intro hF2b hlt2
      have hokb : okAll (peg s.network.edges.length) qeg t.ports = true := by simp only [Nat.sub_self] at hF2b; exact hF2b
      simp only [go_sem, hlt2, decide_false]
      refine awp_all t.wires (fun r => okGo (pwr t) qwr t.wires (t.wires.length - r.length) r) (fun k => [(3, .ptr 1 0), (12, .int .i64 k)]) (by omega) rfl ?_ ?_
      · intro k y ys hd hx hF2 h0 h1 hw
        have hk2 := drop_len hd
        have hmy := List.mem_of_getElem? hx
        have e1 : t.wires.length - (ys.length + 1) = k := by omega
        have e2 : t.wires.length - ys.length = k + 1 := by omega
        have ht : (t.wires.take k).length = k := take_len (by omega)
        simp only [List.length_cons, e1, Nat.sub_self] at hF2
        simp only [go_sem, h0, h1, lWire_get hx, toList_beq]
        repeat' (first
          | (refine pK (c_inner _ _) ?_; simp only [go_sem, h0, h1, hw, lWire_get hx, toList_beq])
          | ((first | refine cS ?_ ?_ | refine gS ?_ ?_) <;> (intro hc; simp only [go_sem, hc, h0, h1, hw, lWire_get hx, toList_beq])))
        all_goals first
          | (have hp : (pwr t) y = false := by grind [ckPo, pnm, qnm, peg, qeg, pwr, qwr]
             have h5 : okGo (pwr t) qwr t.wires 0 t.wires = false := by rw [hF2, okGo, hp]; rfl
             have h6 : okAll (pwr t) qwr t.wires = false := h5
             grind [ckPo, pnm, qnm, peg, qeg, pwr, qwr])
          | skip
        have hp : (pwr t) y = true := by grind [ckPo, pnm, qnm, peg, qeg, pwr, qwr]
        refine awp_all (t.wires.take k) (fun r => r.any (fun z => qwr z y)) (fun i => [(3, .ptr 1 0), (12, .int .i64 k), (13, .int .i64 i)]) (by omega) rfl ?_ ?_
        · intro i z zs hd3 hx3 hF3 h03 h13 hw3
          rw [ht] at h13
          have hx4 := take_get hx3
          have h14 : (i : Int) < (t.wires.length : Int) := by omega
          have hmz := List.mem_of_getElem? hx4
          simp only [go_sem, h03, h13, h14, h0, h1, lWire_get hx4, lWire_get hx, toList_beq]
          repeat' (first
            | ((first | refine cS ?_ ?_ | refine gS ?_ ?_) <;> (intro hc; simp only [go_sem, hc, h03, h13, h14, hw3, h0, h1, lWire_get hx4, lWire_get hx, toList_beq])))
          all_goals first
            | (have hq : qwr z y = true := by grind [ckPo, pnm, qnm, peg, qeg, pwr, qwr]
               have h5 : okGo (pwr t) qwr t.wires 0 t.wires = false := by rw [hF2, okGo, hF3, List.any_cons, hq]; simp
               have h6 : okAll (pwr t) qwr t.wires = false := h5
               grind [ckPo, pnm, qnm, peg, qeg, pwr, qwr])
            | (have hq : qwr z y = false := by grind [ckPo, pnm, qnm, peg, qeg, pwr, qwr]
               first | (rw [List.any_cons, hq]; rfl) | (rw [hq]; rfl))
            | skip
        · intro hF3 hlt3
          rw [ht] at hlt3
          simp only [go_sem, ht, hlt3, decide_false, hw]
          rw [e1, e2, okGo, hF3, hp]; rfl
      · intro hF2c hlt2
        have hokc : okAll (pwr t) qwr t.wires = true := by simp only [Nat.sub_self] at hF2c; exact hF2c
        simp only [go_sem, hlt2, decide_false]
        all_goals first
          | rfl
          | (simp only [ckPo]; rfl)
          | grind [ckPo]
          | (simp only [ckPo]; grind)
          | (simp [ckPo, *]; done)
          | (simp_all [ckPo]; done)
          | skip
end Go.AI
namespace Go.AI
open Go.Proofs
set_option maxRecDepth 50000
set_option maxHeartbeats 4000000 in
theorem c_ck18 (s : Setup) (t : Tenant) (hl : okF s.fields) (hs : bulkL s.c <= 1073741824) (hb : bulkL t.c <= 1073741824) : PCall Tryz.prog 130 [.agg s.c, .agg t.c] (.int .i64 (ck18 s t)) := by
  have hsn := Setup.bs_network hs
  have g1 := lNode_bn (Network.bl_nodes hsn)
  have g2 := lEdge_bn (Network.bl_edges hsn)
  have hbr := Tenant.bl_routes hb
  have hn := lRoute_bn hbr
  have hn2 := lDemand_bn (Tenant.bl_demands hb)
  refine pC h130_k rfl ?_
  simp only [Tryz.f130, go_sem]
  repeat' (first
    | ((first | refine pK (c_ckPo _ _ hb) ?_ | refine pK (c_ckPr _ _ hl hb) ?_); simp only [go_sem])
    | ((first | refine cS ?_ ?_ | refine gS ?_ ?_) <;> (intro hc; simp only [go_sem, hc])))
  all_goals first
    | rfl
    | (simp only [ck18]; rfl)
    | grind [ck18]
    | (simp only [ck18]; grind)
    | (simp [ck18, *]; done)
    | (simp_all [ck18]; done)
    | skip
  refine awp_all t.routes (fun r => rouGo s r) (fun k => [(2, .ptr 0 0), (3, .ptr 1 0), (6, .int .i64 k)]) (by omega) rfl ?_ ?_
  · intro k y ys hd hx hF h0 h1 hw
    have hby : bulkL y.c <= 1073741824 := by have := lRoute_bk hbr (List.mem_of_getElem? hx); simpa only [AV.bulk] using this
    simp only [go_sem, h0, h1, lRoute_get hx]
    repeat' (first
      | ((first | refine pK (c_ckTP _ _ hl (Route.bs_pred hby)) ?_ | refine pK (c_ckR _ (Route.bs_path hby)) ?_ | refine pK (c_knB _ g1 g2 _) ?_); simp only [go_sem, h0, h1, hw, lRoute_get hx])
      | ((first | refine cS ?_ ?_ | refine gS ?_ ?_) <;> (intro hc; simp only [go_sem, hc, h0, h1, hw, lRoute_get hx])))
    all_goals first
      | rfl
      | (simp only [ck18, rouGo, rouE]; rfl)
      | grind [ck18, rouGo, rouE]
      | (simp only [ck18, rouGo, rouE]; grind)
      | (simp [ck18, rouGo, rouE, *]; done)
      | (simp_all [ck18, rouGo, rouE]; done)
      | skip
  · intro hF hlt
    simp only [go_sem, hlt, decide_false]
    refine awp_all t.demands (fun r => okGo (pdm t) qdm t.demands (t.demands.length - r.length) r) (fun k => [(3, .ptr 1 0), (7, .int .i64 k)]) (by omega) rfl ?_ ?_
    · intro k y ys hd hx hF2 h0 h1 hw
      have hk2 := drop_len hd
      have hmy := List.mem_of_getElem? hx
      have e1 : t.demands.length - (ys.length + 1) = k := by omega
      have e2 : t.demands.length - ys.length = k + 1 := by omega
      have ht : (t.demands.take k).length = k := take_len (by omega)
      simp only [List.length_cons, e1, Nat.sub_self] at hF2
      simp only [go_sem, h0, h1, lDemand_get hx, toList_beq]
      repeat' (first
        | (refine pK (c_outer _ _) ?_; simp only [go_sem, h0, h1, hw, lDemand_get hx, toList_beq])
        | ((first | refine cS ?_ ?_ | refine gS ?_ ?_) <;> (intro hc; simp only [go_sem, hc, h0, h1, hw, lDemand_get hx, toList_beq])))
      all_goals first
        | (have hp : (pdm t) y = false := by grind [ck18, pdm, qdm, rouGo]
           have h5 : okGo (pdm t) qdm t.demands 0 t.demands = false := by rw [hF2, okGo, hp]; rfl
           have h6 : okAll (pdm t) qdm t.demands = false := h5
           grind [ck18, pdm, qdm, rouGo])
        | skip
      have hp : (pdm t) y = true := by grind [ck18, pdm, qdm, rouGo]
      refine awp_all (t.demands.take k) (fun r => r.any (fun z => qdm z y)) (fun i => [(3, .ptr 1 0), (7, .int .i64 k), (8, .ptr 2 0), (9, .int .i64 i)]) (by omega) rfl ?_ ?_
      · intro i z zs hd3 hx3 hF3 h03 h13 hw3
        rw [ht] at h13
        have hx4 := take_get hx3
        have h14 : (i : Int) < (t.demands.length : Int) := by omega
        have hmz := List.mem_of_getElem? hx4
        simp only [go_sem, h03, h13, h14, h0, h1, lDemand_get hx4, lDemand_get hx, toList_beq]
        repeat' (first
          | ((first | refine cS ?_ ?_ | refine gS ?_ ?_) <;> (intro hc; simp only [go_sem, hc, h03, h13, h14, hw3, h0, h1, lDemand_get hx4, lDemand_get hx, toList_beq])))
        all_goals first
          | (have hq : qdm z y = true := by grind [ck18, pdm, qdm, rouGo]
             have h5 : okGo (pdm t) qdm t.demands 0 t.demands = false := by rw [hF2, okGo, hF3, List.any_cons, hq]; simp
             have h6 : okAll (pdm t) qdm t.demands = false := h5
             grind [ck18, pdm, qdm, rouGo])
          | (have hq : qdm z y = false := by grind [ck18, pdm, qdm, rouGo]
             first | (rw [List.any_cons, hq]; rfl) | (rw [hq]; rfl))
          | skip
      · intro hF3 hlt3
        rw [ht] at hlt3
        simp only [go_sem, ht, hlt3, decide_false, hw]
        rw [e1, e2, okGo, hF3, hp]; rfl
    · intro hF2c hlt2
      have hokc : okAll (pdm t) qdm t.demands = true := by simp only [Nat.sub_self] at hF2c; exact hF2c
      simp only [go_sem, hlt2, decide_false]
      all_goals first
        | rfl
        | (simp only [ck18, rouGo]; rfl)
        | grind [ck18, rouGo]
        | (simp only [ck18, rouGo]; grind)
        | (simp [ck18, rouGo, *]; done)
        | (simp_all [ck18, rouGo]; done)
        | skip
end Go.AI
namespace Go.AI
open Go.Proofs
set_option maxRecDepth 50000
theorem c_named (l : List ByteArray) (hn : l.length <= 1073741824) (hl : ∀ y ∈ l, y.size <= 1073741824) : PCall Tryz.prog 125 [.sl none (lStr l)] (.bool (okAll pna qna l)) := by
  refine pC h125_k rfl ?_
  simp only [Tryz.f125, go_sem]
  refine awp_all l (fun r => okGo pna qna l (l.length - r.length) r) (fun k => [(0, .sl none (lStr l)), (3, .int .i64 k)]) (by omega) rfl ?_ ?_
  · intro k y ys hd hx hF2 h0 h1 hw
    have hk2 := drop_len hd
    have hmy := List.mem_of_getElem? hx
    have e1 : l.length - (ys.length + 1) = k := by omega
    have e2 : l.length - ys.length = k + 1 := by omega
    have ht : (l.take k).length = k := take_len (by omega)
    simp only [List.length_cons, e1, Nat.sub_self] at hF2
    simp only [go_sem, h0, h1, lStr_get hx, toList_beq]
    repeat' (first
      | (refine pK (c_Name8 _ (hl y hmy)) ?_; simp only [go_sem, h0, h1, hw, lStr_get hx, toList_beq])
      | ((first | refine cS ?_ ?_ | refine gS ?_ ?_) <;> (intro hc; simp only [go_sem, hc, h0, h1, hw, lStr_get hx, toList_beq])))
    all_goals first
      | (have hp : pna y = false := by grind [pna, qna]
         have h5 : okGo pna qna l 0 l = false := by rw [hF2, okGo, hp]; rfl
         have h6 : okAll pna qna l = false := h5
         grind [pna, qna])
      | skip
    have hp : pna y = true := by grind [pna, qna]
    refine awp_all (l.take k) (fun r => r.any (fun z => qna z y)) (fun i => [(0, .sl none (lStr l)), (3, .int .i64 k), (5, .int .i64 i)]) (by omega) rfl ?_ ?_
    · intro i z zs hd3 hx3 hF3 h03 h13 hw3
      rw [ht] at h13
      have hx4 := take_get hx3
      have h14 : (i : Int) < (l.length : Int) := by omega
      have hmz := List.mem_of_getElem? hx4
      simp only [go_sem, h03, h13, h14, h0, h1, lStr_get hx4, lStr_get hx, toList_beq]
      repeat' (first
        | ((first | refine cS ?_ ?_ | refine gS ?_ ?_) <;> (intro hc; simp only [go_sem, hc, h03, h13, h14, hw3, h0, h1, lStr_get hx4, lStr_get hx, toList_beq])))
      all_goals first
        | (have hq : qna z y = true := by grind [pna, qna]
           have h5 : okGo pna qna l 0 l = false := by rw [hF2, okGo, hF3, List.any_cons, hq]; simp
           have h6 : okAll pna qna l = false := h5
           grind [pna, qna])
        | (have hq : qna z y = false := by grind [pna, qna]
           first | (rw [List.any_cons, hq]; rfl) | (rw [hq]; rfl))
        | skip
    · intro hF3 hlt3
      rw [ht] at hlt3
      simp only [go_sem, ht, hlt3, decide_false, hw]
      rw [e1, e2, okGo, hF3, hp]; rfl
  · intro hF2c hlt2
    have hokc : okAll pna qna l = true := by simp only [Nat.sub_self] at hF2c; exact hF2c
    simp only [go_sem, hlt2, decide_false]
    all_goals first
      | rfl
      | (simp only [hokc]; rfl)
      | grind []
      | (simp only [hokc]; grind)
      | (simp [hokc, *]; done)
      | (simp_all [hokc]; done)
      | skip
theorem c_isNode (n : Network) (k : Int) : PCall Tryz.prog 126 [.agg n.c,.int .i64 k] (.bool (isNodeB n k)):=by
 refine pC h126_k rfl ?_
 simp only [Tryz.f126,go_sem]
 repeat' (first
  | ((first | refine cS ?_ ?_ | refine gS ?_ ?_) <;> (intro hc; simp only [go_sem,hc])))
 all_goals first
  | rfl
  | (simp only [isNodeB]; rfl)
  | grind [isNodeB]
  | (simp only [isNodeB]; grind)
  | (simp [isNodeB, *]; done)
  | (simp_all [isNodeB]; done)
  | skip
set_option maxHeartbeats 2000000 in
theorem c_ckNet (n : Network) (hb : bulkL n.c <= 1073741824) : PCall Tryz.prog 71 [.agg n.c] (.int .i64 (ckNet n)) := by
  have b1 := Network.bl_nodes hb
  have b2 := Network.bl_edges hb
  have g1 := lNode_bn b1
  have g2 := lEdge_bn b2
  have g3 := lLink_bn (Network.bl_links hb)
  have n1 : (nodeNames n).length <= 1073741824 := by simpa [nodeNames] using g1
  have n2 : (edgeNames n).length <= 1073741824 := by simpa [edgeNames] using g2
  have n3 : ∀ y ∈ nodeNames n, y.size <= 1073741824 := by
    intro y hy
    obtain ⟨x, hx, rfl⟩ := List.mem_map.1 hy
    have := lNode_bk b1 hx
    exact Node.bk_name (by simpa only [AV.bulk] using this)
  have n4 : ∀ y ∈ edgeNames n, y.size <= 1073741824 := by
    intro y hy
    obtain ⟨x, hx, rfl⟩ := List.mem_map.1 hy
    have := lEdge_bk b2 hx
    exact Edge.bk_name (by simpa only [AV.bulk] using this)
  refine pC h71_k rfl ?_
  simp only [Tryz.f71, go_sem]
  repeat' (first
    | ((first | refine pK (c_Names n g1 g2) ?_ | refine pK (c_named _ n1 n3) ?_ | refine pK (c_named _ n2 n4) ?_); simp only [go_sem])
    | ((first | refine cS ?_ ?_ | refine gS ?_ ?_) <;> (intro hc; simp only [go_sem, hc])))
  all_goals first
    | rfl
    | (simp only [ckNet]; rfl)
    | grind [ckNet]
    | (simp only [ckNet]; grind)
    | (simp [ckNet, *]; done)
    | (simp_all [ckNet]; done)
    | skip
  refine awp_all n.nodes (fun r => r.all (nodeB n)) (fun k => [(1, .ptr 0 0), (7, .int .i64 k)]) (by omega) rfl ?_ ?_
  · intro k y ys hd hx hF h0 h1 hw
    simp only [go_sem, h0, h1, lNode_get hx]
    repeat' (first
      | ((first | refine cS ?_ ?_ | refine gS ?_ ?_) <;> (intro hc; simp only [go_sem, hc, h0, h1, hw, lNode_get hx])))
    all_goals first
      | (have hp : nodeB n y = false := by grind [nodeB]
         have h5 : n.nodes.all (nodeB n) = false := by rw [hF, List.all_cons, hp]; rfl
         grind [ckNet])
      | (have hp : nodeB n y = true := by grind [nodeB]
         first | (rw [List.all_cons, hp]; rfl) | (rw [hp]; rfl))
      | skip
  · intro hF hlt
    have k1 : n.nodes.all (nodeB n) = true := by rw [hF]; rfl
    simp only [go_sem, hlt, decide_false]
    refine awp_all n.links (fun r => r.all (linkB n)) (fun k => [(1, .ptr 0 0), (9, .int .i64 k)]) (by omega) rfl ?_ ?_
    · intro k y ys hd hx hF h0 h1 hw
      simp only [go_sem, h0, h1, lLink_get hx]
      repeat' (first
        | (refine pK (c_isNode _ _) ?_; simp only [go_sem, h0, h1, hw, lLink_get hx])
        | ((first | refine cS ?_ ?_ | refine gS ?_ ?_) <;> (intro hc; simp only [go_sem, hc, h0, h1, hw, lLink_get hx])))
      all_goals first
        | (have hp : linkB n y = false := by grind [linkB]
           have h5 : n.links.all (linkB n) = false := by rw [hF, List.all_cons, hp]; rfl
           grind [ckNet])
        | (have hp : linkB n y = true := by grind [linkB]
           first | (rw [List.all_cons, hp]; rfl) | (rw [hp]; rfl))
        | skip
    · intro hF2 hlt2
      have k2 : n.links.all (linkB n) = true := by rw [hF2]; rfl
      simp only [go_sem, hlt2, decide_false]
      refine awp_all n.edges (fun r => r.all (fun x => isNodeB n x.node)) (fun k => [(1, .ptr 0 0), (11, .int .i64 k)]) (by omega) rfl ?_ ?_
      · intro k y ys hd hx hF h0 h1 hw
        simp only [go_sem, h0, h1, lEdge_get hx]
        repeat' (first
          | (refine pK (c_isNode _ _) ?_; simp only [go_sem, h0, h1, hw, lEdge_get hx])
          | ((first | refine cS ?_ ?_ | refine gS ?_ ?_) <;> (intro hc; simp only [go_sem, hc, h0, h1, hw, lEdge_get hx])))
        all_goals first
          | (have hp : isNodeB n y.node = false := by grind
             have h5 : n.edges.all (fun x => isNodeB n x.node) = false := by rw [hF, List.all_cons, hp]; rfl
             grind [ckNet])
          | (have hp : isNodeB n y.node = true := by grind
             first | (rw [List.all_cons, hp]; rfl) | (rw [hp]; rfl))
          | skip
      · intro hF3 hlt3
        have k3 : n.edges.all (fun x => isNodeB n x.node) = true := by rw [hF3]; rfl
        simp only [go_sem, hlt3, decide_false]
        all_goals first
          | rfl
          | (simp only [ckNet]; rfl)
          | grind [ckNet]
          | (simp only [ckNet]; grind)
          | (simp [ckNet, *]; done)
          | (simp_all [ckNet]; done)
          | skip
theorem c_fewN (n : Network) (a b c : Int) : PCall Tryz.prog 68 [.agg n.c,.int .i64 a,.int .i64 b,.int .i64 c] (.bool (fewN n a b c)):=by
 refine pC h68_k rfl ?_
 simp only [Tryz.f68,go_sem]
 repeat' (first
  | ((first | refine cS ?_ ?_ | refine gS ?_ ?_) <;> (intro hc; simp only [go_sem,hc])))
 all_goals first
  | rfl
  | (simp only [fewN]; rfl)
  | grind [fewN]
  | (simp only [fewN]; grind)
  | (simp [fewN, *]; done)
  | (simp_all [fewN]; done)
  | skip
theorem c_place (f : Fld) : PCall Tryz.prog 128 [.agg f.c] (.bool (placeB f)) := by
  refine pC h128_k rfl ?_
  simp only [Tryz.f128, go_sem]
  repeat' (first
    | ((first | refine cS ?_ ?_ | refine gS ?_ ?_) <;> (intro hc; simp only [go_sem, hc])))
  all_goals first
    | grind [placeB]
    | (simp only [decide_eq_true_eq] at *
       refine ⟨by decide, ?_⟩
       rw [Int.tmod_eq_emod_of_nonneg (by omega), w64 (by omega) (by omega)]
       grind [placeB])
theorem c_common (a b : Fld) : PCall Tryz.prog 129 [.agg a.c,.agg b.c] (.bool (commonB a b)):=by
 refine pC h129_k rfl ?_
 simp only [Tryz.f129,go_sem]
 repeat' (first
  | ((first | refine cS ?_ ?_ | refine gS ?_ ?_) <;> (intro hc; simp only [go_sem,hc])))
 all_goals first
  | rfl
  | (simp only [commonB,i64]; rfl)
  | grind [commonB,i64]
  | (simp only [commonB,i64]; grind)
  | (simp [commonB,i64, *]; done)
  | (simp_all [commonB,i64]; done)
  | skip
end Go.AI
namespace Go.AI
open Go.Proofs
set_option maxRecDepth 50000
set_option maxHeartbeats 2000000 in
theorem c_ckF (l : List Fld) (hb : bulkL (lFld l) <= 1073741824) : PCall Tryz.prog 72 [.sl none (lFld l)] (.int .i64 (ckF l)) := by
  have hn := lFld_bn hb
  refine pC h72_k rfl ?_
  simp only [Tryz.f72, go_sem]
  repeat' (first
    | ((first | refine cS ?_ ?_ | refine gS ?_ ?_) <;> (intro hc; simp only [go_sem, hc])))
  all_goals first
    | rfl
    | (simp only [ckF]; rfl)
    | grind [ckF]
    | (simp only [ckF]; grind)
    | (simp [ckF, *]; done)
    | (simp_all [ckF]; done)
    | skip
  refine awp_all l (fun r => ckFGo l (l.length - r.length) r) (fun k => [(0, .sl none (lFld l)), (3, .int .i64 k)]) (by omega) rfl ?_ ?_
  · intro k y ys hd hx hF2 h0 h1 hw
    have hk2 := drop_len hd
    have e1 : l.length - (ys.length + 1) = k := by omega
    have e2 : l.length - ys.length = k + 1 := by omega
    have ht : (l.take k).length = k := take_len (by omega)
    have hby : bulkL y.c <= 1073741824 := by have := lFld_bk hb (List.mem_of_getElem? hx); simpa only [AV.bulk] using this
    simp only [List.length_cons, e1, Nat.sub_self] at hF2
    simp only [go_sem, h0, h1, lFld_get hx, toList_beq]
    repeat' (first
      | (refine pK (c_Name8 _ (Fld.bk_name hby)) ?_; simp only [go_sem, h0, h1, hw, lFld_get hx, toList_beq])
      | ((first | refine cS ?_ ?_ | refine gS ?_ ?_) <;> (intro hc; simp only [go_sem, hc, h0, h1, hw, lFld_get hx, toList_beq])))
    all_goals first
      | rfl
      | (simp only [ckF, ckFGo, portS]; rfl)
      | grind [ckF, ckFGo, portS]
      | (simp only [ckF, ckFGo, portS]; grind)
      | (simp [ckF, ckFGo, portS, *]; done)
      | (simp_all [ckF, ckFGo, portS]; done)
      | skip
    refine awp_all (l.take k) (fun r => r.any (fun z => decide (z.name = y.name))) (fun i => [(0, .sl none (lFld l)), (3, .int .i64 k), (5, .int .i64 i)]) (by omega) rfl ?_ ?_
    · intro i z zs hd3 hx3 hF3 h03 h13 hw3
      rw [ht] at h13
      have hx4 := take_get hx3
      have h14 : (i : Int) < (l.length : Int) := by omega
      simp only [go_sem, h03, h13, h14, h0, h1, lFld_get hx4, lFld_get hx, toList_beq]
      repeat' (first
        | ((first | refine cS ?_ ?_ | refine gS ?_ ?_) <;> (intro hc; simp only [go_sem, hc, h03, h13, h14, hw3, h0, h1, lFld_get hx4, lFld_get hx, toList_beq])))
      all_goals first
        | (have h5 : (l.take k).any (fun z => decide (z.name = y.name)) = true := by rw [hF3, List.any_cons, hc]; rfl
           grind [ckF, ckFGo, portS])
        | (first | (rw [List.any_cons, hc]; rfl) | (rw [hc]; rfl))
        | skip
    · intro hF3 hlt3
      rw [ht] at hlt3
      have k1 : (l.take k).any (fun z => decide (z.name = y.name)) = false := by rw [hF3]; rfl
      simp only [go_sem, ht, hlt3, decide_false, h0, h1, lFld_get hx]
      repeat' (first
        | (refine pK (c_place _) ?_; simp only [go_sem, h0, h1, hw, lFld_get hx])
        | ((first | refine cS ?_ ?_ | refine gS ?_ ?_) <;> (intro hc; simp only [go_sem, hc, h0, h1, hw, lFld_get hx])))
      all_goals first
        | rfl
        | (simp only [ckF, ckFGo, portS]; rfl)
        | grind [ckF, ckFGo, portS]
        | (simp only [ckF, ckFGo, portS]; grind)
        | (simp [ckF, ckFGo, portS, *]; done)
        | (simp_all [ckF, ckFGo, portS]; done)
        | skip
      refine awp_all (l.take k) (fun r => r.any (fun z => commonB z y)) (fun i => [(0, .sl none (lFld l)), (3, .int .i64 k), (7, .int .i64 i)]) (by omega) rfl ?_ ?_
      · intro i z zs hd4 hx5 hF4 h04 h15 hw4
        rw [ht] at h15
        have hx6 := take_get hx5
        have h14 : (i : Int) < (l.length : Int) := by omega
        simp only [go_sem, h04, h15, h14, h0, h1, lFld_get hx6, lFld_get hx]
        repeat' (first
          | (refine pK (c_common _ _) ?_; simp only [go_sem, h04, h15, h14, hw4, h0, h1, lFld_get hx6, lFld_get hx])
          | ((first | refine cS ?_ ?_ | refine gS ?_ ?_) <;> (intro hc; simp only [go_sem, hc, h04, h15, h14, hw4, h0, h1, lFld_get hx6, lFld_get hx])))
        all_goals first
          | (have h5 : (l.take k).any (fun z => commonB z y) = true := by rw [hF4, List.any_cons, hc]; rfl
             grind [ckF, ckFGo, portS])
          | (first | (rw [List.any_cons, hc]; rfl) | (rw [hc]; rfl))
          | skip
      · intro hF4 hlt4
        rw [ht] at hlt4
        have k2 : (l.take k).any (fun z => commonB z y) = false := by rw [hF4]; rfl
        simp only [go_sem, ht, hlt4, decide_false, hw]
        rw [e1, e2]
        grind [ckFGo, portS]
  · intro hF2 hlt2
    simp only [go_sem, hlt2, decide_false]
    all_goals first
      | rfl
      | (simp only [ckF, ckFGo]; rfl)
      | grind [ckF, ckFGo]
      | (simp only [ckF, ckFGo]; grind)
      | (simp [ckF, ckFGo, *]; done)
      | (simp_all [ckF, ckFGo]; done)
      | skip
def Head.l (h : Head) : List Int:=[h.h0,h.h1,h.h2,h.h3,h.h4,h.h5,h.h6,h.h7,h.h8,h.h9]
theorem Head.c_l (h : Head) : h.c = h.l.map (.int .i64):=rfl
def rightH (h : Head) : Bool:=h.l.all wordB16
theorem c_rightH6 (h : Head) : PCall Tryz.prog 42 [.agg h.c] (.bool (rightH h)):=by
 refine pC h42_k rfl ?_
 simp only [Tryz.f42,go_sem]
 refine awp_all h.l (fun r => r.all wordB16) (fun k => [(1,.ptr 0 0),(3,.int .i64 k)]) (by simp [Head.l]) rfl ?_ ?_
 ·intro k y ys hd hx hF h0 h1 hw
  have h2 : (k : Int) < 10:=h1
  have h3 : (k : Int) < ((10 : Nat) : Int):=h1
  have hg : h.c[k]? = some (.int .i64 y):=by rw [Head.c_l,List.getElem?_map,hx]; rfl
  simp only [go_sem,h0,h2,h3,hg]
  repeat' (first
   | ((first | refine cS ?_ ?_ | refine gS ?_ ?_) <;> (intro hc; simp only [go_sem,hc,h0,h2,h3,hg,hw])))
  all_goals first
   | rfl
   | (simp only [rightH,wordB16]; rfl)
   | grind [rightH,wordB16]
   | (simp only [rightH,wordB16]; grind)
   | (simp [rightH,wordB16, *]; done)
   | (simp_all [rightH,wordB16]; done)
   | skip
 ·intro hF hlt
  have h2 : ¬ ((h.l.length : Nat) : Int) < 10:=by simp [Head.l]
  simp only [go_sem,h2,decide_false]
  rw [rightH,hF]; rfl
end Go.AI
namespace Go.AI
open Go.Proofs
set_option maxRecDepth 50000
@[go_sem] theorem z0_10 : ((0 : Int) < ((10 : Nat) : Int)) = True:=by decide
@[go_sem] theorem z9_10 : ((9 : Int) < ((10 : Nat) : Int)) = True:=by decide
theorem set_end (H : Heap) (x y : Option (List AV)) : (H ++ [x]).set H.length y = H ++ [y]:=by simp
attribute [go_sem] set_end List.getElem?_concat_length
def rfPost (n : Nat) (Q : Exit -> Kt) (e : Env) (H2 : Heap) : Prop :=
 ∃ st av,H2[n]? = some (some (loopc st av)) /\ ((st = 0 /\ Q .normal e (H2.set n none)) \/ (st = -2 /\ Q .ret e (H2.set n none)) \/ ∃ k : Nat,st = (k : Int) + 1 /\ Q (.exit k) e (H2.set n none))
theorem rfK_intro {P : Program} {n tag : Nat} {h : Hint} {g : Operand} {rs : Array Tmp} {assign body : Code} {Q : Exit -> Kt} {e : Env} {H : Heap} {f : FuncId} {first captured : List AV}
  (hg : evo P none e g = .fn (.func f) first captured)
  (hc : ACall P f (first.map AV.borrow ++ [.yld H.length ⟨tag,rs,assign,body⟩] ++ captured.map AV.borrow) (H ++ [some (loopc 0 (frameVals n e))]) (fun _ H2 => rfPost H.length Q e H2)) : rfK P n h none g rs assign body Q e H :=
 ⟨trivial,tag,f,first,captured,hg,hc⟩
def edgeOf (t : Tenant) (n : Int) : Int:=if isPortB t n = true then edgeAt t n else -1
def portIdx (e : Int) : Nat -> List Port -> Int
 | _,[] => -1
 | i,x :: r => if 0 <= e /\ x.edge = e then (i : Int) else portIdx e (i + 1) r
def portOf (t : Tenant) (e : Int) : Int:=portIdx e 0 t.ports
def portIdx2 (e : Int) : Nat -> List Port -> Int
 | _,[] => -1
 | i,x :: r => if x.edge ≠ -1 /\ x.edge = e then (i : Int) else portIdx2 e (i + 1) r
def portOf2 (t : Tenant) (e : Int) : Int:=portIdx2 e 0 t.ports
def enterH (p : Int) (h : Head) : Head × Bool:=if p < 0 then (Head.z,false) else ({ { h with h0:=p } with h9:=0 },true)
def exitH (e : Int) (h : Head) : Head × Bool:=if e < 0 then (Head.z,false) else ({ h with h0:=i64 (10000 + e) },true)
theorem c_within (n lo hi : Int) : PCall Tryz.prog 115 [.int .i64 n,.int .i64 lo,.int .i64 hi] (.bool (decide (lo <= n) && decide (n <= hi))):=by
 refine pC h115_k rfl ?_
 simp only [Tryz.f115,go_sem]
 repeat' (first
  | ((first | refine cS ?_ ?_ | refine gS ?_ ?_) <;> (intro hc; simp only [go_sem,hc])))
 all_goals grind
theorem c_Edge (t : Tenant) (n : Int) : PCall Tryz.prog 55 [.agg t.c,.int .i64 n] (.int .i64 (edgeOf t n)):=by
 refine PCall.fit h55_k.c fun hf => ?_
 have hl:=Tenant.fit_ports (fit1 hf)
 have hw : IntKind.i64.wrap ((t.ports.length : Int) - 1) = (t.ports.length : Int) - 1:=w64 (by omega) (by omega)
 refine pC h55_k rfl ?_
 cases hp : isPortB t n with
 | false =>
  have hq : (decide (0 <= n) && decide (n <= (t.ports.length : Int) - 1)) = false:=by unfold isPortB at hp; grind
  simp only [Tryz.f55,go_sem]
  repeat' (first
   | (refine pK (c_within _ _ _) ?_; simp only [go_sem,hw,hq])
   | ((first | refine cS ?_ ?_ | refine gS ?_ ?_) <;> (intro hc; simp only [go_sem,hc,hw,hq])))
  all_goals first
   | rfl
   | (simp only [edgeOf,hp]; rfl)
   | grind [edgeOf]
   | (simp only [edgeOf,hp]; grind)
   | (simp [edgeOf,hp, *]; done)
   | (simp_all [edgeOf,hp]; done)
   | skip
 | true =>
  obtain ⟨h1,h2,p,h3,h4,h5⟩:=port_get hp
  have hq : (decide (0 <= n) && decide (n <= (t.ports.length : Int) - 1)) = true:=by grind
  simp only [Tryz.f55,go_sem]
  repeat' (first
   | (refine pK (c_within _ _ _) ?_; simp only [go_sem,hw,hq,h1,h2,h5])
   | ((first | refine cS ?_ ?_ | refine gS ?_ ?_) <;> (intro hc; simp only [go_sem,hc,hw,hq,h1,h2,h5])))
  all_goals first
   | rfl
   | (simp only [edgeOf,hp]; rfl)
   | grind [edgeOf]
   | (simp only [edgeOf,hp]; grind)
   | (simp [edgeOf,hp, *]; done)
   | (simp_all [edgeOf,hp]; done)
   | skip
theorem c_Port18 (t : Tenant) (e : Int) : PCall Tryz.prog 132 [.agg t.c,.int .i64 e] (.int .i64 (portOf t e)):=by
 refine PCall.fit h132_k.c fun hf => ?_
 have hl:=Tenant.fit_ports (fit1 hf)
 refine pC h132_k rfl ?_
 simp only [Tryz.f132,go_sem]
 refine awp_all t.ports (fun r => portIdx e (t.ports.length - r.length) r) (fun k => [(1,.int .i64 e),(2,.ptr 0 0),(5,.int .i64 k)]) hl rfl ?_ ?_
 ·intro k y ys hd hx hF h0 h1 hw
  have hk2:=drop_len hd
  have e1 : t.ports.length - (ys.length + 1) = k:=by omega
  have e2 : t.ports.length - ys.length = k + 1:=by omega
  simp only [List.length_cons,e1,Nat.sub_self] at hF
  simp only [go_sem,h0,h1,lPort_get hx,e1,e2]
  repeat' (first
   | ((first | refine cS ?_ ?_ | refine gS ?_ ?_) <;> (intro hc; simp only [go_sem,hc,h0,h1,hw,lPort_get hx,e1,e2])))
  all_goals first
   | rfl
   | (simp only [portOf,portIdx]; rfl)
   | grind [portOf,portIdx]
   | (simp only [portOf,portIdx]; grind)
   | (simp [portOf,portIdx, *]; done)
   | (simp_all [portOf,portIdx]; done)
   | skip
 ·intro hF hlt
  simp only [go_sem,hlt,decide_false]
  all_goals first
   | rfl
   | (simp only [portOf,portIdx]; rfl)
   | grind [portOf,portIdx]
   | (simp only [portOf,portIdx]; grind)
   | (simp [portOf,portIdx, *]; done)
   | (simp_all [portOf,portIdx]; done)
   | skip
theorem c_Exit (t : Tenant) (h : Head) : PCall Tryz.prog 29 [.agg t.c,.agg h.c] (.tup [.agg (exitH (edgeOf t h.h0) h).1.c,.bool (exitH (edgeOf t h.h0) h).2]):=by
 refine pB h29_k rfl ?_
 simp only [Tryz.f29,go_sem]
 repeat' (first
  | (refine pK (c_Edge _ _) ?_; simp only [go_sem])
  | ((first | refine cS ?_ ?_ | refine gS ?_ ?_) <;> (intro hc; simp only [go_sem,hc])))
 all_goals first
  | rfl
  | (simp only [exitH,i64]; rfl)
  | grind [exitH,i64]
  | (simp only [exitH,i64]; grind)
  | (simp [exitH,i64, *]; done)
  | (simp_all [exitH,i64]; done)
  | skip
theorem c_outers (t : Tenant) (H : Heap) : ACall Tryz.prog 67 [.agg t.c] H (fun v H' => v = .fn (.func 118) [] [.ptr H.length 0] /\ H' = H ++ [some t.c]):=by
 refine aC h67_k rfl ?_
 simp only [Tryz.f67,go_sem]
theorem c_outersIt (t : Tenant) (hl : t.ports.length <= 1073741824) (o p : Nat) (L : LoopRec) (H0 : Heap) (Inv : Nat -> Heap -> Prop) (Q : Heap -> Prop)
  (hp : ∀ k H,Inv k H -> H[p]? = some (some t.c)) (hg : ∀ k H x,Inv k H -> Inv k (H ++ [x]))
  (round : ∀ k x H,t.ports[k]? = some x -> x.edge ≠ -1 -> Inv k H -> YCall Tryz.prog o L [.int .i64 k,.int .i64 x.edge] H (fun v H' => (v = .bool true /\ Inv (k + 1) H') \/ (v = .bool false /\ Q H')))
  (skip : ∀ k x H,t.ports[k]? = some x -> x.edge = -1 -> Inv k H -> Inv (k + 1) H)
  (fin : ∀ H,Inv t.ports.length H -> Q H) (h0 : Inv 0 H0) : ACall Tryz.prog 118 [.yld o L,.ptr p 0] H0 (fun _ H' => Q H'):=by
 refine aC h118_k rfl ?_
 have hp0:=hp 0 H0 h0
 simp only [Tryz.f118,go_sem,hp0]
 refine awp_wh (σ:=Nat × Heap) (fun s => [(0,.yld o L),(6,.sl none (lPort t.ports)),(7,.int .i64 t.ports.length),(8,.int .i64 s.1)]) (fun s => s.2) (fun s => s.1 <= t.ports.length /\ Inv s.1 s.2) (fun s => t.ports.length - s.1) (0,H0) ⟨Nat.zero_le _,h0⟩ rfl rfl ?_
 rintro ⟨k,H⟩ ⟨hk,hI⟩
 by_cases hlt : k < t.ports.length
 ·obtain ⟨x,hx⟩ : ∃ x,t.ports[k]? = some x:=⟨_,List.getElem?_eq_getElem hlt⟩
  have h0 : (0 : Int) <= (k : Int):=by omega
  have h1 : (k : Int) < (t.ports.length : Int):=by omega
  have hw:=w64s (k:=k) (by omega)
  simp only [go_sem,h0,h1,lPort_get hx,decide_true]
  repeat' (first
   | ((first | refine cS ?_ ?_ | refine gS ?_ ?_) <;> (intro hc; simp only [go_sem,hc,h0,h1,hw,lPort_get hx])))
  ·refine YCallK.intro (round k x _ hx (by simpa using hc) (hg _ _ _ hI)) fun v H' hr => ?_
   rcases hr with ⟨rfl,hi⟩ | ⟨rfl,hq⟩
   ·simp only [go_sem,hw,Bool.not_true]
    exact ⟨(k + 1,H'),⟨by omega,hi⟩,by omega,rfl,rfl⟩
   ·simp only [go_sem,Bool.not_false]
    exact hq
  ·exact ⟨(k + 1,H ++ [some x.c]),⟨by omega,hg _ _ _ (skip k x H hx (by simpa using hc) hI)⟩,by omega,rfl,rfl⟩
 ·have h1 : ¬ (k : Int) < (t.ports.length : Int):=by omega
  have hkl : k = t.ports.length:=by omega
  simp only [go_sem,h1,decide_false]
  exact fin H (hkl ▸ hI)
theorem c_Port (t : Tenant) (hl : t.ports.length <= 1073741824) (e : Int) : PCall Tryz.prog 38 [.agg t.c,.int .i64 e] (.int .i64 (portOf2 t e)):=by
 refine pC h38_k rfl ?_
 simp only [Tryz.f38,go_sem]
 refine ACallK.intro (c_outers t _) fun v H' hr => ?_
 obtain ⟨rfl,rfl⟩:=hr
 simp only [go_sem]
 have step : ∀ (k : Nat) (x : Port),t.ports[k]? = some x -> portIdx2 e k (t.ports.drop k) = if x.edge ≠ -1 /\ x.edge = e then (k : Int) else portIdx2 e (k + 1) (t.ports.drop (k + 1)):=fun k x hx => by
  obtain ⟨hlt,rfl⟩:=List.getElem?_eq_some_iff.1 hx
  rw [List.drop_eq_getElem_cons hlt,portIdx2]
 refine rfK_intro (tag:=38) rfl (ACall.mono (c_outersIt t hl 4 3 _ _
  (fun k H => ∃ g,H = some t.c :: some [.int .i64 e] :: some [.int .i64 0] :: some t.c :: some (loopc 0 (frameVals 15 [(3,.ptr 1 0),(4,.ptr 2 0),(8,.fn (.func 118) [] [.ptr 3 0])])) :: g /\ portOf2 t e = portIdx2 e k (t.ports.drop k))
  (fun H => (∃ g,H = some t.c :: some [.int .i64 e] :: some [.int .i64 0] :: some t.c :: some (loopc 0 (frameVals 15 [(3,.ptr 1 0),(4,.ptr 2 0),(8,.fn (.func 118) [] [.ptr 3 0])])) :: g /\ portOf2 t e = -1)
   \/ ∃ g r,H = some t.c :: some [.int .i64 e] :: some [.int .i64 r] :: some t.c :: some (loopc (-2) (frameVals 15 [(3,.ptr 1 0),(4,.ptr 2 0),(8,.fn (.func 118) [] [.ptr 3 0])])) :: g /\ portOf2 t e = r)
  ?_ ?_ ?_ ?_ ?_ ?_) fun v H2 hq => ?_)
 ·rintro k H ⟨g,rfl,_⟩; rfl
 ·rintro k H x ⟨g,rfl,h⟩; exact ⟨g ++ [x],rfl,h⟩
 ·rintro k x H hx hne ⟨g,rfl,h⟩
  refine ycall_of_awp (h:=h38) (n:=15) mixed rfl ⟨by kernel_rfl,by kernel_rfl⟩ (by decide) _ _ _ _ rfl rfl rfl ?_
  show awp _ _ _ _ _ _ [(10,.int .i64 x.edge),(9,.int .i64 k),(0,.undef),(1,.undef),(2,.undef),(3,.ptr 1 0),(4,.ptr 2 0),(5,.undef),(6,.undef),(7,.undef),(8,.fn (.func 118) [] [.ptr 3 0]),(9,.undef),(10,.undef),(11,.undef),(12,.undef),(13,.undef),(14,.undef)] _
  simp only [go_sem]
  refine ⟨_,rfl,condK_split _ _ _ (fun hc => ?_) (fun hc => ?_)⟩
  ·simp only [go_sem,hc]
   exact ⟨_,rfl,.inr (.inr ⟨g,(k : Int),rfl,by rw [h,step k x hx,if_pos ⟨hne,by simpa using hc⟩]⟩)⟩
  ·simp only [go_sem,hc]
   first
    | exact ⟨_,rfl,g,rfl,by rw [h,step k x hx,if_neg (fun c => by rw [c.2] at hc; simp at hc)]⟩
    | exact ⟨_,rfl,.inl ⟨g,rfl,by rw [h,step k x hx,if_neg (fun c => by rw [c.2] at hc; simp at hc)]⟩⟩
 ·rintro k x H hx hne ⟨g,rfl,h⟩
  exact ⟨g,rfl,by rw [h,step k x hx,if_neg (fun c => c.1 hne)]⟩
 ·rintro H ⟨g,rfl,h⟩
  exact .inl ⟨g,rfl,by rw [h,List.drop_length]; rfl⟩
 ·exact ⟨[],rfl,rfl⟩
 ·rcases hq with ⟨g,rfl,h⟩ | ⟨g,r,rfl,h⟩
  ·refine ⟨0,_,rfl,.inl ⟨rfl, ?_⟩⟩
   show blkK 0 _ .normal _ (some t.c :: some [.int .i64 e] :: some [.int .i64 0] :: some t.c :: none :: g)
   simp only [go_sem,h]
   all_goals skip
  ·refine ⟨-2,_,rfl,.inr (.inl ⟨rfl, ?_⟩)⟩
   show blkK 0 _ .ret _ (some t.c :: some [.int .i64 e] :: some [.int .i64 r] :: some t.c :: none :: g)
   simp only [go_sem,h]
   all_goals skip
theorem c_Enter (t : Tenant) (hl : t.ports.length <= 1073741824) (h : Head) : PCall Tryz.prog 25 [.agg t.c,.agg h.c] (.tup [.agg (enterH (portOf2 t (i64 (h.h0 - 10000))) h).1.c,.bool (enterH (portOf2 t (i64 (h.h0 - 10000))) h).2]):=by
 refine pB h25_k rfl ?_
 simp only [Tryz.f25,go_sem]
 repeat' (first
  | (refine pK (c_Port _ hl _) ?_; simp only [go_sem])
  | ((first | refine cS ?_ ?_ | refine gS ?_ ?_) <;> (intro hc; simp only [go_sem,hc])))
 all_goals first
  | rfl
  | (simp only [enterH,i64]; rfl)
  | grind [enterH,i64]
  | (simp only [enterH,i64]; grind)
  | (simp [enterH,i64, *]; done)
  | (simp_all [enterH,i64]; done)
  | skip
end Go.AI
namespace Go.AI
open Go.Proofs
set_option maxRecDepth 50000
end Go.AI
namespace Go.AI
theorem okAll_spec {α : Type} {p : α -> Bool} {q : α -> α -> Bool} {l : List α} (h : okAll p q l = true) : ∀ (k : Nat) (x : α),l[k]? = some x -> p x = true /\ ∀ (j : Nat) (y : α),j < k -> l[j]? = some y -> q y x = false:=by
 have key : ∀ (n i : Nat),l.length - i = n -> okGo p q l i (l.drop i) = true -> ∀ (k : Nat) (x : α),i <= k -> l[k]? = some x -> p x = true /\ ∀ (j : Nat) (y : α),j < k -> l[j]? = some y -> q y x = false:=by
  intro n
  induction n with
  | zero =>
   intro i hi _ k x hk hx
   have:=(List.getElem?_eq_some_iff.1 hx).1
   omega
  | succ n ih =>
   intro i hi ho k x hk hx
   have hlt : i < l.length:=by omega
   rw [List.drop_eq_getElem_cons hlt,okGo] at ho
   simp only [Bool.and_eq_true,Bool.not_eq_true'] at ho
   obtain ⟨⟨h1,h2⟩,h3⟩:=ho
   rcases Nat.eq_or_lt_of_le hk with rfl | hk
   ·rw [List.getElem?_eq_getElem hlt] at hx
    cases hx
    refine ⟨h1,fun j y hj hy => ?_⟩
    rw [List.any_eq_false] at h2
    have hm : y ∈ l.take i:=List.mem_of_getElem? (i:=j) (by rw [List.getElem?_take,if_pos hj]; exact hy)
    simpa using h2 y hm
   ·exact ih (i + 1) (by omega) h3 k x hk hx
 intro k x hx
 exact key l.length 0 (by omega) (by rw [List.drop_zero]; exact h) k x (Nat.zero_le _) hx
section
variable {s : Setup} {t : Tenant} {h : Head}
end
end Go.AI
