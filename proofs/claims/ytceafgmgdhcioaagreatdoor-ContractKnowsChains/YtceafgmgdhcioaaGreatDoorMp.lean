/- Contracts of the program's names and sizes. -/
import Derived.Test.YtceafgmgdhcioaaGreatDoorMg
import Derived.Test.YtceafgmgdhcioaaGreatDoorMj
import Derived.Test.YtceafgmgdhcioaaGreatDoorMf
import Derived.Sort.Walk0
set_option linter.unusedSimpArgs false
set_option linter.unusedVariables false
namespace Go.AI
open Go.Proofs
set_option maxRecDepth 50000
@[go_sem] theorem binK_slss {P : Program} {t : TypeId} {x y : ByteArray} {d : Tmp} {K : Kt} {e : Env} {H : Heap} : binK P .lss t (.str x) (.str y) d K e H = K ((d,.bool (Op.bytesLess x.toList y.toList)) :: e) H:=by rw [binK_str]; simp [abin]
@[go_sem] theorem evo_g0 {P : Program} {o : Option TypeId} {e : Env} : evo P o e (.global 0) = .cptr (words.map AV.str) 0:=rfl
theorem ACallK.ofP {P : Program} {f : FuncId} {vs : List AV} {d : Option Tmp} {K : Kt} {e : Env} {H : Heap} {v : AV} (h : PCall P f vs v) (hk : K (put d v e) H) : ACallK P f vs d K e H :=
 (h H).mono fun v' H' hr => by obtain ⟨rfl,rfl⟩:=hr; exact hk
def SCall (P : Program) (f : FuncId) (vs : List AV) (H : Heap) (v : AV) : Prop:=ACall P f vs H fun v' H' => v' = v /\ H' = H
theorem PCall.toS {P : Program} {f : FuncId} {vs : List AV} {H : Heap} {v : AV} (h : PCall P f vs v) : SCall P f vs H v:=h H
theorem RCall.toS {P : Program} {f : FuncId} {vs : List AV} {H H2 : Heap} {v : AV} (h : RCall P f vs H v) (hv : hview H2 = hview H) : SCall P f vs H2 v:=h H2 hv
theorem ACallK.ofS {P : Program} {f : FuncId} {vs : List AV} {d : Option Tmp} {K : Kt} {e : Env} {H : Heap} {v : AV} (h : SCall P f vs H v) (hk : K (put d v e) H) : ACallK P f vs d K e H :=
 h.mono fun v' H' hr => by obtain ⟨rfl,rfl⟩:=hr; exact hk
theorem aP {P : Program} {f : FuncId} {vs : List AV} {d : Option Tmp} {K : Kt} {e : Env} {H : Heap} {v : AV} (h : PCall P f vs v) (hk : K (put d v e) H) : ACallK P f vs d K e H:=ACallK.ofP h hk
theorem aS {P : Program} {f : FuncId} {vs : List AV} {d : Option Tmp} {K : Kt} {e : Env} {H : Heap} {v : AV} (h : SCall P f vs H v) (hk : K (put d v e) H) : ACallK P f vs d K e H:=ACallK.ofS h hk
def ltB (a b : ByteArray) : Bool:=Op.bytesLess a.toList b.toList
end Go.AI
namespace Go.AI
open Go.Proofs
set_option maxRecDepth 50000
@[go_sem] theorem words_pureL : pureL (words.map AV.str) = true:=by kernel_rfl
@[go_sem] theorem words_len2 : (words.map AV.str).length = 49:=rfl
@[go_sem] theorem binK_shr1 {P : Program} {t : TypeId} {x : Int} {d : Tmp} {K : Kt} {e : Env} {H : Heap} : binK P .shr t (.int .u64 x) (.int .u64 1) d K e H = K ((d,.int .u64 (x.fdiv 2)) :: e) H:=by
 rw [binK_int]; simp [abin,IntKind.bits]
end Go.AI
namespace Go.AI
open Go.Proofs
set_option maxRecDepth 50000
def idxGo {α : Type} (p : α -> Bool) : Nat -> List α -> Int
 | _,[] => -1
 | i,x :: l => if p x then (i : Int) else idxGo p (i + 1) l
def idxI {α : Type} (p : α -> Bool) (l : List α) : Int:=idxGo p 0 l
theorem idxGo_any {α : Type} (p : α -> Bool) : ∀ (l : List α) (i : Nat),decide (0 <= idxGo p i l) = l.any p
 | [],i => rfl
 | x :: l,i => by
  rw [idxGo,List.any_cons]
  cases h : p x with
  | true => simp
  | false => simp [idxGo_any p l (i + 1)]
@[go_sem] theorem getlast {α : Type} (l : List α) (x : α) : (l ++ [x])[l.length]? = some x:=by simp
end Go.AI
namespace Go.AI
open Go.Proofs
set_option maxRecDepth 50000
end Go.AI
namespace Go.AI
open Go.Proofs
set_option maxRecDepth 50000
end Go.AI
namespace Go.AI
open Go.Proofs
set_option maxRecDepth 50000
end Go.AI
namespace Go.AI
open Go.Proofs
set_option maxRecDepth 50000
@[go_sem] theorem lPred_one (o : Option Nat) (x : Pred) : AV.sl o [AV.agg (x.cf none)] = AV.sl o (lPred [x]):=by rw [lPred_eq]; rfl
@[go_sem] theorem lPred_two (o : Option Nat) (x y : Pred) : AV.sl o [AV.agg (x.cf none),AV.agg (y.cf none)] = AV.sl o (lPred [x,y]):=by rw [lPred_eq]; rfl
@[go_sem] theorem lPolicy_one (o : Option Nat) (x : Policy) : AV.sl o [AV.agg (x.cf none none)] = AV.sl o (lPolicy [x]):=by rw [lPolicy_eq]; rfl
@[go_sem] theorem lPolicy_two (o : Option Nat) (x y : Policy) : AV.sl o [AV.agg (x.cf none none),AV.agg (y.cf none none)] = AV.sl o (lPolicy [x,y]):=by rw [lPolicy_eq]; rfl
@[go_sem] theorem lStage_one (o : Option Nat) (x : Stage) : AV.sl o [AV.agg (x.cf none none none)] = AV.sl o (lStage [x]):=rfl
def bAt (n : Int) : Pred:=⟨3,portS,n,0,[]⟩
def bFalse : Pred:=⟨2,⟨#[]⟩,0,0,[]⟩
def bOr (x y : Pred) : Pred:=⟨8,⟨#[]⟩,0,0,[x,y]⟩
def bNot (x : Pred) : Pred:=⟨6,⟨#[]⟩,0,0,[x]⟩
def bFilter (x : Pred) : Policy:=⟨1,x,⟨#[]⟩,0,[]⟩
def bSet (s : ByteArray) (n : Int) : Policy:=⟨2,Pred.z,s,n,[]⟩
def bUnion (x y : Policy) : Policy:=⟨3,Pred.z,⟨#[]⟩,0,[x,y]⟩
def bSeq (x y : Policy) : Policy:=⟨4,Pred.z,⟨#[]⟩,0,[x,y]⟩
def bStar (x : Policy) : Policy:=⟨5,Pred.z,⟨#[]⟩,0,[x]⟩
def joinL {α : Type} (z : α) (two : α -> α -> α) : List α -> α
 | [] => z
 | x :: l => l.foldl two x
def bEither (l : List Pred) : Pred:=joinL bFalse bOr l
def bWired (t : Tenant) : Pred:=bEither (t.wires.map fun w => bAt w.src)
def bWire (w : Wire) : Policy:=bSeq (bFilter (bAt w.src)) (bSet portS w.dst)
def bWires (t : Tenant) : Policy:=joinL (bFilter bFalse) bUnion (t.wires.map bWire)
def bClosed (t : Tenant) (p : Policy) : Policy :=
 if t.wires = [] then p else bSeq (bSeq p (bStar (bSeq (bWires t) p))) (bFilter (bNot (bWired t)))
theorem q_at (n : Int) : PCall Tryz.prog 239 [.int .i64 n] (.agg (bAt n).c):=by
 refine pB h239_k rfl ?_
 simp only [Tryz.f239,go_sem]
 rfl
theorem q_Filter (x : Pred) : PCall Tryz.prog 167 [.agg x.c] (.agg (bFilter x).c):=by
 refine pB h167_k rfl ?_
 simp only [Tryz.f167,go_sem]
 rfl
theorem q_Seq (x y : Policy) : PCall Tryz.prog 165 [.agg x.c,.agg y.c] (.agg (bSeq x y).c):=by
 refine pB h165_k rfl ?_
 simp only [Tryz.f165,go_sem]
 rfl
theorem q_Union (x y : Policy) : PCall Tryz.prog 241 [.agg x.c,.agg y.c] (.agg (bUnion x y).c):=by
 refine pB h241_k rfl ?_
 simp only [Tryz.f241,go_sem]
 rfl
theorem q_Star (x : Policy) : PCall Tryz.prog 164 [.agg x.c] (.agg (bStar x).c):=by
 refine pB h164_k rfl ?_
 simp only [Tryz.f164,go_sem]
 rfl
theorem q_Put (s : ByteArray) (n : Int) : PCall Tryz.prog 240 [.str s,.int .i64 n] (.agg (bSet s n).c):=by
 refine pB h240_k rfl ?_
 simp only [Tryz.f240,go_sem]
 rfl
end Go.AI
namespace Go.AI
open Go.Proofs
set_option maxRecDepth 50000
end Go.AI
namespace Go.AI
open Go.Proofs
set_option maxRecDepth 50000
theorem q_either (l : List Pred) (hl : l.length <= 1073741824) : PCall Tryz.prog 242 [.sl none (lPred l)] (.agg (bEither l).c):=by
 refine pB h242_k rfl ?_
 simp only [Tryz.f242,go_sem]
 cases l with
 | nil =>
  have g0 : (((0 : Nat) : Int) == 0) = true:=rfl
  simp only [go_sem,g0]
  rfl
 | cons x r =>
  have g0 : (((r.length + 1 : Nat) : Int) == 0) = false:=by simp; omega
  have g2 : (0 : Int) < ((r.length + 1 : Nat) : Int):=by omega
  have hx : (x :: r)[0]? = some x:=rfl
  simp only [go_sem,g0,g2,lPred_get hx]
  repeat' (first
   | ((first | refine cS ?_ ?_ | refine gS ?_ ?_) <;> (intro hc; simp only [go_sem,hc,g0,g2,lPred_get hx])))
  refine awp_lst r (fun (o : Pred × Option Nat) l => l.foldl bOr o.1) (fun _ _ => True) (fun k o => [(0,.sl none (lPred (x :: r))),(2,.ptr 0 0),(3,.ptr 1 0),(4,.int .i64 ((k + 1 : Nat) : Int))]) (fun k o => [some (Pred.z.cf (some 5)),some (o.1.cf o.2)]) (x,none) (by simp at hl; omega) trivial rfl rfl ?_ ?_
  ·intro k o y ys hd hy _ hF h0 h1 hw
   have hy2 : (x :: r)[k + 1]? = some y:=by simpa using hy
   have h2 : (((k + 1 : Nat) : Int) < ((r.length + 1 : Nat) : Int)):=by omega
   have h3 : (0 : Int) <= ((k + 1 : Nat) : Int):=by omega
   have hw2:=w64s (k:=k + 1) (by simp at hl; omega)
   simp only [go_sem,h2,h3,decide_true,lPred_get hy2,Int.toNat_natCast,hw2]
   exact ⟨(bOr o.1 y,some 5),by rw [List.foldl_cons],rfl,rfl⟩
  ·intro o _ hF
   simp only [go_sem,Int.lt_irrefl,decide_false]
   rw [bEither,joinL,hF]; rfl
theorem q_Wired (t : Tenant) (hl : t.wires.length <= 1073741824) : PCall Tryz.prog 168 [.agg t.c] (.agg (bWired t).c):=by
 refine pB h168_k rfl ?_
 simp only [Tryz.f168,go_sem]
 refine awp_lst t.wires (fun o r => o ++ r.map fun w => bAt w.src) (fun k o => o.length = k) (fun k o => [(1,.ptr 0 0),(2,.ptr 1 0),(3,.sl (some 5) (lPred o)),(4,.int .i64 k)]) (fun k o => [some t.c,some (Pred.z.cf (some 5))]) [] (by omega) rfl rfl rfl ?_ ?_
 ·intro k o y ys hd hy hI hF h0 h1 hw
  have hk2:=drop_len hd
  simp only [go_sem,h0,h1,hw,lWire_get hy]
  repeat' (first
   | (refine pK (q_at _) ?_; simp only [go_sem,h0,h1,hw,lWire_get hy])
   | ((first | refine cS ?_ ?_ | refine gS ?_ ?_) <;> (intro hc; simp only [go_sem,hc,h0,h1,hw,lWire_get hy])))
  exact ⟨by omega,by omega,o ++ [bAt y.src],by simp,by simp [hI],rfl,rfl⟩
 ·intro o hI hF
  have hF : o = t.wires.map fun w => bAt w.src:=by simpa using hF.symm
  simp only [go_sem,Int.lt_irrefl,decide_false]
  repeat' (first
   | (refine pK (PCall.lend (q_either o (by omega))) ?_; simp only [go_sem])
   | ((first | refine cS ?_ ?_ | refine gS ?_ ?_) <;> (intro hc; simp only [go_sem,hc])))
  rw [hF]; rfl
theorem joinL_snoc {α : Type} {z : α} {two : α -> α -> α} (x : α) : ∀ {l : List α},l ≠ [] -> joinL z two (l ++ [x]) = two (joinL z two l) x
 | [],h => absurd rfl h
 | y :: l,_ => by simp [joinL]
theorem q_Wires (t : Tenant) (hl : t.wires.length <= 1073741824) : PCall Tryz.prog 166 [.agg t.c] (.agg (bWires t).c):=by
 refine pB h166_k rfl ?_
 simp only [Tryz.f166,go_sem]
 repeat' (first
  | (refine pK (PCall.lend (q_Filter bFalse)) ?_; simp only [go_sem])
  | ((first | refine cS ?_ ?_ | refine gS ?_ ?_) <;> (intro hc; simp only [go_sem,hc])))
 refine awp_lst t.wires (fun (_ : Policy) (_ : List Wire) => ()) (fun k o => o = joinL (bFilter bFalse) bUnion ((t.wires.take k).map bWire)) (fun k o => [(1,.ptr 0 0),(2,.ptr 1 0),(3,.ptr 2 0),(4,.int .i64 k)]) (fun k o => [some t.c,some (Policy.z.cf (some 5) (some 9)),some o.c]) (bFilter bFalse) (by omega) rfl rfl rfl ?_ ?_
 ·intro k o y ys hd hy hI hF h0 h1 hw
  have hk2:=drop_len hd
  have ht : t.wires.take (k + 1) = t.wires.take k ++ [y]:=by rw [List.take_add_one,hy]; rfl
  simp only [go_sem,h0,h1,hw,lWire_get hy]
  repeat' (first
   | ((first | refine pK (q_at _) ?_ | refine pK (q_Filter _) ?_ | refine pK (q_Put _ _) ?_ | refine pK (q_Seq _ _) ?_); simp only [go_sem,h0,h1,hw,lWire_get hy])
   | ((first | refine cS ?_ ?_ | refine gS ?_ ?_) <;> (intro hc; simp only [go_sem,hc,h0,h1,hw,lWire_get hy])))
  ·have hk : k = 0:=by simp at hc; omega
   subst hk
   refine ⟨bWire y, ?_,rfl,rfl⟩
   rw [ht]; rfl
  ·have hk : k ≠ 0:=by simp at hc; omega
   refine PCallK.intro (q_Union _ _) ?_
   simp only [go_sem,hw]
   refine ⟨bUnion o (bWire y), ?_,rfl,rfl⟩
   rw [ht,List.map_append,hI]
   exact (joinL_snoc _ (by simp; constructor; omega; intro h; rw [h] at hk2; simp at hk2)).symm
 ·intro o hI hF
  simp only [go_sem,Int.lt_irrefl,decide_false]
  rw [bWires,hI,List.take_length]
end Go.AI
namespace Go.AI
open Go.Proofs
set_option maxRecDepth 50000
theorem len_zero {α : Type} {l : List α} : ((l.length : Int) == 0) = true ↔ l = []:=by
 cases l <;> simp; omega
theorem q_Closed (t : Tenant) (hl : t.wires.length <= 1073741824) (p : Policy) : PCall Tryz.prog 122 [.agg t.c,.agg p.c] (.agg (bClosed t p).c):=by
 refine pB h122_k rfl ?_
 simp only [Tryz.f122,go_sem]
 repeat' (first
  | ((first | refine pK (q_Wires t hl) ?_ | refine pK (q_Wired t hl) ?_ | refine pK (q_Seq _ _) ?_ | refine pK (q_Star _) ?_ | refine pK (PCall.lend (q_Filter (bNot (bWired t)))) ?_); simp only [go_sem])
  | ((first | refine cS ?_ ?_ | refine gS ?_ ?_) <;> (intro hc; simp only [go_sem,hc])))
 ·rw [bClosed,if_pos (len_zero.1 hc)]
 ·rw [bClosed,if_neg (fun h => by rw [len_zero.2 h] at hc; cases hc)]
def wholeGo (t : Tenant) : List Stage -> List Stage -> List Stage × Int
 | o,[] => (o,0)
 | o,x :: r => if ckO (bClosed t x.policy) = 2 then ([],2) else wholeGo t (o ++ [{ x with policy:=bClosed t x.policy }]) r
def bWhole (t : Tenant) : List Stage × Int:=wholeGo t [] t.program
end Go.AI
namespace Go.AI
open Go.Proofs
set_option maxRecDepth 50000
theorem bk_p2 (x y : Pred) : bulkL (lPred [x,y]) = bulkL x.c + bulkL y.c:=by rw [lPred_eq]; simp [bulkL,AV.bulk]
theorem bk_p1 (x : Pred) : bulkL (lPred [x]) = bulkL x.c:=by rw [lPred_eq]; simp [bulkL,AV.bulk]
theorem bk_p0 : bulkL (lPred []) = 0:=by rw [lPred_eq]; rfl
theorem bk_o2 (x y : Policy) : bulkL (lPolicy [x,y]) = bulkL x.c + bulkL y.c:=by rw [lPolicy_eq]; simp [bulkL,AV.bulk]
theorem bk_o1 (x : Policy) : bulkL (lPolicy [x]) = bulkL x.c:=by rw [lPolicy_eq]; simp [bulkL,AV.bulk]
theorem bk_o0 : bulkL (lPolicy []) = 0:=by rw [lPolicy_eq]; rfl
theorem bk_at (n : Int) : bulkL (bAt n).c = 9:=by rw [bulk_pred]; simp only [bAt,bk_p0]; rfl
theorem bk_false : bulkL bFalse.c = 5:=by rw [bulk_pred]; simp only [bFalse,bk_p0]; rfl
theorem bk_or (x y : Pred) : bulkL (bOr x y).c = 5 + bulkL x.c + bulkL y.c:=by rw [bulk_pred]; simp only [bOr,bk_p2]; show 0 + 5 + _ = _; omega
theorem bk_not (x : Pred) : bulkL (bNot x).c = 5 + bulkL x.c:=by rw [bulk_pred]; simp only [bNot,bk_p1]; show 0 + 5 + _ = _; omega
theorem bk_zp : bulkL Pred.z.c = 5:=by rw [bulk_pred]; show _ + 5 + bulkL (lPred []) = 5; rw [bk_p0]; rfl
theorem bk_filter (x : Pred) : bulkL (bFilter x).c = bulkL x.c + 4:=by rw [bulk_policy]; simp only [bFilter,bk_o0]; show _ + 0 + 4 + 0 = _; omega
theorem bk_set (n : Int) : bulkL (bSet portS n).c = 13:=by rw [bulk_policy]; simp only [bSet,bk_o0,bk_zp]; rfl
theorem bk_union (x y : Policy) : bulkL (bUnion x y).c = 9 + bulkL x.c + bulkL y.c:=by rw [bulk_policy]; simp only [bUnion,bk_o2,bk_zp]; show 5 + 0 + 4 + _ = _; omega
theorem bk_seq (x y : Policy) : bulkL (bSeq x y).c = 9 + bulkL x.c + bulkL y.c:=by rw [bulk_policy]; simp only [bSeq,bk_o2,bk_zp]; show 5 + 0 + 4 + _ = _; omega
theorem bk_star (x : Policy) : bulkL (bStar x).c = 9 + bulkL x.c:=by rw [bulk_policy]; simp only [bStar,bk_o1,bk_zp]; show 5 + 0 + 4 + _ = _; omega
theorem bk_ors : ∀ (l : List Pred) (x : Pred) (B : Nat),(∀ y ∈ l,bulkL y.c <= B) -> bulkL (l.foldl bOr x).c <= bulkL x.c + l.length * (B + 5)
 | [],x,B,_ => by simp
 | y :: l,x,B,h => by
  rw [List.foldl_cons]
  have h1:=bk_ors l (bOr x y) B fun z hz => h z (by simp [hz])
  have h2:=h y (by simp)
  rw [bk_or] at h1
  rw [List.length_cons,Nat.succ_mul]
  omega
theorem bk_unions : ∀ (l : List Policy) (x : Policy) (B : Nat),(∀ y ∈ l,bulkL y.c <= B) -> bulkL (l.foldl bUnion x).c <= bulkL x.c + l.length * (B + 9)
 | [],x,B,_ => by simp
 | y :: l,x,B,h => by
  rw [List.foldl_cons]
  have h1:=bk_unions l (bUnion x y) B fun z hz => h z (by simp [hz])
  have h2:=h y (by simp)
  rw [bk_union] at h1
  rw [List.length_cons,Nat.succ_mul]
  omega
theorem bk_either (l : List Pred) (h : ∀ y ∈ l,bulkL y.c <= 9) : bulkL (bEither l).c <= 9 + l.length * 14:=by
 unfold bEither
 cases l with
 | nil => rw [joinL,bk_false]; omega
 | cons x l =>
  have h1:=bk_ors l x 9 fun y hy => h y (by simp [hy])
  have h2:=h x (by simp)
  rw [joinL,List.length_cons]
  omega
theorem bk_wired (t : Tenant) : bulkL (bWired t).c <= 9 + t.wires.length * 14:=by
 have:=bk_either (t.wires.map fun w => bAt w.src) (fun y hy => by obtain ⟨w,_,rfl⟩:=List.mem_map.1 hy; rw [bk_at]; omega)
 rwa [List.length_map] at this
theorem bk_wires (t : Tenant) : bulkL (bWires t).c <= 35 + t.wires.length * 44:=by
 unfold bWires
 have hw : ∀ y ∈ t.wires.map bWire,bulkL y.c <= 35:=fun y hy => by
  obtain ⟨w,_,rfl⟩:=List.mem_map.1 hy
  rw [bWire,bk_seq,bk_filter,bk_at,bk_set]; omega
 have hl : (t.wires.map bWire).length = t.wires.length:=List.length_map _
 rw [<- hl]
 generalize t.wires.map bWire = l at hw
 cases l with
 | nil => rw [joinL,bk_filter,bk_false]; omega
 | cons x l =>
  have h1:=bk_unions l x 35 fun y hy => hw y (by simp [hy])
  have h2:=hw x (by simp)
  rw [joinL,List.length_cons]
  omega
theorem bk_closed {t : Tenant} {p : Policy} (hp : bulkL p.c <= 1048576) (hw : t.wires.length <= 1048576) : bulkL (bClosed t p).c <= 1073741824:=by
 unfold bClosed
 split
 ·omega
 ·have h1:=bk_wired t
  have h2:=bk_wires t
  rw [bk_seq,bk_seq,bk_star,bk_seq,bk_filter,bk_not]
  omega
end Go.AI
namespace Go.AI
open Go.Proofs
set_option maxRecDepth 50000
theorem c_eqO : ∀ x y : Policy,PCall Tryz.prog 110 [.agg x.c,.agg y.c] (.bool (eqO x y)):=by
 refine Policy.ind _ fun x ih => fun y => ?_
 refine PCall.fit h110_k.c fun hf => ?_
 have hl:=Policy.fit_args (fit1 hf)
 refine pC h110_k rfl ?_
 simp only [Tryz.f110,go_sem,toList_beq]
 repeat' (first
  | (refine pK (c_eqP _ _) ?_; simp only [go_sem,toList_beq])
  | ((first | refine cS ?_ ?_ | refine gS ?_ ?_) <;> (intro hc; simp only [go_sem,hc,toList_beq])))
 all_goals first
  | rfl
  | (simp only [eqO_eq]; rfl)
  | grind [eqO_eq]
  | (simp only [eqO_eq]; grind)
  | (simp [eqO_eq, *]; done)
  | (simp_all [eqO_eq]; done)
  | skip
 have hll : x.args.length = y.args.length:=by grind
 refine awp_all x.args (fun r => eqOs r (y.args.drop (x.args.length - r.length))) (fun k => [(2,.ptr 0 0),(3,.ptr 1 0),(6,.int .i64 k)]) hl rfl ?_ ?_
 ·intro k z zs hd hx hF h0 h1 hw
  have hk:=drop_len hd
  obtain ⟨w,hy⟩ : ∃ w,y.args[k]? = some w:=⟨_,List.getElem?_eq_getElem (by omega)⟩
  have e1 : x.args.length - (z :: zs).length = k:=by simp; omega
  have e2 : x.args.length - zs.length = k + 1:=by omega
  have e3 : y.args.drop k = w :: y.args.drop (k + 1):=by rw [List.drop_eq_getElem_cons (by omega)]; congr 1; grind
  have h2 : (k : Int) < (y.args.length : Int):=by omega
  rw [e1,e3,Nat.sub_self,List.drop_zero,eqOs_cons] at hF
  have hm:=List.mem_of_getElem? hx
  simp only [go_sem,h0,h1,h2,lPolicy_get hx,lPolicy_get hy,e1,e2,e3]
  repeat' (first
   | (refine pK (ih _ hm _) ?_; simp only [go_sem,h0,h1,h2,hw,lPolicy_get hx,lPolicy_get hy,e1,e2,e3])
   | ((first | refine cS ?_ ?_ | refine gS ?_ ?_) <;> (intro hc; simp only [go_sem,hc,h0,h1,h2,hw,lPolicy_get hx,lPolicy_get hy,e1,e2,e3])))
  all_goals first
   | rfl
   | (simp only [eqO_eq,eqOs_cons,hF]; rfl)
   | grind [eqO_eq,eqOs_cons]
   | (simp only [eqO_eq,eqOs_cons,hF]; grind)
   | (simp [eqO_eq,eqOs_cons,hF, *]; done)
   | (simp_all [eqO_eq,eqOs_cons,hF]; done)
   | skip
 ·intro hF hlt
  simp only [go_sem,hlt,decide_false]
  all_goals first
   | rfl
   | (simp only [eqO_eq,eqOs_nil]; rfl)
   | grind [eqO_eq,eqOs_nil]
   | (simp only [eqO_eq,eqOs_nil]; grind)
   | (simp [eqO_eq,eqOs_nil, *]; done)
   | (simp_all [eqO_eq,eqOs_nil]; done)
   | skip
theorem q_Whole (t : Tenant) (hl : t.wires.length <= 1073741824) (hp : t.program.length <= 1073741824) (hb : ∀ x ∈ t.program,bulkL (bClosed t x.policy).c <= 1073741824) :
  PCall Tryz.prog 80 [.agg t.c] (.tup [.sl none (lStage (bWhole t).1),.int .i64 (bWhole t).2]):=by
 refine pB h80_k rfl ?_
 simp only [Tryz.f80,go_sem]
 refine awp_lst t.program (fun o r => wholeGo t o r) (fun k o => o.length = k) (fun k o => [(1,.ptr 0 0),(4,.sl (some 15) (lStage o)),(5,.int .i64 k)]) (fun k o => [some t.c]) [] (by omega) rfl rfl rfl ?_ ?_
 ·intro k o y ys hd hy hI hF h0 h1 hw
  have hk2:=drop_len hd
  simp only [go_sem,h0,h1,hw,lStage_get hy]
  repeat' (first
   | ((first | refine pK (q_Closed t hl _) ?_ | refine pK (c_ckO _ (hb y (List.mem_of_getElem? hy))) ?_); simp only [go_sem,h0,h1,hw,lStage_get hy])
   | ((first | refine cS ?_ ?_ | refine gS ?_ ?_) <;> (intro hc; simp only [go_sem,hc,h0,h1,hw,lStage_get hy])))
  ·have h2 : wholeGo t [] t.program = ([],2):=by rw [hF,wholeGo,if_pos (by simpa using hc)]
   rw [bWhole,h2]; rfl
  ·refine ⟨by omega,by omega,o ++ [{ y with policy:=bClosed t y.policy }], ?_,by simp [hI],rfl,rfl⟩
   rw [wholeGo,if_neg (by simpa using hc)]
 ·intro o hI hF
  simp only [go_sem,Int.lt_irrefl,decide_false]
  rw [bWhole,hF]; rfl
end Go.AI
namespace Go.AI
open Go.Proofs
set_option maxRecDepth 50000
end Go.AI
namespace Go.AI
open Go.Proofs
set_option maxRecDepth 50000
section
variable {P : Program} {K : Kt} {e : Env} {H : Heap} {d : Tmp} {t kt et : TypeId} {o : Nat} {α : Type}
end
@[go_sem] theorem bnd_mapr (o n : Nat) : (AV.mapr o).bnd n = decide (o < n):=rfl
end Go.AI
namespace Go.AI
open Go.Proofs
set_option maxRecDepth 50000
end Go.AI
namespace Go.AI
open Go.Proofs
set_option maxRecDepth 50000
end Go.AI
namespace Go.AI
open Go.Proofs
set_option maxRecDepth 50000
@[go_sem] theorem borrow_it (o : Nat) : (AV.it o).borrow = .it o:=rfl
end Go.AI
namespace Go.AI
open Go.Proofs
set_option maxRecDepth 50000
end Go.AI
namespace Go.AI
open Go.Proofs
set_option maxRecDepth 50000
@[go_sem] theorem pset_end (H : Heap) (x y : Option (List AV)) : (H ++ [x]).set H.length y = H ++ [y]:=by simp
def Iv (Pre : Nat -> Heap -> Prop) (n : Nat) (g : Heap) (k : Nat) (H : Heap) : Prop:=∃ pre g',H = pre ++ (g ++ g') /\ pre.length = n /\ Pre k pre
theorem Iv.grow {Pre : Nat -> Heap -> Prop} {n k : Nat} {g H : Heap} (h : Iv Pre n g k H) (x : Heap) : Iv Pre n g k (H ++ x):=by
 obtain ⟨pre,g',rfl,h1,h2⟩:=h
 exact ⟨pre,g' ++ x,by simp,h1,h2⟩
theorem Iv.at {Pre : Nat -> Heap -> Prop} {n k i : Nat} {g H : Heap} (h : Iv Pre n g k H) {c : Option (List AV)} (hi : g[i]? = some c) : H[n + i]? = some c:=by
 obtain ⟨pre,g',rfl,h1,h2⟩:=h
 have hlt:=(List.getElem?_eq_some_iff.1 hi).1
 rw [List.getElem?_append_right (by omega),h1,Nat.add_sub_cancel_left,List.getElem?_append_left hlt,hi]
theorem Iv.atG {Pre : Nat -> Heap -> Prop} {n k i : Nat} {g H x : Heap} (h : Iv Pre n g k H) {c : Option (List AV)} (hi : g[i]? = some c) : (H ++ x)[n + i]? = some c:=(h.grow x).at hi
theorem Iv.of {Pre : Nat -> Heap -> Prop} {n k : Nat} {g g2 H : Heap} (h : Iv Pre n (g ++ g2) k H) : Iv Pre n g k H:=by
 obtain ⟨pre,g',rfl,h1,h2⟩:=h
 exact ⟨pre,g2 ++ g',by simp,h1,h2⟩
end Go.AI
namespace Go.AI
open Go.Proofs
set_option maxRecDepth 50000
@[go_sem] theorem binK_shlK {P : Program} {t : TypeId} {k k' : IntKind} {x y : Int} {d : Tmp} {K : Kt} {e : Env} {H : Heap} : binK P .shl t (.int k x) (.int k' y) d K e H = (0 <= y /\ K ((d,.int k (k.wrap (x * 2 ^ (min y.toNat k.bits)))) :: e) H):=by
 rw [binK_int]; simp [abin]
end Go.AI
namespace Go.AI
open Go.Proofs
set_option maxRecDepth 50000
@[go_sem] theorem two_snd {α : Type} (G : List α) (a b : α) : (G ++ [a,b])[(G ++ [a]).length]? = some b:=by
 rw [List.length_append,List.getElem?_append_right (by simp)]; simp
@[go_sem] theorem two_fst {α : Type} (G : List α) (a b : α) : (G ++ [a,b])[G.length]? = some a:=by
 rw [List.getElem?_append_right (Nat.le_refl _)]; simp
@[go_sem] theorem two_set {α : Type} (G : List α) (a b z : α) : (G ++ [a,b]).set (G ++ [a]).length z = G ++ [a,z]:=by
 rw [List.length_append,List.set_append_right _ _ (by simp)]; simp
end Go.AI
namespace Go.AI
open Go.Proofs
set_option maxRecDepth 50000
end Go.AI
namespace Go.AI
open Go.Proofs
set_option maxRecDepth 50000
end Go.AI
namespace Go.AI
open Go.Proofs
set_option maxRecDepth 50000
end Go.AI
