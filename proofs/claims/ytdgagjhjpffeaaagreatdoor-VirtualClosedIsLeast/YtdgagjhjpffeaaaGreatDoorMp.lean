/- Contracts of the program's names and sizes. -/
import Derived.Test.YtdgagjhjpffeaaaGreatDoorMg
import Derived.Test.YtdgagjhjpffeaaaGreatDoorMj
import Derived.Test.YtdgagjhjpffeaaaGreatDoorMf
import Derived.Sort.Walk0
set_option linter.unusedSimpArgs false
set_option linter.unusedVariables false
namespace Go.AI
open Go.Proofs
set_option maxRecDepth 50000
@[go_sem] theorem binK_slss {P : Program} {t : TypeId} {x y : ByteArray} {d : Tmp} {K : Kt} {e : Env} {H : Heap} : binK P .lss t (.str x) (.str y) d K e H = K ((d,.bool (Op.bytesLess x.toList y.toList)) :: e) H:=by rw [binK_str]; simp [abin]
@[go_sem] theorem evo_g0 {P : Program} {o : Option TypeId} {e : Env} : evo P o e (.global 0) = .cptr (words.map AV.str) 0:=rfl
theorem ACallK.ofP {P : Program} {f : FuncId} {vs : List AV} {d : Option Tmp} {K : Kt} {e : Env} {H : Heap} {v : AV} (h : PCall P f vs v) (hk : K (put d v e) H) : ACallK P f vs d K e H :=
 (h H).mono fun v' H' hr => by obtain ⟨rfl,rfl⟩:=hr; exact hk
def SCall (P : Program) (f : FuncId) (vs : List AV) (H : Heap) (v : AV) : Prop:=ACall P f vs H fun v' H' => v' = v /\ H' = H
theorem PCall.toS {P : Program} {f : FuncId} {vs : List AV} {H : Heap} {v : AV} (h : PCall P f vs v) : SCall P f vs H v:=h H
theorem RCall.toS {P : Program} {f : FuncId} {vs : List AV} {H H2 : Heap} {v : AV} (h : RCall P f vs H v) (hv : hview H2 = hview H) : SCall P f vs H2 v:=h H2 hv
theorem ACallK.ofS {P : Program} {f : FuncId} {vs : List AV} {d : Option Tmp} {K : Kt} {e : Env} {H : Heap} {v : AV} (h : SCall P f vs H v) (hk : K (put d v e) H) : ACallK P f vs d K e H :=
 h.mono fun v' H' hr => by obtain ⟨rfl,rfl⟩:=hr; exact hk
theorem aP {P : Program} {f : FuncId} {vs : List AV} {d : Option Tmp} {K : Kt} {e : Env} {H : Heap} {v : AV} (h : PCall P f vs v) (hk : K (put d v e) H) : ACallK P f vs d K e H:=ACallK.ofP h hk
theorem aS {P : Program} {f : FuncId} {vs : List AV} {d : Option Tmp} {K : Kt} {e : Env} {H : Heap} {v : AV} (h : SCall P f vs H v) (hk : K (put d v e) H) : ACallK P f vs d K e H:=ACallK.ofS h hk
end Go.AI
namespace Go.AI
open Go.Proofs
set_option maxRecDepth 50000
@[go_sem] theorem words_pureL : pureL (words.map AV.str) = true:=by kernel_rfl
@[go_sem] theorem words_len2 : (words.map AV.str).length = 49:=rfl
@[go_sem] theorem binK_shr1 {P : Program} {t : TypeId} {x : Int} {d : Tmp} {K : Kt} {e : Env} {H : Heap} : binK P .shr t (.int .u64 x) (.int .u64 1) d K e H = K ((d,.int .u64 (x.fdiv 2)) :: e) H:=by
 rw [binK_int]; simp [abin,IntKind.bits]
end Go.AI
namespace Go.AI
open Go.Proofs
set_option maxRecDepth 50000
def idxGo {α : Type} (p : α -> Bool) : Nat -> List α -> Int
 | _,[] => -1
 | i,x :: l => if p x then (i : Int) else idxGo p (i + 1) l
def idxI {α : Type} (p : α -> Bool) (l : List α) : Int:=idxGo p 0 l
@[go_sem] theorem getlast {α : Type} (l : List α) (x : α) : (l ++ [x])[l.length]? = some x:=by simp
end Go.AI
namespace Go.AI
open Go.Proofs
set_option maxRecDepth 50000
end Go.AI
namespace Go.AI
open Go.Proofs
set_option maxRecDepth 50000
end Go.AI
namespace Go.AI
open Go.Proofs
set_option maxRecDepth 50000
end Go.AI
namespace Go.AI
open Go.Proofs
set_option maxRecDepth 50000
@[go_sem] theorem lPred_one (o : Option Nat) (x : Pred) : AV.sl o [AV.agg (x.cf none)] = AV.sl o (lPred [x]):=by rw [lPred_eq]; rfl
@[go_sem] theorem lPred_two (o : Option Nat) (x y : Pred) : AV.sl o [AV.agg (x.cf none),AV.agg (y.cf none)] = AV.sl o (lPred [x,y]):=by rw [lPred_eq]; rfl
@[go_sem] theorem lPolicy_one (o : Option Nat) (x : Policy) : AV.sl o [AV.agg (x.cf none none)] = AV.sl o (lPolicy [x]):=by rw [lPolicy_eq]; rfl
@[go_sem] theorem lPolicy_two (o : Option Nat) (x y : Policy) : AV.sl o [AV.agg (x.cf none none),AV.agg (y.cf none none)] = AV.sl o (lPolicy [x,y]):=by rw [lPolicy_eq]; rfl
@[go_sem] theorem lStage_one (o : Option Nat) (x : Stage) : AV.sl o [AV.agg (x.cf none none none)] = AV.sl o (lStage [x]):=rfl
def bAt (n : Int) : Pred:=⟨3,portS,n,0,[]⟩
def bFalse : Pred:=⟨2,⟨#[]⟩,0,0,[]⟩
def bOr (x y : Pred) : Pred:=⟨8,⟨#[]⟩,0,0,[x,y]⟩
def bNot (x : Pred) : Pred:=⟨6,⟨#[]⟩,0,0,[x]⟩
def bFilter (x : Pred) : Policy:=⟨1,x,⟨#[]⟩,0,[]⟩
def bSet (s : ByteArray) (n : Int) : Policy:=⟨2,Pred.z,s,n,[]⟩
def bUnion (x y : Policy) : Policy:=⟨3,Pred.z,⟨#[]⟩,0,[x,y]⟩
def bSeq (x y : Policy) : Policy:=⟨4,Pred.z,⟨#[]⟩,0,[x,y]⟩
def bStar (x : Policy) : Policy:=⟨5,Pred.z,⟨#[]⟩,0,[x]⟩
def joinL {α : Type} (z : α) (two : α -> α -> α) : List α -> α
 | [] => z
 | x :: l => l.foldl two x
def bEither (l : List Pred) : Pred:=joinL bFalse bOr l
def bWired (t : Tenant) : Pred:=bEither (t.wires.map fun w => bAt w.src)
def bWire (w : Wire) : Policy:=bSeq (bFilter (bAt w.src)) (bSet portS w.dst)
def bWires (t : Tenant) : Policy:=joinL (bFilter bFalse) bUnion (t.wires.map bWire)
def bClosed (t : Tenant) (p : Policy) : Policy :=
 if t.wires = [] then p else bSeq (bSeq p (bStar (bSeq (bWires t) p))) (bFilter (bNot (bWired t)))
theorem p_at (n : Int) : PCall Tryz.prog 83 [.int .i64 n] (.agg (bAt n).c):=by
 refine pB h83_k rfl ?_
 simp only [Tryz.f83,go_sem]
 rfl
theorem p_filter (x : Pred) : PCall Tryz.prog 75 [.agg x.c] (.agg (bFilter x).c):=by
 refine pB h75_k rfl ?_
 simp only [Tryz.f75,go_sem]
 rfl
theorem p_seq (x y : Policy) : PCall Tryz.prog 74 [.agg x.c,.agg y.c] (.agg (bSeq x y).c):=by
 refine pB h74_k rfl ?_
 simp only [Tryz.f74,go_sem]
 rfl
theorem p_either1 (x y : Pred) : PCall Tryz.prog 157 [.agg x.c,.agg y.c] (.agg (bOr x y).c):=by
 refine pB h157_k rfl ?_
 simp only [Tryz.f157,go_sem]
 rfl
theorem p_Wires1 (x y : Policy) : PCall Tryz.prog 85 [.agg x.c,.agg y.c] (.agg (bUnion x y).c):=by
 refine pB h85_k rfl ?_
 simp only [Tryz.f85,go_sem]
 rfl
end Go.AI
namespace Go.AI
open Go.Proofs
set_option maxRecDepth 50000
theorem p_joinPred (l : List Pred) (hl : l.length <= 1073741824) (z : Pred) : PCall Tryz.prog 156 [.sl none (lPred l),.agg z.c,.fn (.func 157) [] []] (.agg (joinL z bOr l).c):=by
 refine pB h156_k rfl ?_
 simp only [Tryz.f156,go_sem]
 cases l with
 | nil =>
  have g0 : (((0 : Nat) : Int) == 0) = true:=rfl
  simp only [go_sem,g0]
  rfl
 | cons x r =>
  have g0 : (((r.length + 1 : Nat) : Int) == 0) = false:=by simp; omega
  have g1 : (1 : Int) <= ((r.length + 1 : Nat) : Int):=by omega
  have g2 : (0 : Int) < ((r.length + 1 : Nat) : Int):=by omega
  have hx : (x :: r)[0]? = some x:=rfl
  have hd : List.drop 1 (x :: r) = r:=rfl
  simp only [go_sem,g0,g1,g2,lPred_get hx,Int.toNat_one,hd,Int.toNat_natCast,List.take_length]
  repeat' (first
   | ((first | refine cS ?_ ?_ | refine gS ?_ ?_) <;> (intro hc; simp only [go_sem,hc,g0,g1,g2,lPred_get hx,hd])))
  refine awp_lst r (fun o l => l.foldl bOr o) (fun _ _ => True) (fun k o => [(2,.fn (.func 157) [] []),(6,.ptr 1 0),(7,.ptr 2 0),(18,.sl none (lPred r)),(19,.int .i64 r.length),(20,.int .i64 k)]) (fun k o => [some z.c,some (Pred.z.cf (some 5)),some o.c]) x (by simp at hl; omega) trivial rfl rfl ?_ ?_
  ·intro k o y ys hd hx _ hF h0 h1 hw
   simp only [go_sem,h0,h1,lPred_get hx]
   repeat' (first
    | (refine aP (p_either1 _ _) ?_; simp only [go_sem,h0,h1,hw,lPred_get hx])
    | ((first | refine cS ?_ ?_ | refine gS ?_ ?_) <;> (intro hc; simp only [go_sem,hc,h0,h1,hw,lPred_get hx])))
   exact ⟨_,by rw [List.foldl_cons],rfl,rfl⟩
  ·intro o _ hF
   simp only [go_sem,Int.lt_irrefl,decide_false]
   rw [joinL,hF]; rfl
theorem p_joinPolicy (l : List Policy) (hl : l.length <= 1073741824) (z : Policy) : PCall Tryz.prog 84 [.sl none (lPolicy l),.agg z.c,.fn (.func 85) [] []] (.agg (joinL z bUnion l).c):=by
 refine pB h84_k rfl ?_
 simp only [Tryz.f84,go_sem]
 cases l with
 | nil =>
  have g0 : (((0 : Nat) : Int) == 0) = true:=rfl
  simp only [go_sem,g0]
  rfl
 | cons x r =>
  have g0 : (((r.length + 1 : Nat) : Int) == 0) = false:=by simp; omega
  have g1 : (1 : Int) <= ((r.length + 1 : Nat) : Int):=by omega
  have g2 : (0 : Int) < ((r.length + 1 : Nat) : Int):=by omega
  have hx : (x :: r)[0]? = some x:=rfl
  have hd : List.drop 1 (x :: r) = r:=rfl
  simp only [go_sem,g0,g1,g2,lPolicy_get hx,Int.toNat_one,hd,Int.toNat_natCast,List.take_length]
  repeat' (first
   | ((first | refine cS ?_ ?_ | refine gS ?_ ?_) <;> (intro hc; simp only [go_sem,hc,g0,g1,g2,lPolicy_get hx,hd])))
  refine awp_lst r (fun o l => l.foldl bUnion o) (fun _ _ => True) (fun k o => [(2,.fn (.func 85) [] []),(6,.ptr 1 0),(7,.ptr 2 0),(18,.sl none (lPolicy r)),(19,.int .i64 r.length),(20,.int .i64 k)]) (fun k o => [some z.c,some (Policy.z.cf (some 5) (some 9)),some o.c]) x (by simp at hl; omega) trivial rfl rfl ?_ ?_
  ·intro k o y ys hd hx _ hF h0 h1 hw
   simp only [go_sem,h0,h1,lPolicy_get hx]
   repeat' (first
    | (refine aP (p_Wires1 _ _) ?_; simp only [go_sem,h0,h1,hw,lPolicy_get hx])
    | ((first | refine cS ?_ ?_ | refine gS ?_ ?_) <;> (intro hc; simp only [go_sem,hc,h0,h1,hw,lPolicy_get hx])))
   exact ⟨_,by rw [List.foldl_cons],rfl,rfl⟩
  ·intro o _ hF
   simp only [go_sem,Int.lt_irrefl,decide_false]
   rw [joinL,hF]; rfl
end Go.AI
namespace Go.AI
open Go.Proofs
set_option maxRecDepth 50000
theorem p_either (l : List Int) (hl : l.length <= 1073741824) : PCall Tryz.prog 80 [.sl none (lI64 l)] (.agg (bEither (l.map bAt)).c):=by
 refine pB h80_k rfl ?_
 simp only [Tryz.f80,go_sem]
 refine awp_lst l (fun o r => o ++ r.map bAt) (fun k o => o.length = k) (fun k o => [(2,.ptr 0 0),(3,.sl (some 5) (lPred o)),(6,.sl none (lI64 l)),(7,.int .i64 l.length),(8,.int .i64 k)]) (fun k o => [some (Pred.z.cf (some 5))]) [] (by omega) rfl rfl rfl ?_ ?_
 ·intro k o y ys hd hy hI hF h0 h1 hw
  have hk2:=drop_len hd
  simp only [go_sem,h0,h1,lI64_get hy]
  repeat' (first
   | (refine pK (p_at _) ?_; simp only [go_sem,h0,h1,hw,lI64_get hy])
   | ((first | refine cS ?_ ?_ | refine gS ?_ ?_) <;> (intro hc; simp only [go_sem,hc,h0,h1,hw,lI64_get hy])))
  exact ⟨by omega,by omega,o ++ [bAt y],by simp,by simp [hI],rfl,rfl⟩
 ·intro o hI hF
  have hF : o = l.map bAt:=by simpa using hF.symm
  simp only [go_sem,Int.lt_irrefl,decide_false]
  repeat' (first
   | (refine pK (PCall.lend (p_joinPred o (by omega) bFalse)) ?_; simp only [go_sem])
   | ((first | refine cS ?_ ?_ | refine gS ?_ ?_) <;> (intro hc; simp only [go_sem,hc])))
  rw [hF]; rfl
theorem p_Wired (t : Tenant) (hl : t.wires.length <= 1073741824) : PCall Tryz.prog 30 [.agg t.c] (.agg (bWired t).c):=by
 refine pB h30_k rfl ?_
 simp only [Tryz.f30,go_sem]
 refine awp_lst t.wires (fun o r => o ++ r.map (·.src)) (fun k o => o.length = k) (fun k o => [(2,.ptr 1 0),(3,.sl (some 1) (lI64 o)),(7,.sl none (lWire t.wires)),(8,.int .i64 t.wires.length),(9,.int .i64 k)]) (fun k o => [some t.c,some (Pred.z.cf (some 5))]) [] (by omega) rfl rfl rfl ?_ ?_
 ·intro k o y ys hd hy hI hF h0 h1 hw
  have hk2:=drop_len hd
  simp only [go_sem,h0,h1,hw,lWire_get hy]
  repeat' (first
   | ((first | refine cS ?_ ?_ | refine gS ?_ ?_) <;> (intro hc; simp only [go_sem,hc,h0,h1,hw,lWire_get hy])))
  exact ⟨by omega,by omega,o ++ [y.src],by simp,by simp [hI],rfl,rfl⟩
 ·intro o hI hF
  have hF : o = t.wires.map (·.src):=by simpa using hF.symm
  simp only [go_sem,Int.lt_irrefl,decide_false]
  repeat' (first
   | (refine pK (PCall.lend (p_either o (by omega))) ?_; simp only [go_sem])
   | ((first | refine cS ?_ ?_ | refine gS ?_ ?_) <;> (intro hc; simp only [go_sem,hc])))
  rw [hF,List.map_map]; rfl
theorem p_Wires (t : Tenant) (hl : t.wires.length <= 1073741824) : PCall Tryz.prog 34 [.agg t.c] (.agg (bWires t).c):=by
 refine pB h34_k rfl ?_
 simp only [Tryz.f34,go_sem]
 refine awp_lst t.wires (fun o r => o ++ r.map bWire) (fun k o => o.length = k) (fun k o => [(2,.ptr 1 0),(3,.sl (some 9) (lPolicy o)),(7,.sl none (lWire t.wires)),(8,.int .i64 t.wires.length),(9,.int .i64 k)]) (fun k o => [some t.c,some (Policy.z.cf (some 5) (some 9))]) [] (by omega) rfl rfl rfl ?_ ?_
 ·intro k o y ys hd hy hI hF h0 h1 hw
  have hk2:=drop_len hd
  simp only [go_sem,h0,h1,hw,lWire_get hy]
  repeat' (first
   | ((first | refine pK (p_at _) ?_ | refine pK (p_filter _) ?_ | refine pK (PCall.lend (p_seq (bFilter (bAt y.src)) (bSet portS y.dst))) ?_); simp only [go_sem,h0,h1,hw,lWire_get hy])
   | ((first | refine cS ?_ ?_ | refine gS ?_ ?_) <;> (intro hc; simp only [go_sem,hc,h0,h1,hw,lWire_get hy])))
  exact ⟨by omega,by omega,o ++ [bWire y],by simp,by simp [hI],rfl,rfl⟩
 ·intro o hI hF
  have hF : o = t.wires.map bWire:=by simpa using hF.symm
  simp only [go_sem,Int.lt_irrefl,decide_false]
  repeat' (first
   | ((first | refine pK (PCall.lend (p_filter bFalse)) ?_ | refine pK (PCall.lend (p_joinPolicy o (by omega) (bFilter bFalse))) ?_); simp only [go_sem])
   | ((first | refine cS ?_ ?_ | refine gS ?_ ?_) <;> (intro hc; simp only [go_sem,hc])))
  rw [hF]; rfl
end Go.AI
namespace Go.AI
open Go.Proofs
set_option maxRecDepth 50000
theorem len_zero {α : Type} {l : List α} : ((l.length : Int) == 0) = true ↔ l = []:=by
 cases l <;> simp; omega
theorem p_Closed (t : Tenant) (hl : t.wires.length <= 1073741824) (p : Policy) : PCall Tryz.prog 25 [.agg t.c,.agg p.c] (.agg (bClosed t p).c):=by
 refine pB h25_k rfl ?_
 simp only [Tryz.f25,go_sem]
 repeat' (first
  | ((first | refine pK (p_Wires t hl) ?_ | refine pK (p_Wired t hl) ?_ | refine pK (PCall.lend (p_seq (bSeq p (bStar (bSeq (bWires t) p))) (bFilter (bNot (bWired t))))) ?_ | refine pK (PCall.lend (p_seq p (bStar (bSeq (bWires t) p)))) ?_ | refine pK (p_seq (bWires t) p) ?_ | refine pK (PCall.lend (p_filter (bNot (bWired t)))) ?_); simp only [go_sem])
  | ((first | refine cS ?_ ?_ | refine gS ?_ ?_) <;> (intro hc; simp only [go_sem,hc])))
 ·rw [bClosed,if_pos (len_zero.1 hc)]
 ·rw [bClosed,if_neg (fun h => by rw [len_zero.2 h] at hc; cases hc)]
end Go.AI
namespace Go.AI
open Go.Proofs
set_option maxRecDepth 50000
theorem bk_p2 (x y : Pred) : bulkL (lPred [x,y]) = bulkL x.c + bulkL y.c:=by rw [lPred_eq]; simp [bulkL,AV.bulk]
theorem bk_p1 (x : Pred) : bulkL (lPred [x]) = bulkL x.c:=by rw [lPred_eq]; simp [bulkL,AV.bulk]
theorem bk_p0 : bulkL (lPred []) = 0:=by rw [lPred_eq]; rfl
theorem bk_o2 (x y : Policy) : bulkL (lPolicy [x,y]) = bulkL x.c + bulkL y.c:=by rw [lPolicy_eq]; simp [bulkL,AV.bulk]
theorem bk_o1 (x : Policy) : bulkL (lPolicy [x]) = bulkL x.c:=by rw [lPolicy_eq]; simp [bulkL,AV.bulk]
theorem bk_o0 : bulkL (lPolicy []) = 0:=by rw [lPolicy_eq]; rfl
theorem bk_at (n : Int) : bulkL (bAt n).c = 9:=by rw [bulk_pred]; simp only [bAt,bk_p0]; rfl
theorem bk_false : bulkL bFalse.c = 5:=by rw [bulk_pred]; simp only [bFalse,bk_p0]; rfl
theorem bk_or (x y : Pred) : bulkL (bOr x y).c = 5 + bulkL x.c + bulkL y.c:=by rw [bulk_pred]; simp only [bOr,bk_p2]; show 0 + 5 + _ = _; omega
theorem bk_not (x : Pred) : bulkL (bNot x).c = 5 + bulkL x.c:=by rw [bulk_pred]; simp only [bNot,bk_p1]; show 0 + 5 + _ = _; omega
theorem bk_zp : bulkL Pred.z.c = 5:=by rw [bulk_pred]; show _ + 5 + bulkL (lPred []) = 5; rw [bk_p0]; rfl
theorem bk_filter (x : Pred) : bulkL (bFilter x).c = bulkL x.c + 4:=by rw [bulk_policy]; simp only [bFilter,bk_o0]; show _ + 0 + 4 + 0 = _; omega
theorem bk_set (n : Int) : bulkL (bSet portS n).c = 13:=by rw [bulk_policy]; simp only [bSet,bk_o0,bk_zp]; rfl
theorem bk_union (x y : Policy) : bulkL (bUnion x y).c = 9 + bulkL x.c + bulkL y.c:=by rw [bulk_policy]; simp only [bUnion,bk_o2,bk_zp]; show 5 + 0 + 4 + _ = _; omega
theorem bk_seq (x y : Policy) : bulkL (bSeq x y).c = 9 + bulkL x.c + bulkL y.c:=by rw [bulk_policy]; simp only [bSeq,bk_o2,bk_zp]; show 5 + 0 + 4 + _ = _; omega
theorem bk_star (x : Policy) : bulkL (bStar x).c = 9 + bulkL x.c:=by rw [bulk_policy]; simp only [bStar,bk_o1,bk_zp]; show 5 + 0 + 4 + _ = _; omega
theorem bk_ors : ∀ (l : List Pred) (x : Pred) (B : Nat),(∀ y ∈ l,bulkL y.c <= B) -> bulkL (l.foldl bOr x).c <= bulkL x.c + l.length * (B + 5)
 | [],x,B,_ => by simp
 | y :: l,x,B,h => by
  rw [List.foldl_cons]
  have h1:=bk_ors l (bOr x y) B fun z hz => h z (by simp [hz])
  have h2:=h y (by simp)
  rw [bk_or] at h1
  rw [List.length_cons,Nat.succ_mul]
  omega
theorem bk_unions : ∀ (l : List Policy) (x : Policy) (B : Nat),(∀ y ∈ l,bulkL y.c <= B) -> bulkL (l.foldl bUnion x).c <= bulkL x.c + l.length * (B + 9)
 | [],x,B,_ => by simp
 | y :: l,x,B,h => by
  rw [List.foldl_cons]
  have h1:=bk_unions l (bUnion x y) B fun z hz => h z (by simp [hz])
  have h2:=h y (by simp)
  rw [bk_union] at h1
  rw [List.length_cons,Nat.succ_mul]
  omega
theorem bk_either (l : List Pred) (h : ∀ y ∈ l,bulkL y.c <= 9) : bulkL (bEither l).c <= 9 + l.length * 14:=by
 unfold bEither
 cases l with
 | nil => rw [joinL,bk_false]; omega
 | cons x l =>
  have h1:=bk_ors l x 9 fun y hy => h y (by simp [hy])
  have h2:=h x (by simp)
  rw [joinL,List.length_cons]
  omega
theorem bk_wired (t : Tenant) : bulkL (bWired t).c <= 9 + t.wires.length * 14:=by
 have:=bk_either (t.wires.map fun w => bAt w.src) (fun y hy => by obtain ⟨w,_,rfl⟩:=List.mem_map.1 hy; rw [bk_at]; omega)
 rwa [List.length_map] at this
theorem bk_wires (t : Tenant) : bulkL (bWires t).c <= 35 + t.wires.length * 44:=by
 unfold bWires
 have hw : ∀ y ∈ t.wires.map bWire,bulkL y.c <= 35:=fun y hy => by
  obtain ⟨w,_,rfl⟩:=List.mem_map.1 hy
  rw [bWire,bk_seq,bk_filter,bk_at,bk_set]; omega
 have hl : (t.wires.map bWire).length = t.wires.length:=List.length_map _
 rw [<- hl]
 generalize t.wires.map bWire = l at hw
 cases l with
 | nil => rw [joinL,bk_filter,bk_false]; omega
 | cons x l =>
  have h1:=bk_unions l x 35 fun y hy => hw y (by simp [hy])
  have h2:=hw x (by simp)
  rw [joinL,List.length_cons]
  omega
theorem bk_closed {t : Tenant} {p : Policy} (hp : bulkL p.c <= 1048576) (hw : t.wires.length <= 1048576) : bulkL (bClosed t p).c <= 1073741824:=by
 unfold bClosed
 split
 ·omega
 ·have h1:=bk_wired t
  have h2:=bk_wires t
  rw [bk_seq,bk_seq,bk_star,bk_seq,bk_filter,bk_not]
  omega
theorem eqP_refl : ∀ x : Pred,eqP x x = true:=by
 refine Pred.ind _ fun x ih => ?_
 rw [eqP_eq]
 have : ∀ l : List Pred,(∀ y ∈ l,eqP y y = true) -> eqPs l l = true:=by
  intro l
  induction l with
  | nil => intro _; rw [eqPs_nil]
  | cons y l ihl => intro h; rw [eqPs_cons,h y (by simp),ihl fun z hz => h z (by simp [hz])]; rfl
 rw [this x.args ih]; simp
end Go.AI
namespace Go.AI
open Go.Proofs
set_option maxRecDepth 50000
end Go.AI
namespace Go.AI
open Go.Proofs
set_option maxRecDepth 50000
end Go.AI
namespace Go.AI
open Go.Proofs
set_option maxRecDepth 50000
section
variable {P : Program} {K : Kt} {e : Env} {H : Heap} {d : Tmp} {t kt et : TypeId} {o : Nat} {α : Type}
end
end Go.AI
namespace Go.AI
open Go.Proofs
set_option maxRecDepth 50000
theorem p_IndexFld {H : Heap} (l : List Fld) (hl : l.length <= 9223372036854775807) (g : FuncId) (fi ca : List AV) (p : Fld -> Bool)
  (h : ∀ x ∈ l,SCall Tryz.prog g (fi.map AV.borrow ++ (.agg x.c :: ca.map AV.borrow)) H (.bool (p x))) :
  SCall Tryz.prog 228 [.sl none (lFld l),.fn (.func g) fi ca] H (.int .i64 (idxI p l)):=by
 unfold SCall
 refine aC h228_k rfl ?_
 simp only [Tryz.f228,go_sem]
 refine awp_all l (fun r => idxGo p (l.length - r.length) r) (fun k => [(0,.sl none (lFld l)),(1,.fn (.func g) fi ca),(7,.int .i64 l.length),(8,.int .i64 k)]) hl rfl ?_ ?_
 ·intro k x xs hd hx hF h0 h1 hw
  have hk2:=drop_len hd
  have e1 : l.length - (xs.length + 1) = k:=by omega
  have e2 : l.length - xs.length = k + 1:=by omega
  simp only [List.length_cons,e1,Nat.sub_self] at hF
  simp only [go_sem,h0,h1,lFld_get hx,e1,e2]
  repeat' (first
   | (refine aS (h x (List.mem_of_getElem? hx)) ?_; simp only [go_sem,h0,h1,hw,lFld_get hx,e1,e2])
   | ((first | refine cS ?_ ?_ | refine gS ?_ ?_) <;> (intro hc; simp only [go_sem,hc,h0,h1,hw,lFld_get hx,e1,e2])))
  ·rw [idxI,hF,idxGo,if_pos hc]
  ·rw [idxGo,if_neg (by rw [hc]; decide)]
 ·intro hF hlt
  simp only [go_sem,hlt,decide_false]
  rw [Nat.sub_self] at hF
  rw [idxI,hF]; rfl
end Go.AI
namespace Go.AI
open Go.Proofs
set_option maxRecDepth 50000
end Go.AI
namespace Go.AI
open Go.Proofs
set_option maxRecDepth 50000
end Go.AI
namespace Go.AI
open Go.Proofs
set_option maxRecDepth 50000
end Go.AI
namespace Go.AI
open Go.Proofs
set_option maxRecDepth 50000
@[go_sem] theorem pset_end (H : Heap) (x y : Option (List AV)) : (H ++ [x]).set H.length y = H ++ [y]:=by simp
def Iv (Pre : Nat -> Heap -> Prop) (n : Nat) (g : Heap) (k : Nat) (H : Heap) : Prop:=∃ pre g',H = pre ++ (g ++ g') /\ pre.length = n /\ Pre k pre
theorem Iv.grow {Pre : Nat -> Heap -> Prop} {n k : Nat} {g H : Heap} (h : Iv Pre n g k H) (x : Heap) : Iv Pre n g k (H ++ x):=by
 obtain ⟨pre,g',rfl,h1,h2⟩:=h
 exact ⟨pre,g' ++ x,by simp,h1,h2⟩
theorem Iv.at {Pre : Nat -> Heap -> Prop} {n k i : Nat} {g H : Heap} (h : Iv Pre n g k H) {c : Option (List AV)} (hi : g[i]? = some c) : H[n + i]? = some c:=by
 obtain ⟨pre,g',rfl,h1,h2⟩:=h
 have hlt:=(List.getElem?_eq_some_iff.1 hi).1
 rw [List.getElem?_append_right (by omega),h1,Nat.add_sub_cancel_left,List.getElem?_append_left hlt,hi]
theorem Iv.of {Pre : Nat -> Heap -> Prop} {n k : Nat} {g g2 H : Heap} (h : Iv Pre n (g ++ g2) k H) : Iv Pre n g k H:=by
 obtain ⟨pre,g',rfl,h1,h2⟩:=h
 exact ⟨pre,g2 ++ g',by simp,h1,h2⟩
end Go.AI
namespace Go.AI
open Go.Proofs
set_option maxRecDepth 50000
theorem p_port : PCall Tryz.prog 227 [] (.agg fldPort.c):=by
 have h : PCall Tryz.prog 227 [] (.agg fldPort.c):=PCall.run evOk0 100 rfl (by kernel_rfl) (by kernel_rfl)
 exact h
theorem p_Find1 {H : Heap} (f : Fld) (s : ByteArray) (o : Nat) (ho : H[o]? = some (some [.str s])) : SCall Tryz.prog 229 [.agg f.c,.ptr o 0] H (.bool (decide (f.name = s))):=by
 refine ACall.drop rfl ?_
 refine aC h229_k rfl ?_
 have ho' : ∀ z,(H ++ z)[o]? = some (some [.str s]):=fun z => by
  have:=(List.getElem?_eq_some_iff.1 ho).1
  rw [List.getElem?_append_left this]; exact ho
 simp only [Tryz.f229,go_sem,ho',toList_beq]
theorem idx_find {α : Type} (p : α -> Bool) : ∀ (l : List α) (i : Nat),match l.find? p with
  | some x => ∃ k,idxGo p i l = (i + k : Nat) /\ l[k]? = some x
  | none => idxGo p i l = -1
 | [],i => rfl
 | y :: l,i => by
  rw [List.find?_cons,idxGo]
  cases h : p y with
  | true => exact ⟨0,by simp,rfl⟩
  | false =>
   have:=idx_find p l (i + 1)
   cases hf : l.find? p with
   | none => rw [hf] at this; simpa using this
   | some x =>
    rw [hf] at this
    obtain ⟨k,h1,h2⟩:=this
    exact ⟨k + 1,by simp only [Bool.false_eq_true,if_false]; rw [h1]; congr 1; omega,by simpa using h2⟩
theorem p_Find (l : List Fld) (hl : l.length <= 9223372036854775807) (s : ByteArray) : PCall Tryz.prog 160 [.sl none (lFld l),.str s] (.tup [.agg (findF l s).1.c,.bool (findF l s).2]):=by
 have hi:=idx_find (fun f : Fld => decide (f.name = s)) l 0
 have hport : (fldPort.name : ByteArray) = portS:=rfl
 have hidx:=p_IndexFld (H:=[some [.str s],some Fld.z.c]) l hl 229 [] [.ptr 0 0] (fun f => decide (f.name = s)) (fun x _ => p_Find1 x s 0 rfl)
 refine pB h160_k rfl ?_
 cases hf : l.find? (fun f : Fld => decide (f.name = s)) with
 | none =>
  rw [hf] at hi
  have hi : idxI (fun f : Fld => decide (f.name = s)) l = -1:=hi
  rw [hi] at hidx
  simp only [Tryz.f160,go_sem,toList_beq]
  repeat' (first
   | ((first | refine pK (p_port) ?_ | refine aS (hidx) ?_); simp only [go_sem,toList_beq])
   | ((first | refine cS ?_ ?_ | refine gS ?_ ?_) <;> (intro hc; simp only [go_sem,hc,toList_beq])))
  ·have h5 : s = portS:=by rw [<- hport]; exact of_decide_eq_true hc
   rw [findF,if_pos h5]
  ·have h5 : ¬ s = portS:=by rw [<- hport]; exact of_decide_eq_false hc
   rw [findF,if_neg h5,hf]
 | some x =>
  rw [hf] at hi
  obtain ⟨k,hk,hx⟩:=hi
  have hk : idxI (fun f : Fld => decide (f.name = s)) l = ((0 + k : Nat) : Int):=hk
  rw [hk,Nat.zero_add] at hidx
  have g1 : ¬ ((k : Int) < 0):=by omega
  have g2 : (0 : Int) <= (k : Int):=by omega
  simp only [Tryz.f160,go_sem,toList_beq]
  repeat' (first
   | ((first | refine pK (p_port) ?_ | refine aS (hidx) ?_); simp only [go_sem,toList_beq,g1,g2,lFld_get hx,decide_false])
   | ((first | refine cS ?_ ?_ | refine gS ?_ ?_) <;> (intro hc; simp only [go_sem,hc,toList_beq,g1,g2,lFld_get hx,decide_false])))
  ·have h5 : s = portS:=by rw [<- hport]; exact of_decide_eq_true hc
   rw [findF,if_pos h5]
  ·have h5 : ¬ s = portS:=by rw [<- hport]; exact of_decide_eq_false hc
   rw [findF,if_neg h5,hf]
@[go_sem] theorem binK_shlK {P : Program} {t : TypeId} {k k' : IntKind} {x y : Int} {d : Tmp} {K : Kt} {e : Env} {H : Heap} : binK P .shl t (.int k x) (.int k' y) d K e H = (0 <= y /\ K ((d,.int k (k.wrap (x * 2 ^ (min y.toNat k.bits)))) :: e) H):=by
 rw [binK_int]; simp [abin]
theorem max_small : ∀ n : Nat,n < 17 -> IntKind.i64.wrap (IntKind.i64.wrap (1 * 2 ^ (min n IntKind.i64.bits)) - 1) = i64 (powW n - 1):=by
 decide
theorem p_Max (f : Fld) (h0 : 0 <= f.width) (h1 : f.width <= 16) : PCall Tryz.prog 161 [.agg f.c] (.int .i64 (maxF f)):=by
 have hm:=max_small f.width.toNat (by omega)
 refine pC h161_k rfl ?_
 simp only [Tryz.f161,go_sem,h0]
 rw [maxF,<- hm]; rfl
end Go.AI
namespace Go.AI
open Go.Proofs
set_option maxRecDepth 50000
end Go.AI
namespace Go.AI
open Go.Proofs
set_option maxRecDepth 50000
end Go.AI
namespace Go.AI
open Go.Proofs
set_option maxRecDepth 50000
end Go.AI
namespace Go.AI
open Go.Proofs
set_option maxRecDepth 50000
end Go.AI
