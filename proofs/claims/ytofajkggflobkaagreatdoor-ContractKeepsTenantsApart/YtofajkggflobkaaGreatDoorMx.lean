/- What the specification of layer 19 checks, in plain Lean. -/
import Derived.Test.YtofajkggflobkaaGreatDoorMg
import Derived.Test.YtofajkggflobkaaGreatDoorMp
import Derived.Test.YtofajkggflobkaaGreatDoorMf
import Derived.Test.YtofajkggflobkaaGreatDoorMy
import Derived.Test.YtofajkggflobkaaGreatDoorMz
namespace Go.AI
section
variable {P : Program} {t : TypeId} {x y : ByteArray} {d : Tmp} {K : Kt} {e : Env} {H : Heap}
@[go_sem] theorem binK_sgeq : binK P .geq t (.str x) (.str y) d K e H = K ((d,.bool !(Op.bytesLess x.toList y.toList)) :: e) H:=by rw [binK_str]; simp [abin]
@[go_sem] theorem binK_sgtr : binK P .gtr t (.str x) (.str y) d K e H = K ((d,.bool !(Op.bytesLess x.toList y.toList || x.toList == y.toList)) :: e) H:=by rw [binK_str]; simp [abin]
end
def few19 (s : Setup) : Bool :=
 fewN s.network 20 40 20 && (decide ((s.fields.length : Int) <= 20) && (decide ((s.tenants.length : Int) <= 8) && (decide ((s.contracts.length : Int) <= 12) && (s.tenants.all fewT && s.contracts.all fun c => fewP c.pred))))
def tenI (s : Setup) (nm : ByteArray) : Int:=idxI (fun t : Tenant => decide (t.name = nm)) s.tenants
def tenAt (s : Setup) (k : Int) : Tenant:=(s.tenants[k.toNat]?).getD Tenant.z
theorem idxGo_lt {α : Type} (p : α -> Bool) : ∀ (l : List α) (i : Nat),idxGo p i l = -1 \/ ∃ j x,l[j]? = some x /\ p x = true /\ idxGo p i l = ((i + j : Nat) : Int) /\ ∀ m y,m < j -> l[m]? = some y -> p y = false
 | [],i => .inl rfl
 | x :: l,i => by
  rw [idxGo]
  cases h : p x with
  | true => exact .inr ⟨0,x,rfl,h,by simp,fun m y hm => by omega⟩
  | false =>
   rcases idxGo_lt p l (i + 1) with h1 | ⟨j,y,h1,h2,h3,h4⟩
   ·exact .inl (by simpa using h1)
   ·refine .inr ⟨j + 1,y,h1,h2,by rw [if_neg (by simp),h3]; congr 1; omega,fun m z hm hz => ?_⟩
    cases m with
    | zero => simp at hz; subst hz; exact h
    | succ m => exact h4 m z (by omega) (by simpa using hz)
theorem idxI_cases {α : Type} (p : α -> Bool) (l : List α) : (idxI p l = -1 /\ ∀ y ∈ l,p y = false) \/ ∃ (j : Nat) (x : α),j < l.length /\ l[j]? = some x /\ p x = true /\ idxI p l = (j : Int) /\ ∀ (m : Nat) (y : α),m < j -> l[m]? = some y -> p y = false:=by
 rcases idxGo_lt p l 0 with h | ⟨j,x,h1,h2,h3,h4⟩
 ·refine .inl ⟨h,fun y hy => ?_⟩
  have h2:=idxGo_any p l 0
  rw [h] at h2
  have h3 : l.any p = false:=by rw [<- h2]; rfl
  rw [List.any_eq_false] at h3
  simpa using h3 y hy
 ·exact .inr ⟨j,x,(List.getElem?_eq_some_iff.1 h1).1,h1,h2,by unfold idxI; rw [h3]; simp,h4⟩
def clash19 (s : Setup) (k : Nat) (t : Tenant) : Bool:=t.ports.any fun p => (s.tenants.take k).any fun u => decide (0 <= p.edge) && decide (0 <= portOf u p.edge)
def prevB (s : Setup) (k : Nat) (t : Tenant) : Bool:=decide (0 < k) && !ltB (tenAt s ((k : Int) - 1)).name t.name
def tenE (s : Setup) (k : Nat) (t : Tenant) : Int :=
 if ck18 s t ≠ 0 then ck18 s t else if (bWhole t).2 ≠ 0 then (bWhole t).2 else if prevB s k t = true then 4 else if clash19 s k t = true then 10 else 0
def tensGo (s : Setup) : Nat -> List Tenant -> Option (Int × Int)
 | _,[] => none
 | k,t :: r => if tenE s k t ≠ 0 then some ((k : Int),tenE s k t) else tensGo s (k + 1) r
def outB (t : Tenant) (n : Int) : Bool:=decide (0 <= n) && (decide (n < (t.ports.length : Int)) && decide (0 <= edgeAt t n))
def boxAt (s : Setup) (n : Int) : Bool:=((s.network.nodes[n.toNat]?).map (·.box)).getD false
def viaB (s : Setup) (c : Contract) : Bool :=
 decide (-1 <= c.via) && (decide (c.via < (s.network.nodes.length : Int)) && ((decide (c.via < 0) || boxAt s c.via) && (decide (0 <= c.capacity) && (decide (c.capacity <= 1048576) && (decide (0 <= c.price) && decide (c.price <= 1000))))))
def conE (s : Setup) (c : Contract) : Int :=
 if tenI s c.src < 0 \/ tenI s c.dst < 0 then 9
 else if tenI s c.src = tenI s c.dst \/ outB (tenAt s (tenI s c.src)) c.fromPort = false \/ outB (tenAt s (tenI s c.dst)) c.toPort = false then 1
 else if ckTP s.fields c.pred ≠ 0 then ckTP s.fields c.pred
 else if viaB s c = false then 1 else 0
def consGo (s : Setup) : Nat -> List Contract -> Option (Int × Int)
 | _,[] => none
 | k,c :: r => if conE s c ≠ 0 then some ((k : Int),conE s c) else consGo s (k + 1) r
def rchC (s : Setup) (nm : ByteArray) : List Contract -> List Bool × List Int -> List Bool × List Int
 | [],x => x
 | c :: r,x => rchC s nm r (if c.src = nm /\ (x.1[(tenI s c.dst).toNat]?).getD true = false then (x.1.set (tenI s c.dst).toNat true,x.2 ++ [imax (tenI s c.dst) 0]) else x)
def rchGo (s : Setup) : Nat -> Nat -> List Bool × List Int -> List Bool
 | 0,_,x => x.1
 | f + 1,i,x => match x.2[i]? with
  | none => x.1
  | some a => rchGo s f (i + 1) (rchC s (tenAt s a).name s.contracts x)
def rch (s : Setup) (k : Int) : List Bool:=rchGo s (s.tenants.length + 2) 0 (List.replicate s.tenants.length false,[k])
def loopsGo (s : Setup) : Nat -> List Tenant -> Option (Int × Int)
 | _,[] => none
 | k,_ :: r => if ((rch s k)[k]?).getD true = true then some (0,21) else loopsGo s (k + 1) r
def ck19 (s : Setup) : Int × Int :=
 if ckNet s.network ≠ 0 then (0,ckNet s.network) else if ckF s.fields ≠ 0 then (0,ckF s.fields)
 else if 64 < s.tenants.length \/ 100 < s.contracts.length then (0,2)
 else match tensGo s 0 s.tenants with
  | some x => x
  | none => match consGo s 0 s.contracts with
   | some x => x
   | none => (loopsGo s 0 s.tenants).getD (0,0)
def right19 (s : Setup) : Bool:=few19 s && (ck19 s).2 == 0
end Go.AI
namespace Go.AI
open Go.Proofs
set_option maxRecDepth 50000
theorem p_IndexContract {H : Heap} (l : List Contract) (hl : l.length <= 9223372036854775807) (g : FuncId) (fi ca : List AV) (p : Contract -> Bool)
  (h : ∀ x ∈ l,SCall Tryz.prog g (fi.map AV.borrow ++ (.agg x.c :: ca.map AV.borrow)) H (.bool (p x))) :
  SCall Tryz.prog 56 [.sl none (lContract l),.fn (.func g) fi ca] H (.int .i64 (idxI p l)):=by
 unfold SCall
 refine aC h56_k rfl ?_
 simp only [Tryz.f56,go_sem]
 refine awp_all l (fun r => idxGo p (l.length - r.length) r) (fun k => [(0,.sl none (lContract l)),(1,.fn (.func g) fi ca),(7,.int .i64 l.length),(8,.int .i64 k)]) hl rfl ?_ ?_
 ·intro k x xs hd hx hF h0 h1 hw
  have hk2:=drop_len hd
  have e1 : l.length - (xs.length + 1) = k:=by omega
  have e2 : l.length - xs.length = k + 1:=by omega
  simp only [List.length_cons,e1,Nat.sub_self] at hF
  simp only [go_sem,h0,h1,lContract_get hx,e1,e2]
  repeat' (first
   | (refine aS (h x (List.mem_of_getElem? hx)) ?_; simp only [go_sem,h0,h1,hw,lContract_get hx,e1,e2])
   | ((first | refine cS ?_ ?_ | refine gS ?_ ?_) <;> (intro hc; simp only [go_sem,hc,h0,h1,hw,lContract_get hx,e1,e2])))
  ·rw [idxI,hF,idxGo,if_pos hc]
  ·rw [idxGo,if_neg (by rw [hc]; decide)]
 ·intro hF hlt
  simp only [go_sem,hlt,decide_false]
  rw [Nat.sub_self] at hF
  rw [idxI,hF]; rfl
theorem p_IndexTenant {H : Heap} (l : List Tenant) (hl : l.length <= 9223372036854775807) (g : FuncId) (fi ca : List AV) (p : Tenant -> Bool)
  (h : ∀ x ∈ l,SCall Tryz.prog g (fi.map AV.borrow ++ (.agg x.c :: ca.map AV.borrow)) H (.bool (p x))) :
  SCall Tryz.prog 59 [.sl none (lTenant l),.fn (.func g) fi ca] H (.int .i64 (idxI p l)):=by
 unfold SCall
 refine aC h59_k rfl ?_
 simp only [Tryz.f59,go_sem]
 refine awp_all l (fun r => idxGo p (l.length - r.length) r) (fun k => [(0,.sl none (lTenant l)),(1,.fn (.func g) fi ca),(7,.int .i64 l.length),(8,.int .i64 k)]) hl rfl ?_ ?_
 ·intro k x xs hd hx hF h0 h1 hw
  have hk2:=drop_len hd
  have e1 : l.length - (xs.length + 1) = k:=by omega
  have e2 : l.length - xs.length = k + 1:=by omega
  simp only [List.length_cons,e1,Nat.sub_self] at hF
  simp only [go_sem,h0,h1,lTenant_get hx,e1,e2]
  repeat' (first
   | (refine aS (h x (List.mem_of_getElem? hx)) ?_; simp only [go_sem,h0,h1,hw,lTenant_get hx,e1,e2])
   | ((first | refine cS ?_ ?_ | refine gS ?_ ?_) <;> (intro hc; simp only [go_sem,hc,h0,h1,hw,lTenant_get hx,e1,e2])))
  ·rw [idxI,hF,idxGo,if_pos hc]
  ·rw [idxGo,if_neg (by rw [hc]; decide)]
 ·intro hF hlt
  simp only [go_sem,hlt,decide_false]
  rw [Nat.sub_self] at hF
  rw [idxI,hF]; rfl
end Go.AI
namespace Go.AI
open Go.Proofs
set_option maxRecDepth 50000
theorem c_few19 (s : Setup) : PCall Tryz.prog 39 [.agg s.c] (.bool (few19 s)):=by
 refine PCall.fit h39_k.c fun hf => ?_
 have hl1:=Setup.fit_tenants (fit1 hf)
 have hl2:=Setup.fit_contracts (fit1 hf)
 refine pC h39_k rfl ?_
 simp only [Tryz.f39,go_sem]
 repeat' (first
  | (refine pK (c_fewN _ _ _ _) ?_; simp only [go_sem])
  | ((first | refine cS ?_ ?_ | refine gS ?_ ?_) <;> (intro hc; simp only [go_sem,hc])))
 all_goals first
  | rfl
  | (simp only [few19]; rfl)
  | grind [few19]
  | (simp only [few19]; grind)
  | (simp [few19, *]; done)
  | (simp_all [few19]; done)
  | skip
 all_goals
  refine awp_all s.tenants (fun r => r.all fewT) (fun k => [(1,.ptr 0 0),(4,.int .i64 k)]) hl1 rfl ?_ ?_
  ·intro k y ys hd hx hF h0 h1 hw
   simp only [go_sem,h0,h1,lTenant_get hx]
   repeat' (first
    | (refine pK (c_fewT _) ?_; simp only [go_sem,h0,h1,hw,lTenant_get hx])
    | ((first | refine cS ?_ ?_ | refine gS ?_ ?_) <;> (intro hc; simp only [go_sem,hc,h0,h1,hw,lTenant_get hx])))
   all_goals first
    | rfl
    | (simp only [few19,List.all_cons,List.all_nil]; rfl)
    | grind [few19]
    | (simp only [few19,List.all_cons,List.all_nil]; grind)
    | (simp [few19,List.all_cons,List.all_nil, *]; done)
    | (simp_all [few19,List.all_cons,List.all_nil]; done)
    | skip
  ·intro hF hlt
   simp only [go_sem,hlt,decide_false]
   refine awp_all s.contracts (fun r => r.all fun x => fewP x.pred) (fun k => [(1,.ptr 0 0),(6,.int .i64 k)]) hl2 rfl ?_ ?_
   ·intro k y ys hd hx hF h0 h1 hw
    simp only [go_sem,h0,h1,lContract_get hx]
    repeat' (first
     | (refine pK (c_fewP _) ?_; simp only [go_sem,h0,h1,hw,lContract_get hx])
     | ((first | refine cS ?_ ?_ | refine gS ?_ ?_) <;> (intro hc; simp only [go_sem,hc,h0,h1,hw,lContract_get hx])))
    all_goals first
     | rfl
     | (simp only [few19,List.all_cons,List.all_nil]; rfl)
     | grind [few19]
     | (simp only [few19,List.all_cons,List.all_nil]; grind)
     | (simp [few19,List.all_cons,List.all_nil, *]; done)
     | (simp_all [few19,List.all_cons,List.all_nil]; done)
     | skip
   ·intro hF2 hlt2
    simp only [go_sem,hlt2,decide_false]
    repeat' (first
     | ((first | refine cS ?_ ?_ | refine gS ?_ ?_) <;> (intro hc; simp only [go_sem,hc])))
    all_goals first
     | rfl
     | (simp only [few19,List.all_cons,List.all_nil]; rfl)
     | grind [few19]
     | (simp only [few19,List.all_cons,List.all_nil]; grind)
     | (simp [few19,List.all_cons,List.all_nil, *]; done)
     | (simp_all [few19,List.all_cons,List.all_nil]; done)
     | skip
def tenR (k : Int) : AV:=.tup [.int .i64 (imax k 0),.bool (decide (0 <= k))]
theorem c_ten19 (s : Setup) (nm : ByteArray) (hl : s.tenants.length <= 1073741824) : PCall Tryz.prog 133 [.agg s.c,.str nm] (tenR (tenI s nm)):=by
 refine pC h133_k rfl ?_
 simp only [Tryz.f133,go_sem,toList_beq]
 refine awp_all s.tenants (fun r => idxGo (fun t : Tenant => decide (t.name = nm)) (s.tenants.length - r.length) r) (fun k => [(1,.str nm),(2,.ptr 0 0),(6,.int .i64 k)]) (by omega) rfl ?_ ?_
 ·intro k y ys hd hx hF h0 h1 hw
  have hk2:=drop_len hd
  have e1 : s.tenants.length - (ys.length + 1) = k:=by omega
  have e2 : s.tenants.length - ys.length = k + 1:=by omega
  simp only [List.length_cons,e1,Nat.sub_self] at hF
  simp only [go_sem,h0,h1,lTenant_get hx,toList_beq,e1,e2]
  repeat' (first
   | ((first | refine cS ?_ ?_ | refine gS ?_ ?_) <;> (intro hc; simp only [go_sem,hc,h0,h1,hw,lTenant_get hx,toList_beq,e1,e2])))
  ·have h2 : tenI s nm = (k : Int):=by rw [tenI,idxI,hF,idxGo,if_pos hc]
   rw [h2]
   have h3 : imax (k : Int) 0 = k:=by unfold imax; split <;> omega
   rw [tenR,h3,decide_eq_true h0]
  ·rw [idxGo,if_neg (by rw [hc]; decide)]
 ·intro hF hlt
  simp only [go_sem,hlt,decide_false]
  rw [Nat.sub_self] at hF
  have h2 : tenI s nm = -1:=by rw [tenI,idxI,hF]; rfl
  rw [h2]; rfl
theorem c_out19 (t : Tenant) (n : Int) : PCall Tryz.prog 134 [.agg t.c,.int .i64 n] (.bool (outB t n)):=by
 refine pC h134_k rfl ?_
 by_cases h : 0 <= n /\ n < (t.ports.length : Int)
 ·obtain ⟨h0,h1⟩:=h
  obtain ⟨x,hx⟩ : ∃ x,t.ports[n.toNat]? = some x:=⟨_,List.getElem?_eq_getElem (by omega)⟩
  have hg:=lPort_get hx
  have he : edgeAt t n = x.edge:=by simp [edgeAt,hx]
  simp only [Tryz.f134,go_sem,h0,h1,hg]
  repeat' (first
   | ((first | refine cS ?_ ?_ | refine gS ?_ ?_) <;> (intro hc; simp only [go_sem,hc,h0,h1,hg])))
  all_goals (rw [outB,he]; simp [h0,h1])
 ·simp only [Tryz.f134,go_sem]
  repeat' (first
   | ((first | refine cS ?_ ?_ | refine gS ?_ ?_) <;> (intro hc; simp only [go_sem,hc])))
  all_goals first | (simp only [outB]; grind) | skip
end Go.AI
namespace Go.AI
open Go.Proofs
set_option maxRecDepth 50000
theorem tenAt_get {s : Setup} {k : Nat} {t : Tenant} (h : s.tenants[k]? = some t) : tenAt s (k : Int) = t:=by simp [tenAt,h]
set_option maxHeartbeats 4000000 in
theorem c_tenE (s : Setup) (k : Nat) (t : Tenant) (hk : s.tenants[k]? = some t) (hl : okF s.fields) (hs : bulkL s.c <= 1073741824) (hb : bulkL t.c <= 1048576) (hn : s.tenants.length <= 1073741824) : PCall Tryz.prog 73 [.agg s.c, .int .i64 k] (.int .i64 (tenE s k t)) := by
  have hkl : k < s.tenants.length := (List.getElem?_eq_some_iff.1 hk).1
  have hw1 : t.wires.length <= 1073741824 := Nat.le_trans (lWire_bn (Tenant.bl_wires hb)) (by decide)
  have hp1 : t.ports.length <= 1048576 := lPort_bn (Tenant.bl_ports hb)
  have hk1 := lTenant_get hk
  have hk2 : (k : Int) < (s.tenants.length : Int) := by omega
  have hk3 : (0 : Int) <= (k : Int) := by omega
  have hbw : ∀ x ∈ t.program, bulkL (bClosed t x.policy).c <= 1073741824 := fun x hx => bk_closed (by
    have h1 := lStage_bk (Tenant.bl_program hb) hx
    have h2 : bulkL x.c <= 1048576 := by simpa only [AV.bulk] using h1
    exact Stage.bs_policy h2) (Nat.le_trans (lWire_bn (Tenant.bl_wires hb)) (Nat.le_refl _))
  have hpg : t.program.length <= 1073741824 := Nat.le_trans (lStage_bn (Tenant.bl_program hb)) (by decide)
  have q1 := c_ck18 s t hl hs (Nat.le_trans hb (by decide))
  have q2 := q_Whole t hw1 hpg hbw
  have htk : (s.tenants.take k).length = k := by rw [List.length_take]; omega
  refine pC h73_k rfl ?_
  cases q3 : (ck18 s t != 0) with
  | true =>
    simp only [Tryz.f73, go_sem, hk1, hk2, hk3]
    repeat' (first
      | ((first | refine pK (q1) ?_ | refine pK (q2) ?_); simp only [go_sem, hk1, hk2, hk3, q3])
      | ((first | refine cS ?_ ?_ | refine gS ?_ ?_) <;> (intro hc; simp only [go_sem, hc, hk1, hk2, hk3, q3])))
    rw [tenE, if_pos (by simpa using q3)]
  | false =>
  cases q4 : ((bWhole t).2 != 0) with
  | true =>
    simp only [Tryz.f73, go_sem, hk1, hk2, hk3]
    repeat' (first
      | ((first | refine pK (q1) ?_ | refine pK (q2) ?_); simp only [go_sem, hk1, hk2, hk3, q3, q4])
      | ((first | refine cS ?_ ?_ | refine gS ?_ ?_) <;> (intro hc; simp only [go_sem, hc, hk1, hk2, hk3, q3, q4])))
    rw [tenE, if_neg (by simpa using q3), if_pos (by simpa using q4)]
  | false =>
  rcases Nat.eq_zero_or_pos k with hz | hz
  · have hgt : decide ((0 : Int) < (k : Int)) = false := decide_eq_false (by omega)
    have q5 : prevB s k t = false := by unfold prevB; simp [hz]
    simp only [Tryz.f73, go_sem, hk1, hk2, hk3]
    repeat' (first
      | ((first | refine pK (q1) ?_ | refine pK (q2) ?_); simp only [go_sem, hk1, hk2, hk3, q3, q4, hgt])
      | ((first | refine cS ?_ ?_ | refine gS ?_ ?_) <;> (intro hc; simp only [go_sem, hc, hk1, hk2, hk3, q3, q4, hgt])))
    refine awp_all t.ports (fun r => r.any fun p => (s.tenants.take k).any fun u => decide (0 <= p.edge) && decide (0 <= portOf u p.edge)) (fun i => [(1, .int .i64 k), (2, .ptr 0 0), (5, .ptr 1 0), (9, .int .i64 i)]) (by omega) rfl ?_ ?_
    · intro i y ys hd hy hF h0 h1 hw
      have hy2 := lPort_get hy
      simp only [go_sem, h0, h1, hy2]
      refine awp_all (s.tenants.take k) (fun r => r.any fun u => decide (0 <= y.edge) && decide (0 <= portOf u y.edge)) (fun j => [(1, .int .i64 k), (2, .ptr 0 0), (5, .ptr 1 0), (9, .int .i64 i), (10, .int .i64 j)]) (by omega) rfl ?_ ?_
      · intro j u us hd3 hu3 hF3 g0 g1 gw
        have g1' : (j : Int) < (k : Int) := by omega
        have hu4 : s.tenants[j]? = some u := by
          rw [List.getElem?_take] at hu3
          split at hu3
          · exact hu3
          · cases hu3
        have hu5 := lTenant_get hu4
        simp only [go_sem, g0, g1', hy2, h0, hu5]
        repeat' (first
          | (refine pK (c_Port18 u y.edge) ?_; simp only [go_sem, h0, h1, hy2, g0, g1', gw, hu5])
          | ((first | refine cS ?_ ?_ | refine gS ?_ ?_) <;> (intro hc; simp only [go_sem, hc, h0, h1, hy2, g0, g1', gw, hu5])))
        all_goals first
          | (have e1 : clash19 s k t = true := by
               unfold clash19; rw [hF, List.any_cons, hF3, List.any_cons]
               simp_all
             simp only [decide_eq_true_eq] at *
             rw [tenE, if_neg (by simpa using q3), if_neg (by simpa using q4), if_neg (by rw [q5]; decide), if_pos e1])
          | (rw [List.any_cons]; simp_all; done)
          | skip
      · intro hF3 hlt
        have hlt2 : ¬ ((s.tenants.take k).length : Int) < (k : Int) := by omega
        simp only [go_sem, hlt2, decide_false, hw]
        have hF4 : ((s.tenants.take k).any fun u => decide (0 <= y.edge) && decide (0 <= portOf u y.edge)) = false := hF3
        rw [hF4]; rfl
    · intro hF hlt
      simp only [go_sem, hlt, decide_false]
      have e1 : clash19 s k t = false := by unfold clash19; rw [hF]; rfl
      rw [tenE, if_neg (by simpa using q3), if_neg (by simpa using q4), if_neg (by rw [q5]; decide), if_neg (by rw [e1]; decide)]
  · obtain ⟨u, hu⟩ : ∃ u, s.tenants[k - 1]? = some u := ⟨_, List.getElem?_eq_getElem (by omega)⟩
    have hgt : decide ((0 : Int) < (k : Int)) = true := decide_eq_true (by omega)
    have hw1 : IntKind.i64.wrap ((k : Int) - 1) = ((k - 1 : Nat) : Int) := by rw [w64 (by omega) (by omega)]; omega
    have hw0 : (0 : Int) <= ((k - 1 : Nat) : Int) := by omega
    have hu2 := lTenant_get hu
    have hu3 : tenAt s ((k : Int) - 1) = u := by
      have : ((k : Int) - 1) = ((k - 1 : Nat) : Int) := by omega
      rw [this]; exact tenAt_get hu
    cases q5 : prevB s k t with
    | true =>
      have q6 : (!Op.bytesLess u.name.toList t.name.toList) = true := by
        unfold prevB at q5; rw [hu3] at q5; simp only [Bool.and_eq_true] at q5; exact q5.2
      simp only [Tryz.f73, go_sem, hk1, hk2, hk3]
      repeat' (first
        | ((first | refine pK (q1) ?_ | refine pK (q2) ?_); simp only [go_sem, hk1, hk2, hk3, q3, q4, hgt, hw1, hw0, hu2, q6])
        | ((first | refine cS ?_ ?_ | refine gS ?_ ?_) <;> (intro hc; simp only [go_sem, hc, hk1, hk2, hk3, q3, q4, hgt, hw1, hw0, hu2, q6])))
      all_goals first | (rw [tenE, if_neg (by simpa using q3), if_neg (by simpa using q4), if_pos q5]) | skip
    | false =>
      have q6 : (!Op.bytesLess u.name.toList t.name.toList) = false := by
        unfold prevB at q5; rw [hu3] at q5; simp only [Bool.and_eq_false_iff, decide_eq_false_iff_not] at q5
        exact q5.resolve_left (by omega)
      simp only [Tryz.f73, go_sem, hk1, hk2, hk3]
      repeat' (first
        | ((first | refine pK (q1) ?_ | refine pK (q2) ?_); simp only [go_sem, hk1, hk2, hk3, q3, q4, hgt, hw1, hw0, hu2, q6])
        | ((first | refine cS ?_ ?_ | refine gS ?_ ?_) <;> (intro hc; simp only [go_sem, hc, hk1, hk2, hk3, q3, q4, hgt, hw1, hw0, hu2, q6])))
      refine awp_all t.ports (fun r => r.any fun p => (s.tenants.take k).any fun u => decide (0 <= p.edge) && decide (0 <= portOf u p.edge)) (fun i => [(1, .int .i64 k), (2, .ptr 0 0), (5, .ptr 1 0), (9, .int .i64 i)]) (by omega) rfl ?_ ?_
      · intro i y ys hd hy hF h0 h1 hw
        have hy2 := lPort_get hy
        simp only [go_sem, h0, h1, hy2]
        refine awp_all (s.tenants.take k) (fun r => r.any fun u => decide (0 <= y.edge) && decide (0 <= portOf u y.edge)) (fun j => [(1, .int .i64 k), (2, .ptr 0 0), (5, .ptr 1 0), (9, .int .i64 i), (10, .int .i64 j)]) (by omega) rfl ?_ ?_
        · intro j u us hd3 hu3 hF3 g0 g1 gw
          have g1' : (j : Int) < (k : Int) := by omega
          have hu4 : s.tenants[j]? = some u := by
            rw [List.getElem?_take] at hu3
            split at hu3
            · exact hu3
            · cases hu3
          have hu5 := lTenant_get hu4
          simp only [go_sem, g0, g1', hy2, h0, hu5]
          repeat' (first
            | (refine pK (c_Port18 u y.edge) ?_; simp only [go_sem, h0, h1, hy2, g0, g1', gw, hu5])
            | ((first | refine cS ?_ ?_ | refine gS ?_ ?_) <;> (intro hc; simp only [go_sem, hc, h0, h1, hy2, g0, g1', gw, hu5])))
          all_goals first
            | (have e1 : clash19 s k t = true := by
                 unfold clash19; rw [hF, List.any_cons, hF3, List.any_cons]
                 simp_all
               simp only [decide_eq_true_eq] at *
               rw [tenE, if_neg (by simpa using q3), if_neg (by simpa using q4), if_neg (by rw [q5]; decide), if_pos e1])
            | (rw [List.any_cons]; simp_all; done)
            | skip
        · intro hF3 hlt
          have hlt2 : ¬ ((s.tenants.take k).length : Int) < (k : Int) := by omega
          simp only [go_sem, hlt2, decide_false, hw]
          have hF4 : ((s.tenants.take k).any fun u => decide (0 <= y.edge) && decide (0 <= portOf u y.edge)) = false := hF3
          rw [hF4]; rfl
      · intro hF hlt
        simp only [go_sem, hlt, decide_false]
        have e1 : clash19 s k t = false := by unfold clash19; rw [hF]; rfl
        rw [tenE, if_neg (by simpa using q3), if_neg (by simpa using q4), if_neg (by rw [q5]; decide), if_neg (by rw [e1]; decide)]
theorem tenI_get {s : Setup} {nm : ByteArray} (h : 0 <= tenI s nm) : ∃ t,s.tenants[(tenI s nm).toNat]? = some t /\ t.name = nm /\ tenAt s (tenI s nm) = t /\ tenI s nm < (s.tenants.length : Int):=by
 rcases idxI_cases (fun t : Tenant => decide (t.name = nm)) s.tenants with ⟨h1,_⟩ | ⟨j,x,h1,h2,h3,h4,_⟩
 ·unfold tenI at h; omega
 ·have h5 : tenI s nm = (j : Int):=h4
  rw [h5]
  exact ⟨x,by simpa using h2,by simpa using h3,by simp [tenAt,h2],by omega⟩
theorem imax0 {k : Int} (h : 0 <= k) : imax k 0 = k:=by unfold imax; split <;> omega
theorem c_conE (s : Setup) (c : Contract) (hl : okF s.fields) (hb : bulkL c.c <= 1073741824) (hn : s.tenants.length <= 1073741824) : PCall Tryz.prog 74 [.agg s.c,.agg c.c] (.int .i64 (conE s c)):=by
 have q1:=c_ten19 s c.src hn
 have q2:=c_ten19 s c.dst hn
 simp only [tenR] at q1 q2
 refine pC h74_k rfl ?_
 by_cases ha : 0 <= tenI s c.src
 ·by_cases hd : 0 <= tenI s c.dst
  ·obtain ⟨a,ha1,_,ha2,ha3⟩:=tenI_get ha
   obtain ⟨b,hb1,_,hb2,hb3⟩:=tenI_get hd
   have ha4:=lTenant_get ha1
   have hb4:=lTenant_get hb1
   rw [imax0 ha,decide_eq_true ha] at q1
   rw [imax0 hd,decide_eq_true hd] at q2
   have q3:=c_out19 a c.fromPort
   have q4:=c_out19 b c.toPort
   have q5:=c_ckTP s.fields c.pred hl (Contract.bs_pred hb)
   have e0 : ¬ (tenI s c.src < 0 \/ tenI s c.dst < 0):=by omega
   rw [conE,if_neg e0,ha2,hb2]
   by_cases hv : 0 <= c.via /\ c.via < (s.network.nodes.length : Int)
   ·obtain ⟨nd,hnd⟩ : ∃ nd,s.network.nodes[c.via.toNat]? = some nd:=⟨_,List.getElem?_eq_getElem (by omega)⟩
    have hnd2:=lNode_get hnd
    have hbx : boxAt s c.via = nd.box:=by simp [boxAt,hnd]
    have hv0:=hv.1
    simp only [Tryz.f74,go_sem]
    repeat' (first
     | ((first | refine pK (q1) ?_ | refine pK (q2) ?_ | refine pK (q3) ?_ | refine pK (q4) ?_ | refine pK (q5) ?_); simp only [go_sem,ha,hd,ha4,hb4,hnd2,hv0])
     | ((first | refine cS ?_ ?_ | refine gS ?_ ?_) <;> (intro hc; simp only [go_sem,hc,ha,hd,ha4,hb4,hnd2,hv0])))
    all_goals first | (simp only [viaB,hbx]; grind) | skip
   ·simp only [Tryz.f74,go_sem]
    repeat' (first
     | ((first | refine pK (q1) ?_ | refine pK (q2) ?_ | refine pK (q3) ?_ | refine pK (q4) ?_ | refine pK (q5) ?_); simp only [go_sem,ha,hd,ha4,hb4])
     | ((first | refine cS ?_ ?_ | refine gS ?_ ?_) <;> (intro hc; simp only [go_sem,hc,ha,hd,ha4,hb4])))
    all_goals first | (simp only [viaB]; grind) | skip
  ·rw [decide_eq_false hd] at q2
   simp only [Tryz.f74,go_sem]
   repeat' (first
    | ((first | refine pK (q1) ?_ | refine pK (q2) ?_); simp only [go_sem])
    | ((first | refine cS ?_ ?_ | refine gS ?_ ?_) <;> (intro hc; simp only [go_sem,hc])))
   all_goals first | (rw [conE,if_pos (by omega)]) | skip
 ·rw [decide_eq_false ha] at q1
  simp only [Tryz.f74,go_sem]
  repeat' (first
   | ((first | refine pK (q1) ?_ | refine pK (q2) ?_); simp only [go_sem])
   | ((first | refine cS ?_ ?_ | refine gS ?_ ?_) <;> (intro hc; simp only [go_sem,hc])))
  all_goals first | (rw [conE,if_pos (by omega)]) | skip
end Go.AI
namespace Go.AI
open Go.Proofs
set_option maxRecDepth 50000
def bRow (l : List Bool) : List AV:=l.map .bool
theorem bRow_len (l : List Bool) : (bRow l).length = l.length:=by simp [bRow]
theorem bRow_get {l : List Bool} {i : Nat} {b : Bool} (h : l[i]? = some b) : (bRow l)[i]? = some (.bool b):=by simp [bRow,h]
theorem bRow_set {l : List Bool} {i : Nat} (h : i < l.length) (b : Bool) : splice (bRow l) i [.bool b] = bRow (l.set i b):=by
 apply List.ext_getElem?
 intro j
 have hl:=bRow_len l
 rw [splice_get (by simp; omega)]
 simp only [bRow,List.getElem?_map,List.getElem?_set,List.length_singleton]
 by_cases hj : i <= j /\ j < i + 1
 ·have : j = i:=by omega
  subst this
  rw [if_pos hj,if_pos rfl,if_pos h]; simp
 ·rw [if_neg hj,if_neg (by omega)]
@[go_sem] theorem bRow_pure (l : List Bool) : pureL (bRow l) = true:=by
 induction l with
 | nil => rfl
 | cons b l ih => exact ih
theorem bRow_chunk (l : List Bool) : chunk false 1 l.length ((bRow l).map borrow1) = bRow l:=by
 induction l with
 | nil => rfl
 | cons b l ih =>
  show AV.bool b :: chunk false 1 l.length ((bRow l).map borrow1) = AV.bool b :: bRow l
  rw [ih]
theorem bRow_rep (n : Nat) : (List.replicate n [AV.bool false]).flatten = bRow (List.replicate n false):=by
 induction n with
 | zero => rfl
 | succ n ih => rw [List.replicate_succ,List.flatten_cons,ih]; rfl
def cntT (l : List Bool) : Nat:=(l.filter id).length
theorem cntT_le (l : List Bool) : cntT l <= l.length:=List.length_filter_le _ _
theorem cntT_set {l : List Bool} {i : Nat} (h : l[i]? = some false) : cntT (l.set i true) = cntT l + 1:=by
 induction l generalizing i with
 | nil => simp at h
 | cons b l ih =>
  cases i with
  | zero => simp at h; subst h; simp [cntT]
  | succ i =>
   have:=ih (i:=i) (by simpa using h)
   simp only [List.set_cons_succ,cntT,List.filter_cons] at this ⊢
   split <;> simp_all
theorem cntT_rep (n : Nat) : cntT (List.replicate n false) = 0:=by
 induction n with
 | zero => rfl
 | succ n ih => rw [List.replicate_succ]; exact ih
def rOk (s : Setup) (x : List Bool × List Int) : Prop:=x.1.length = s.tenants.length /\ x.2.length = 1 + cntT x.1 /\ ∀ a ∈ x.2,0 <= a /\ a < (s.tenants.length : Int)
set_option maxHeartbeats 2000000 in
theorem c_reached (s : Setup) (k : Nat) (hk : k < s.tenants.length) (hn : s.tenants.length <= 1048576) (hc : s.contracts.length <= 1048576) (hf : ∀ c ∈ s.contracts,0 <= tenI s c.dst) : PCall Tryz.prog 75 [.agg s.c,.int .i64 k] (.sl none (bRow (rch s k))):=by
 refine pB h75_k rfl ?_
 have hz : zeroAV Tryz.prog 4 = some (.bool false):=by kernel_rfl
 have n0 : (s.tenants.length : Int) * ((1 : Nat) : Int) <= 140737488355328:=by omega
 simp only [Tryz.f75,go_sem]
 refine ⟨by omega,n0,by omega, ?_⟩
 refine awp_wh (σ:=Nat × List Bool × List Int) (fun x => [(2,.ptr 0 0),(5,.msl 1 0 s.tenants.length 1),(6,.sl (some 1) (lI64 x.2.2)),(7,.int .i64 x.1)]) (fun x => [some s.c,some (bRow x.2.1)])
  (fun x => x.1 <= x.2.2.length /\ rOk s x.2 /\ rch s k = rchGo s (s.tenants.length + 2 - x.1) x.1 x.2) (fun x => s.tenants.length + 2 - x.1) (0,List.replicate s.tenants.length false,[(k : Int)])
  ⟨Nat.zero_le _,⟨by simp,by rw [cntT_rep]; rfl,fun a ha => by rcases List.mem_singleton.1 ha with rfl; omega⟩,rfl⟩ rfl (by rw [bRow_rep]) ?_
 rintro ⟨i,seen,q⟩ ⟨hi,hR,hE⟩
 have hq:=hR.2.1
 have hcn:=cntT_le seen
 have hsl:=hR.1
 simp only at hi hq hcn hsl
 by_cases hlt : i < q.length
 ·obtain ⟨a,ha⟩ : ∃ a,q[i]? = some a:=⟨_,List.getElem?_eq_getElem hlt⟩
  obtain ⟨ha0,ha1⟩:=hR.2.2 a (List.mem_of_getElem? ha)
  obtain ⟨u,hu⟩ : ∃ u,s.tenants[a.toNat]? = some u:=⟨_,List.getElem?_eq_getElem (by omega)⟩
  have hu2:=lTenant_get hu
  have hu3 : tenAt s a = u:=by simp [tenAt,hu]
  have hlt2 : (i : Int) < (q.length : Int):=by omega
  have hw:=w64s (k:=i) (by omega)
  have hi0 : (0 : Int) <= (i : Int):=by omega
  simp only [go_sem,hlt2]
  refine awp_lst s.contracts (fun x r => rchC s u.name r x) (fun _ x => rOk s x /\ x.2[i]? = some a) (fun j x => [(2,.ptr 0 0),(5,.msl 1 0 s.tenants.length 1),(6,.sl (some 1) (lI64 x.2)),(7,.int .i64 i),(8,.int .i64 j)]) (fun j x => [some s.c,some (bRow x.1)]) (seen,q) (by omega) ⟨hR,ha⟩ rfl rfl ?_ ?_
  ·rintro j ⟨sn,p⟩ c cs hd hcx ⟨hRx,hax⟩ hF g0 g1 gw
   have hcm:=List.mem_of_getElem? hcx
   have hc2:=lContract_get hcx
   have ht0:=hf c hcm
   obtain ⟨v,hv1,_,_,hv4⟩:=tenI_get ht0
   obtain ⟨m,hm⟩ : ∃ m : Nat,tenI s c.dst = (m : Int):=⟨(tenI s c.dst).toNat,by omega⟩
   have q1:=c_ten19 s c.dst (by omega)
   rw [tenR,imax0 ht0,decide_eq_true ht0,hm] at q1
   have hm1 : m < sn.length:=by rw [hRx.1]; omega
   have hm2 : (m : Int) < (s.tenants.length : Int):=by omega
   have hm0 : (0 : Int) <= (m : Int):=by omega
   obtain ⟨b,hb⟩ : ∃ b,sn[m]? = some b:=⟨_,List.getElem?_eq_getElem hm1⟩
   have hb2:=bRow_get hb
   have hp2:=lI64_get hax
   have hst:=bRow_set hm1 true
   have hpl : (lI64 p).length = p.length:=lI64_len p
   have hrl:=bRow_len sn
   have hq2:=hRx.2.1
   have hcn2:=cntT_le sn
   simp only at hq2 hcn2
   have hsn:=hRx.1
   simp only at hsn
   have hm3 : (m + 1 <= sn.length) = True:=eq_true (by omega)
   simp only [go_sem,g0,g1,hc2,hi0,hp2,ha0,hu2,hm0,hm2,hb2,hst,hrl,toList_beq]
   repeat' (first
    | (refine pK (q1) ?_; simp only [go_sem,g0,g1,hc2,hi0,hp2,ha0,hu2,hm0,hm2,hb2,hst,hrl,toList_beq,gw,hm3])
    | ((first | refine cS ?_ ?_ | refine gS ?_ ?_) <;> (intro hc; simp only [go_sem,hc,g0,g1,hc2,hi0,hp2,ha0,hu2,hm0,hm2,hb2,hst,hrl,toList_beq,gw,hm3])))
   ·have hb3 : b = false:=by simpa using hc
    subst hb3
    rename_i hc1
    refine ⟨by omega,by omega,(sn.set m true,p ++ [(m : Int)]), ?_,⟨⟨by simpa using hsn,by rw [cntT_set hb]; simp; omega, ?_⟩, ?_⟩, ?_⟩
    ·rw [rchC,if_pos ⟨by simpa using hc1,by rw [hm]; simp [hb]⟩,hm,imax0 hm0]; simp
    ·intro z hz
     rcases List.mem_append.1 hz with hz | hz
     ·exact hRx.2.2 z hz
     ·rcases List.mem_singleton.1 hz with rfl; exact ⟨hm0,hm2⟩
    ·rw [List.getElem?_append_left (List.getElem?_eq_some_iff.1 hax).1]; exact hax
    ·exact ⟨rfl,rfl⟩
   ·have hb3 : b = true:=by simpa using hc
    subst hb3
    exact ⟨(sn,p),by rw [rchC,if_neg (by rw [hm]; simp [hb])],⟨hRx,hax⟩,rfl,rfl⟩
   ·rename_i hc1
    exact ⟨(sn,p),by rw [rchC,if_neg (fun h => by simp [h.1] at hc)],⟨hRx,hax⟩,rfl,rfl⟩
  ·rintro ⟨sn,p⟩ ⟨hRx,hax⟩ hF
   simp only [go_sem,Int.lt_irrefl,decide_false,hw]
   have hF' : rchC s u.name s.contracts (seen,q) = (sn,p):=hF
   have e2 : s.tenants.length + 2 - i = (s.tenants.length + 2 - (i + 1)) + 1:=by omega
   have hpi:=(List.getElem?_eq_some_iff.1 hax).1
   simp only at hpi
   refine ⟨(i + 1,sn,p),⟨by simp only; omega,hRx, ?_⟩,by simp only; omega,rfl,rfl⟩
   rw [hE]
   simp only
   rw [e2,rchGo]
   simp only [ha]
   rw [hu3,hF']
 ·have hlt2 : ¬ (i : Int) < (q.length : Int):=by omega
  have hfr : (s.tenants.length <= (bRow seen).length /\ (False \/ True)) = True:=eq_true ⟨by rw [bRow_len]; omega,.inr trivial⟩
  have hch : chunk false 1 s.tenants.length ((bRow seen).map borrow1) = bRow seen:=by rw [<- hsl]; exact bRow_chunk seen
  have e2 : s.tenants.length + 2 - i = (s.tenants.length + 1 - i) + 1:=by omega
  have hE2 : rch s k = seen:=by
   rw [hE]
   simp only
   rw [e2,rchGo]
   simp only [List.getElem?_eq_none (Nat.le_of_not_lt hlt)]
  rw [hE2]
  simp only [go_sem,hlt2,decide_false,hfr,hch]
theorem rchC_len (s : Setup) (nm : ByteArray) : ∀ (l : List Contract) (x : List Bool × List Int),(rchC s nm l x).1.length = x.1.length
 | [],x => rfl
 | c :: r,x => by
  rw [rchC,rchC_len s nm r]
  split <;> simp
theorem rchGo_len (s : Setup) : ∀ (f i : Nat) (x : List Bool × List Int),(rchGo s f i x).length = x.1.length
 | 0,_,_ => rfl
 | f + 1,i,x => by
  rw [rchGo]
  split
  ·rfl
  ·rw [rchGo_len s f,rchC_len]
theorem rch_len (s : Setup) (k : Int) : (rch s k).length = s.tenants.length:=by rw [rch,rchGo_len]; simp
end Go.AI
namespace Go.AI
open Go.Proofs
set_option maxRecDepth 50000
theorem consGo_none {s : Setup} : ∀ {l : List Contract} {i : Nat},consGo s i l = none -> ∀ c ∈ l,conE s c = 0
 | [],_,_,c,hc => by cases hc
 | x :: r,i,h,c,hc => by
  rw [consGo] at h
  split at h
  ·cases h
  ·rename_i hx
   rcases List.mem_cons.1 hc with rfl | hc
   ·simpa using hx
   ·exact consGo_none h c hc
theorem tensGo_none {s : Setup} : ∀ {l : List Tenant} {i : Nat},tensGo s i l = none -> ∀ (j : Nat) (t : Tenant),l[j]? = some t -> tenE s (i + j) t = 0
 | [],_,_,j,t,hc => by simp at hc
 | x :: r,i,h,j,t,hc => by
  rw [tensGo] at h
  split at h
  ·cases h
  ·rename_i hx
   cases j with
   | zero => simp at hc; subst hc; simpa using hx
   | succ j =>
    have:=tensGo_none h j t (by simpa using hc)
    rwa [show i + 1 + j = i + (j + 1) by omega] at this
theorem conE_dst {s : Setup} {c : Contract} (h : conE s c = 0) : 0 <= tenI s c.src /\ 0 <= tenI s c.dst:=by
 unfold conE at h
 split at h
 ·cases h
 ·omega
set_option maxHeartbeats 4000000 in
theorem c_ck19 (s : Setup) (hs : bulkL s.c <= 1048576) : PCall Tryz.prog 40 [.agg s.c] (.tup [.int .i64 (ck19 s).1,.int .i64 (ck19 s).2]):=by
 have hnt : s.tenants.length <= 1048576:=lTenant_bn (Setup.bl_tenants hs)
 have hnc : s.contracts.length <= 1048576:=lContract_bn (Setup.bl_contracts hs)
 have hs2 : bulkL s.c <= 1073741824:=Nat.le_trans hs (by decide)
 have q1:=c_ckNet s.network (Setup.bs_network hs2)
 have q2:=c_ckF s.fields (Setup.bl_fields hs2)
 refine pC h40_k rfl ?_
 by_cases e1 : ckNet s.network = 0
 ·by_cases e2 : ckF s.fields = 0
  ·have hl : okF s.fields:=fun f hf => Int.le_trans (ckF_width e2 f hf) (by decide)
   have e3 : (ckNet s.network != 0) = false:=by simp [e1]
   have e4 : (ckF s.fields != 0) = false:=by simp [e2]
   by_cases e5 : 64 < s.tenants.length \/ 100 < s.contracts.length
   ·have h0 : ck19 s = (0,2):=by unfold ck19; rw [if_neg (by simp [e1]),if_neg (by simp [e2]),if_pos e5]
    rw [h0]
    simp only [Tryz.f40,go_sem]
    repeat' (first
     | ((first | refine pK (q1) ?_ | refine pK (q2) ?_); simp only [go_sem,e3,e4])
     | ((first | refine cS ?_ ?_ | refine gS ?_ ?_) <;> (intro hc; simp only [go_sem,hc,e3,e4])))
    all_goals first | rfl | (simp only [decide_eq_true_eq,decide_eq_false_iff_not] at *; omega) | skip
   ·have h0 : ck19 s = (match tensGo s 0 s.tenants with
      | some x => x
      | none => match consGo s 0 s.contracts with
       | some x => x
       | none => (loopsGo s 0 s.tenants).getD (0,0)):=by unfold ck19; rw [if_neg (by simp [e1]),if_neg (by simp [e2]),if_neg e5] <;> rfl
    have g1 : ¬ (64 : Int) < (s.tenants.length : Int):=by omega
    have g2 : ¬ (100 : Int) < (s.contracts.length : Int):=by omega
    simp only [Tryz.f40,go_sem]
    repeat' (first
     | ((first | refine pK (q1) ?_ | refine pK (q2) ?_); simp only [go_sem,e3,e4,g1,g2,decide_false])
     | ((first | refine cS ?_ ?_ | refine gS ?_ ?_) <;> (intro hc; simp only [go_sem,hc,e3,e4,g1,g2,decide_false])))
    refine awp_all s.tenants (fun r => tensGo s (s.tenants.length - r.length) r) (fun k => [(1,.ptr 0 0),(5,.int .i64 k)]) (by omega) rfl ?_ ?_
    ·intro k y ys hd hx hF k0 k1 hw
     have hk2:=drop_len hd
     have d1 : s.tenants.length - (ys.length + 1) = k:=by omega
     have d2 : s.tenants.length - ys.length = k + 1:=by omega
     simp only [List.length_cons,d1,d2,Nat.sub_self] at hF ⊢
     have hby : bulkL y.c <= 1048576:=by have:=lTenant_bk (Setup.bl_tenants hs) (List.mem_of_getElem? hx); simpa only [AV.bulk] using this
     simp only [go_sem,k0,k1]
     repeat' (first
      | (refine pK (c_tenE s k y hx hl hs2 hby (by omega)) ?_; simp only [go_sem,k0,k1,hw,d1,d2])
      | ((first | refine cS ?_ ?_ | refine gS ?_ ?_) <;> (intro hc; simp only [go_sem,hc,k0,k1,hw,d1,d2])))
     ·have h1 : tensGo s 0 s.tenants = some ((k : Int),tenE s k y):=by rw [hF,tensGo,if_pos (by simpa using hc)]
      rw [h0,h1]
     ·rw [tensGo,if_neg (by simpa using hc)]
    ·intro hF hlt
     have hT : tensGo s 0 s.tenants = none:=by rw [Nat.sub_self] at hF; rw [hF]; rfl
     simp only [go_sem,hlt,decide_false]
     refine awp_all s.contracts (fun r => consGo s (s.contracts.length - r.length) r) (fun k => [(1,.ptr 0 0),(6,.int .i64 k)]) (by omega) rfl ?_ ?_
     ·intro k y ys hd hx hF2 k0 k1 hw
      have hk2:=drop_len hd
      have d1 : s.contracts.length - (ys.length + 1) = k:=by omega
      have d2 : s.contracts.length - ys.length = k + 1:=by omega
      simp only [List.length_cons,d1,d2,Nat.sub_self] at hF2 ⊢
      have hby : bulkL y.c <= 1073741824:=by
       have h5:=lContract_bk (Setup.bl_contracts hs) (List.mem_of_getElem? hx)
       have h6 : bulkL y.c <= 1048576:=by simpa only [AV.bulk] using h5
       exact Nat.le_trans h6 (by decide)
      simp only [go_sem,k0,k1,lContract_get hx]
      repeat' (first
       | (refine pK (c_conE s y hl hby (by omega)) ?_; simp only [go_sem,k0,k1,hw,d1,d2,lContract_get hx])
       | ((first | refine cS ?_ ?_ | refine gS ?_ ?_) <;> (intro hc; simp only [go_sem,hc,k0,k1,hw,d1,d2,lContract_get hx])))
      ·have h1 : consGo s 0 s.contracts = some ((k : Int),conE s y):=by rw [hF2,consGo,if_pos (by simpa using hc)]
       rw [h0,hT,h1]
      ·rw [consGo,if_neg (by simpa using hc)]
     ·intro hF2 hlt2
      have hC : consGo s 0 s.contracts = none:=by rw [Nat.sub_self] at hF2; rw [hF2]; rfl
      have hdst : ∀ c ∈ s.contracts,0 <= tenI s c.dst:=fun c hc => (conE_dst (consGo_none hC c hc)).2
      simp only [go_sem,hlt2,decide_false]
      refine awp_all s.tenants (fun r => loopsGo s (s.tenants.length - r.length) r) (fun k => [(1,.ptr 0 0),(7,.int .i64 k)]) (by omega) rfl ?_ ?_
      ·intro k y ys hd hx hF3 k0 k1 hw
       have hk2:=drop_len hd
       have d1 : s.tenants.length - (ys.length + 1) = k:=by omega
       have d2 : s.tenants.length - ys.length = k + 1:=by omega
       simp only [List.length_cons,d1,d2,Nat.sub_self] at hF3 ⊢
       have q3:=c_reached s k (by omega) hnt hnc hdst
       have hrl : (rch s k).length = s.tenants.length:=rch_len s k
       obtain ⟨b,hb⟩ : ∃ b,(rch s k)[k]? = some b:=⟨_,List.getElem?_eq_getElem (by omega)⟩
       have hb2:=bRow_get hb
       simp only [go_sem,k0,k1]
       repeat' (first
        | (refine pK (q3) ?_; simp only [go_sem,k0,k1,hw,d1,d2,hb2])
        | ((first | refine cS ?_ ?_ | refine gS ?_ ?_) <;> (intro hc; simp only [go_sem,hc,k0,k1,hw,d1,d2,hb2])))
       ·have h1 : loopsGo s 0 s.tenants = some (0,21):=by rw [hF3,loopsGo,if_pos (by rw [hb]; simpa using hc)]
        rw [h0,hT,hC,h1]; rfl
       ·rw [loopsGo,if_neg (by rw [hb]; simpa using hc)]
      ·intro hF3 hlt3
       have hL : loopsGo s 0 s.tenants = none:=by rw [Nat.sub_self] at hF3; rw [hF3]; rfl
       simp only [go_sem,hlt3,decide_false]
       rw [h0,hT,hC,hL]; rfl
  ·have e3 : (ckNet s.network != 0) = false:=by simp [e1]
   have e4 : (ckF s.fields != 0) = true:=by simp [e2]
   have h0 : ck19 s = (0,ckF s.fields):=by unfold ck19; rw [if_neg (by simp [e1]),if_pos e2]
   rw [h0]
   simp only [Tryz.f40,go_sem]
   repeat' (first
    | ((first | refine pK (q1) ?_ | refine pK (q2) ?_); simp only [go_sem,e3,e4])
    | ((first | refine cS ?_ ?_ | refine gS ?_ ?_) <;> (intro hc; simp only [go_sem,hc,e3,e4])))
 ·have e3 : (ckNet s.network != 0) = true:=by simp [e1]
  have h0 : ck19 s = (0,ckNet s.network):=by unfold ck19; rw [if_pos e1]
  rw [h0]
  simp only [Tryz.f40,go_sem]
  repeat' (first
   | ((first | refine pK (q1) ?_ | refine pK (q2) ?_); simp only [go_sem,e3])
   | ((first | refine cS ?_ ?_ | refine gS ?_ ?_) <;> (intro hc; simp only [go_sem,hc,e3])))
theorem c_right19 (s : Setup) (hs : bulkL s.c <= 1048576) : PCall Tryz.prog 13 [.agg s.c] (.bool (right19 s)):=by
 refine pC h13_k rfl ?_
 simp only [Tryz.f13,go_sem]
 repeat' (first
  | ((first | refine pK (c_few19 s) ?_ | refine pK (c_ck19 s hs) ?_); simp only [go_sem])
  | ((first | refine cS ?_ ?_ | refine gS ?_ ?_) <;> (intro hc; simp only [go_sem,hc])))
 all_goals first
  | rfl
  | (simp only [right19]; rfl)
  | grind [right19]
  | (simp only [right19]; grind)
  | (simp [right19, *]; done)
  | (simp_all [right19]; done)
  | skip
end Go.AI
namespace Go.AI
open Go.Proofs
set_option maxRecDepth 50000
theorem p_mHolds (l : List Fld) (hl : okFs l) (hln : l.length <= 9223372036854775807) (x : Pred) (hx : goodP l x) (t : Int) (h : Head) (hr : rightH h = true) : PCall Tryz.prog 58 [.sl none (lFld l),.agg x.c,.agg h.c,.int .i64 t] (.bool (hP l t x h)):=by
 have c1 : ACall Tryz.prog 106 [.sl none (lFld l),.int .i64 t] [some x.c,some h.c] fun v H' => v = .ptr 4 0 /\ H' = [some x.c,some h.c] ++ [some [.sl none (lFld l)],some [.int .i64 t],some (wldC 2),some [.ptr 4 0]]:=p_in l t [some x.c,some h.c]
 have hW : isW l t 3 5 2 4 ([some x.c,some h.c] ++ [some [.sl none (lFld l)],some [.int .i64 t],some (wldC 2),some [.ptr 4 0]]):=⟨rfl,rfl,⟨none,rfl⟩,rfl⟩
 have c2 : RCall Tryz.prog 173 [.agg x.c,.agg h.c,.ptr 3 0,.ptr 5 0,.ptr 2 0] ([some x.c,some h.c] ++ [some [.sl none (lFld l)],some [.int .i64 t],some (wldC 2),some [.ptr 4 0]]) (.bool (hP l t x h)):=fun H2 hv => p_wHolds l hl hln t 3 5 2 4 x hx h hr H2 (hW.view hv)
 have ho : ∀ ops,h58.ord 1 ops = (ordI [6,7] ops.size).filterMap fun i => ops[i]?:=fun ops => rfl
 have hI : ordI [6,7] 10 = [6,7,0,1,2,3,4,5,8,9]:=by decide
 simp only [wldC] at c1 c2
 refine pB h58_k rfl ?_
 simp only [Tryz.f58,go_sem]
 rw [awp_regionO _ _ _ (by simp only [go_sem]) rfl,ho]
 simp only [List.size_toArray,List.length_cons,List.length_nil,Nat.reduceAdd,hI,List.filterMap_cons,List.getElem?_toArray,List.getElem?_cons_succ,List.getElem?_cons_zero,List.filterMap_nil]
 simp only [go_sem]
 refine ⟨_,_,c1, ?_⟩
 simp only [go_sem]
 repeat' (first
  | (refine rK (c2) ?_; simp only [go_sem])
  | ((first | refine cS ?_ ?_ | refine gS ?_ ?_) <;> (intro hc; simp only [go_sem,hc])))
 all_goals first | rfl | skip
def takB (s : Setup) (nm : ByteArray) (h : Head) (t : Int) (c : Contract) : Bool:=decide (c.src = nm) && (c.fromPort == h.h0 && hP s.fields t c.pred h)
theorem p_Takes1 {H : Heap} (s : Setup) (hl : okFs s.fields) (hln : s.fields.length <= 9223372036854775807) (k : Nat) (u : Tenant) (hu : s.tenants[k]? = some u) (h : Head) (hr : rightH h = true) (t : Int) (c : Contract) (hx : goodP s.fields c.pred)
  (os ok oh ot : Nat) (h1 : H[os]? = some (some s.c)) (h2 : H[ok]? = some (some [.int .i64 k])) (h3 : H[oh]? = some (some h.c)) (h4 : H[ot]? = some (some [.int .i64 t])) :
  SCall Tryz.prog 57 [.agg c.c,.ptr os 0,.ptr ok 0,.ptr oh 0,.ptr ot 0] H (.bool (takB s u.name h t c)):=by
 refine ACall.drop rfl ?_
 have g1:=get_grow h1
 have g2:=get_grow h2
 have g3:=get_grow h3
 have g4:=get_grow h4
 have q0:=q_0 H
 have hu2:=lTenant_get hu
 have hk0 : (0 : Int) <= (k : Int):=by omega
 refine aC h57_k rfl ?_
 simp only [Tryz.f57,go_sem,g1,g2,g3,g4,q0,hu2,hk0,toList_beq]
 repeat' (first
  | (refine pK (p_mHolds s.fields hl hln c.pred hx t h hr) ?_; simp only [go_sem,g1,g2,g3,g4,q0,hu2,hk0,toList_beq])
  | ((first | refine cS ?_ ?_ | refine gS ?_ ?_) <;> (intro hc; simp only [go_sem,hc,g1,g2,g3,g4,q0,hu2,hk0,toList_beq])))
 all_goals first | (simp only [takB]; grind) | skip
theorem p_Takes (s : Setup) (hl : okFs s.fields) (hln : s.fields.length <= 9223372036854775807) (hcl : s.contracts.length <= 9223372036854775807) (k : Nat) (u : Tenant) (hu : s.tenants[k]? = some u) (h : Head) (hr : rightH h = true) (t : Int) (hx : ∀ c ∈ s.contracts,goodP s.fields c.pred) :
  PCall Tryz.prog 30 [.agg s.c,.int .i64 k,.agg h.c,.int .i64 t] (.int .i64 (idxI (takB s u.name h t) s.contracts)):=by
 have c1:=p_IndexContract (H:=[some s.c,some [.int .i64 k],some h.c,some [.int .i64 t]]) s.contracts hcl 57 [] [.ptr 0 0,.ptr 1 0,.ptr 2 0,.ptr 3 0] (takB s u.name h t)
  (fun c hc => p_Takes1 s hl hln k u hu h hr t c (hx c hc) 0 1 2 3 rfl rfl rfl rfl)
 refine pC h30_k rfl ?_
 simp only [Tryz.f30,go_sem]
 repeat' (first
  | (refine aS (c1) ?_; simp only [go_sem])
  | ((first | refine cS ?_ ?_ | refine gS ?_ ?_) <;> (intro hc; simp only [go_sem,hc])))
 all_goals first | rfl | skip
end Go.AI
namespace Go.AI
open Go.Proofs
set_option maxRecDepth 50000
theorem ckTP_good {l : List Fld} {x : Pred} (h : ckTP l x = 0) : goodP l x:=by
 unfold ckTP at h
 split at h
 ·rename_i h1
  refine ⟨?_,(fitGo_all l _).1 h⟩
  unfold ckP fmE at h1
  split at h1
  ·split at h1
   ·assumption
   ·cases h1
  ·rename_i h2; exact absurd h1 h2
 ·rename_i h1; exact absurd h h1
structure R19 (s : Setup) : Prop where
 net : ckNet s.network = 0
 fld : okFs s.fields
 fld0 : ckF s.fields = 0
 ten : ∀ (k : Nat) (t : Tenant),s.tenants[k]? = some t -> tenE s k t = 0
 con : ∀ c ∈ s.contracts,conE s c = 0
 loop : loopsGo s 0 s.tenants = none
theorem right_r19 {s : Setup} (h : right19 s = true) : R19 s:=by
 unfold right19 at h
 simp only [Bool.and_eq_true,beq_iff_eq] at h
 obtain ⟨_,h⟩:=h
 have l1 : ∀ {i : Nat} {r : List Tenant} {x : Int × Int},tensGo s i r = some x -> x.2 ≠ 0:=by
  intro i r
  induction r generalizing i with
  | nil => intro x hx; cases hx
  | cons y r ih =>
   intro x hx
   rw [tensGo] at hx
   split at hx
   ·rename_i hne; cases hx; exact hne
   ·exact ih hx
 have l2 : ∀ {i : Nat} {r : List Contract} {x : Int × Int},consGo s i r = some x -> x.2 ≠ 0:=by
  intro i r
  induction r generalizing i with
  | nil => intro x hx; cases hx
  | cons y r ih =>
   intro x hx
   rw [consGo] at hx
   split at hx
   ·rename_i hne; cases hx; exact hne
   ·exact ih hx
 have l3 : ∀ {i : Nat} {r : List Tenant} {x : Int × Int},loopsGo s i r = some x -> x.2 ≠ 0:=by
  intro i r
  induction r generalizing i with
  | nil => intro x hx; cases hx
  | cons y r ih =>
   intro x hx
   rw [loopsGo] at hx
   split at hx
   ·cases hx; decide
   ·exact ih hx
 unfold ck19 at h
 split at h
 ·rename_i hne; exact absurd h hne
 rename_i h1
 split at h
 ·rename_i hne; exact absurd h hne
 rename_i h2
 split at h
 ·cases h
 have hF : ckF s.fields = 0:=by simpa using h2
 cases hT : tensGo s 0 s.tenants with
 | some x => rw [hT] at h; exact absurd h (l1 hT)
 | none =>
  rw [hT] at h
  cases hC : consGo s 0 s.contracts with
  | some x => rw [hC] at h; exact absurd h (l2 hC)
  | none =>
   rw [hC] at h
   cases hL : loopsGo s 0 s.tenants with
   | some x => rw [hL] at h; exact absurd h (l3 hL)
   | none =>
    exact ⟨by simpa using h1,ckF_ok hF,hF,fun k t ht => by have:=tensGo_none hT k t ht; rwa [Nat.zero_add] at this,consGo_none hC,hL⟩
theorem R19.pred {s : Setup} (h : R19 s) {c : Contract} (hc : c ∈ s.contracts) : goodP s.fields c.pred:=by
 have h1:=h.con c hc
 unfold conE at h1
 split at h1
 ·cases h1
 split at h1
 ·cases h1
 split at h1
 ·rename_i h2; exact absurd h1 h2
 rename_i h2
 exact ckTP_good (by simpa using h2)
end Go.AI
namespace Go.AI
open Go.Proofs
set_option maxRecDepth 50000
theorem p_Tenant1 {H : Heap} (t : Tenant) (nm : ByteArray) (o : Nat) (ho : H[o]? = some (some [.str nm])) : SCall Tryz.prog 60 [.agg t.c,.ptr o 0] H (.bool (decide (t.name = nm))):=by
 refine ACall.drop rfl ?_
 refine aC h60_k rfl ?_
 have ho' : ∀ z,(H ++ z)[o]? = some (some [.str nm]):=fun z => by
  have:=(List.getElem?_eq_some_iff.1 ho).1
  rw [List.getElem?_append_left this]; exact ho
 simp only [Tryz.f60,go_sem,ho',toList_beq]
theorem p_Tenant (s : Setup) (nm : ByteArray) (hl : s.tenants.length <= 1073741824) : PCall Tryz.prog 32 [.agg s.c,.str nm] (tenR (tenI s nm)):=by
 have c1:=p_IndexTenant (H:=[some s.c,some [.str nm]]) s.tenants (by omega) 60 [] [.ptr 1 0] (fun t => decide (t.name = nm)) (fun t _ => p_Tenant1 t nm 1 rfl)
 refine pC h32_k rfl ?_
 simp only [Tryz.f32,go_sem]
 repeat' (first
  | (refine aS (c1) ?_; simp only [go_sem])
  | ((first | refine cS ?_ ?_ | refine gS ?_ ?_) <;> (intro hc; simp only [go_sem,hc])))
 all_goals first | rfl | skip
def ownGo (e : Int) : Nat -> List Tenant -> Int × Int
 | _,[] => (-1,-1)
 | i,t :: r => if 0 <= portOf2 t e then ((i : Int),portOf2 t e) else ownGo e (i + 1) r
theorem p_Owner (s : Setup) (hs : bulkL s.c <= 1048576) (e : Int) : PCall Tryz.prog 12 [.agg s.c,.int .i64 e] (.tup [.int .i64 (ownGo e 0 s.tenants).1,.int .i64 (ownGo e 0 s.tenants).2]):=by
 have hnt : s.tenants.length <= 1048576:=lTenant_bn (Setup.bl_tenants hs)
 refine pC h12_k rfl ?_
 simp only [Tryz.f12,go_sem]
 refine awp_all s.tenants (fun r => ownGo e (s.tenants.length - r.length) r) (fun k => [(1,.int .i64 e),(10,.sl none (lTenant s.tenants)),(11,.int .i64 s.tenants.length),(12,.int .i64 k)]) (by omega) rfl ?_ ?_
 ·intro k y ys hd hx hF h0 h1 hw
  have hk2:=drop_len hd
  have e1 : s.tenants.length - (ys.length + 1) = k:=by omega
  have e2 : s.tenants.length - ys.length = k + 1:=by omega
  simp only [List.length_cons,e1,e2,Nat.sub_self] at hF ⊢
  have hby : bulkL y.c <= 1048576:=by have:=lTenant_bk (Setup.bl_tenants hs) (List.mem_of_getElem? hx); simpa only [AV.bulk] using this
  have hp : y.ports.length <= 1073741824:=Nat.le_trans (lPort_bn (Tenant.bl_ports hby)) (by decide)
  simp only [go_sem,h0,h1,lTenant_get hx]
  repeat' (first
   | (refine pK (c_Port y hp e) ?_; simp only [go_sem,h0,h1,hw,lTenant_get hx,e1,e2])
   | ((first | refine cS ?_ ?_ | refine gS ?_ ?_) <;> (intro hc; simp only [go_sem,hc,h0,h1,hw,lTenant_get hx,e1,e2])))
  ·rw [hF,ownGo,if_pos (by simpa using hc)]
  ·rw [ownGo,if_neg (by simpa using hc)]
 ·intro hF hlt
  simp only [go_sem,hlt,decide_false]
  rw [Nat.sub_self] at hF
  rw [hF]; rfl
end Go.AI
namespace Go.AI
def mkd (x : List Bool) (j : Nat) : Prop:=x[j]? = some true
theorem mkd_set {x : List Bool} {m j : Nat} (h : mkd x j) : mkd (x.set m true) j:=by
 unfold mkd at *
 rw [List.getElem?_set]
 split
 ·rename_i he; subst he; rw [if_pos (List.getElem?_eq_some_iff.1 h).1]
 ·exact h
theorem mkd_of_set {x : List Bool} {m j : Nat} (h : mkd (x.set m true) j) : j = m \/ mkd x j:=by
 unfold mkd at *
 rw [List.getElem?_set] at h
 split at h
 ·rename_i he; exact .inl he.symm
 ·exact .inr h
section
variable {s : Setup} {nm : ByteArray}
theorem rchC_mono : ∀ {l : List Contract} {x : List Bool × List Int} {j : Nat},mkd x.1 j -> mkd (rchC s nm l x).1 j
 | [],_,_,h => h
 | c :: r,x,j,h => by
  rw [rchC]
  refine rchC_mono ?_
  split
  ·exact mkd_set h
  ·exact h
theorem rchC_hit : ∀ {l : List Contract} {x : List Bool × List Int} {c : Contract},c ∈ l -> c.src = nm -> (tenI s c.dst).toNat < x.1.length -> mkd (rchC s nm l x).1 (tenI s c.dst).toNat
 | d :: r,x,c,hc,hs,hl => by
  rw [rchC]
  rcases List.mem_cons.1 hc with rfl | hc
  ·refine rchC_mono ?_
   split
   ·show (x.1.set _ true)[_]? = some true
    rw [List.getElem?_set,if_pos rfl,if_pos hl]
   ·rename_i hn
    have : (x.1[(tenI s c.dst).toNat]?).getD true ≠ false:=fun h => hn ⟨hs,h⟩
    unfold mkd
    rw [List.getElem?_eq_getElem hl] at this ⊢
    cases hx : x.1[(tenI s c.dst).toNat] <;> simp_all
  ·refine rchC_hit hc hs ?_
   split <;> simpa using hl
theorem rchC_queue : ∀ {l : List Contract} {x : List Bool × List Int},(∀ j,mkd x.1 j -> (j : Int) ∈ x.2) -> ∀ j,mkd (rchC s nm l x).1 j -> (j : Int) ∈ (rchC s nm l x).2
 | [],_,h => h
 | c :: r,x,h => by
  rw [rchC]
  refine rchC_queue ?_
  split
  ·intro j hj
   rcases mkd_of_set hj with rfl | hj
   ·refine List.mem_append_right _ (List.mem_singleton.2 ?_)
    unfold imax; split <;> omega
   ·exact List.mem_append_left _ (h j hj)
  ·exact h
theorem rchC_pre : ∀ (l : List Contract) (x : List Bool × List Int),∃ t,(rchC s nm l x).2 = x.2 ++ t
 | [],x => ⟨[],by simp [rchC]⟩
 | c :: r,x => by
  rw [rchC]
  split
  ·obtain ⟨t,ht⟩:=rchC_pre r (x.1.set (tenI s c.dst).toNat true,x.2 ++ [imax (tenI s c.dst) 0])
   exact ⟨[imax (tenI s c.dst) 0] ++ t,by rw [ht]; simp⟩
  ·exact rchC_pre r x
theorem rchC_new : ∀ {l : List Contract} {x : List Bool × List Int},∀ b ∈ (rchC s nm l x).2,b ∈ x.2 \/ ∃ c ∈ l,c.src = nm /\ b = ((tenI s c.dst).toNat : Int)
 | [],_,b,h => .inl h
 | c :: r,x,b,h => by
  rw [rchC] at h
  rcases rchC_new b h with h | ⟨d,hd,hs,rfl⟩
  ·split at h
   ·rename_i he
    rcases List.mem_append.1 h with h | h
    ·exact .inl h
    ·rcases List.mem_singleton.1 h with rfl
     exact .inr ⟨c,by simp,he.1,by unfold imax; split <;> omega⟩
   ·exact .inl h
  ·exact .inr ⟨d,by simp [hd],hs,rfl⟩
theorem rchC_min {M : Nat -> Prop} : ∀ {l : List Contract} {x : List Bool × List Int},(∀ c ∈ l,c.src = nm -> M (tenI s c.dst).toNat) -> (∀ j,mkd x.1 j -> M j) -> ∀ j,mkd (rchC s nm l x).1 j -> M j
 | [],_,_,h => h
 | c :: r,x,hc,h => by
  rw [rchC]
  refine rchC_min (fun d hd => hc d (by simp [hd])) ?_
  split
  ·rename_i he
   intro j hj
   rcases mkd_of_set hj with rfl | hj
   ·exact hc c (by simp) he.1
   ·exact h j hj
  ·exact h
theorem rchC_rOk : ∀ {l : List Contract} {x : List Bool × List Int},(∀ c ∈ l,0 <= tenI s c.dst) -> rOk s x -> rOk s (rchC s nm l x)
 | [],_,_,h => h
 | c :: r,x,hc,h => by
  rw [rchC]
  refine rchC_rOk (fun d hd => hc d (by simp [hd])) ?_
  split
  ·rename_i he
   obtain ⟨v,_,_,_,hv⟩:=tenI_get (hc c (by simp))
   have h0:=hc c (by simp)
   refine ⟨by simpa using h.1, ?_, ?_⟩
   ·have hlt : (tenI s c.dst).toNat < x.1.length:=by rw [h.1]; omega
    have hb : x.1[(tenI s c.dst).toNat]? = some false:=by
     have h2:=he.2
     rw [List.getElem?_eq_getElem hlt] at h2 ⊢
     simpa using h2
    rw [cntT_set hb]
    have:=h.2.1
    simp; omega
   ·intro a ha
    rcases List.mem_append.1 ha with ha | ha
    ·exact h.2.2 a ha
    ·rcases List.mem_singleton.1 ha with rfl
     rw [imax0 h0]; exact ⟨h0,hv⟩
  ·exact h
end
section
variable {s : Setup} (hd : ∀ c ∈ s.contracts,0 <= tenI s c.dst)
include hd
theorem rchGo_closed : ∀ (f i : Nat) (x : List Bool × List Int),rOk s x -> (∀ j,mkd x.1 j -> (j : Int) ∈ x.2) -> (∀ (j : Nat) (a : Int),j < i -> x.2[j]? = some a -> ∀ c ∈ s.contracts,c.src = (tenAt s a).name -> mkd x.1 (tenI s c.dst).toNat) -> s.tenants.length + 2 <= f + i ->
  (∀ (j : Nat) (a : Int),x.2[j]? = some a -> ∀ c ∈ s.contracts,c.src = (tenAt s a).name -> mkd (rchGo s f i x) (tenI s c.dst).toNat) /\
  (∀ a,mkd (rchGo s f i x) a -> ∀ c ∈ s.contracts,c.src = (tenAt s (a : Int)).name -> mkd (rchGo s f i x) (tenI s c.dst).toNat)
 | 0,i,x,hr,hq,hp,hf => by
  have h1:=hr.2.1
  have h2:=cntT_le x.1
  have h3:=hr.1
  have all : ∀ (j : Nat) (a : Int),x.2[j]? = some a -> ∀ c ∈ s.contracts,c.src = (tenAt s a).name -> mkd x.1 (tenI s c.dst).toNat:=fun j a hj => hp j a (by have:=(List.getElem?_eq_some_iff.1 hj).1; omega) hj
  refine ⟨all,fun a ha c hc => ?_⟩
  obtain ⟨j,hj⟩:=List.getElem?_of_mem (hq a ha)
  exact all j a hj c hc
 | f + 1,i,x,hr,hq,hp,hf => by
  rw [rchGo]
  split
  ·rename_i hn
   have hle:=List.getElem?_eq_none_iff.1 hn
   have all : ∀ (j : Nat) (a : Int),x.2[j]? = some a -> ∀ c ∈ s.contracts,c.src = (tenAt s a).name -> mkd x.1 (tenI s c.dst).toNat:=fun j a hj => hp j a (by have:=(List.getElem?_eq_some_iff.1 hj).1; omega) hj
   refine ⟨all,fun a ha c hc => ?_⟩
   obtain ⟨j,hj⟩:=List.getElem?_of_mem (hq a ha)
   exact all j a hj c hc
  ·rename_i a ha
   obtain ⟨t,ht⟩:=rchC_pre (s:=s) (nm:=(tenAt s a).name) s.contracts x
   have hi:=(List.getElem?_eq_some_iff.1 ha).1
   have ih:=rchGo_closed f (i + 1) (rchC s (tenAt s a).name s.contracts x) (rchC_rOk hd hr) (rchC_queue hq) (fun j b hj hb c hc hs => by
    rw [ht,List.getElem?_append_left (by omega)] at hb
    rcases Nat.lt_or_ge j i with hji | hji
    ·exact rchC_mono (hp j b hji hb c hc hs)
    ·have : j = i:=by omega
     subst this
     rw [ha] at hb; cases hb
     obtain ⟨v,_,_,_,hv⟩:=tenI_get (hd c hc)
     have:=hd c hc
     exact rchC_hit hc hs (by rw [hr.1]; omega)) (by omega)
   refine ⟨fun j b hj c hc hs => ih.1 j b ?_ c hc hs,ih.2⟩
   rw [ht,List.getElem?_append_left (List.getElem?_eq_some_iff.1 hj).1]; exact hj
omit hd in
theorem rchGo_min {M : Nat -> Prop} (hM : ∀ a,M a -> ∀ c ∈ s.contracts,c.src = (tenAt s (a : Int)).name -> M (tenI s c.dst).toNat) : ∀ (f i : Nat) (x : List Bool × List Int),(∀ a ∈ x.2,∀ c ∈ s.contracts,c.src = (tenAt s a).name -> M (tenI s c.dst).toNat) -> (∀ j,mkd x.1 j -> M j) -> ∀ j,mkd (rchGo s f i x) j -> M j
 | 0,_,_,_,h => h
 | f + 1,i,x,hq,h => by
  rw [rchGo]
  split
  ·exact h
  ·rename_i a ha
   have hma:=List.mem_of_getElem? ha
   refine rchGo_min hM f (i + 1) _ (fun b hb c hc hs => ?_) (rchC_min (fun c hc hs => hq a hma c hc hs) h)
   rcases rchC_new b hb with hb | ⟨d,hd,hds,rfl⟩
   ·exact hq b hb c hc hs
   ·exact hM _ (hq a hma d hd hds) c hc hs
theorem rch_closed {k : Nat} (hk : k < s.tenants.length) : (∀ c ∈ s.contracts,c.src = (tenAt s (k : Int)).name -> mkd (rch s k) (tenI s c.dst).toNat) /\ (∀ a,mkd (rch s k) a -> ∀ c ∈ s.contracts,c.src = (tenAt s (a : Int)).name -> mkd (rch s k) (tenI s c.dst).toNat):=by
 have h0 : rOk s (List.replicate s.tenants.length false,[(k : Int)]):=⟨by simp,by rw [cntT_rep]; rfl,fun a ha => by rcases List.mem_singleton.1 ha with rfl; omega⟩
 have h1 : ∀ j,mkd (List.replicate s.tenants.length false) j -> (j : Int) ∈ [(k : Int)]:=fun j hj => by
  unfold mkd at hj
  have:=List.mem_of_getElem? hj
  simp at this
 obtain ⟨g1,g2⟩:=rchGo_closed hd (s.tenants.length + 2) 0 _ h0 h1 (fun j a hj => by omega) (by omega)
 exact ⟨fun c hc hs => g1 0 (k : Int) rfl c hc hs,g2⟩
omit hd in
theorem rch_min {k : Nat} {M : Nat -> Prop} (h0 : ∀ c ∈ s.contracts,c.src = (tenAt s (k : Int)).name -> M (tenI s c.dst).toNat) (hM : ∀ a,M a -> ∀ c ∈ s.contracts,c.src = (tenAt s (a : Int)).name -> M (tenI s c.dst).toNat) : ∀ j,mkd (rch s k) j -> M j:=by
 refine rchGo_min hM _ _ _ (fun a ha => ?_) (fun j hj => ?_)
 ·rcases List.mem_singleton.1 ha with rfl; exact h0
 ·unfold mkd at hj
  have:=List.mem_of_getElem? hj
  simp at this
end
theorem cntT_lt : ∀ {a b : List Bool} {j : Nat},a.length = b.length -> (∀ i,mkd a i -> mkd b i) -> mkd b j -> ¬ mkd a j -> cntT a < cntT b
 | [],[],j,_,_,hb,_ => by simp [mkd] at hb
 | [],_ :: _,_,h,_,_,_ => by simp at h
 | _ :: _,[],_,h,_,_,_ => by simp at h
 | x :: a,y :: b,j,h,hs,hb,ha => by
  have le : ∀ {a b : List Bool},a.length = b.length -> (∀ i,mkd a i -> mkd b i) -> cntT a <= cntT b:=by
   intro a
   induction a with
   | nil => intro b _ _; simp [cntT]
   | cons x a ih =>
    intro b hl h
    cases b with
    | nil => simp at hl
    | cons y b =>
     have h1:=ih (b:=b) (by simpa using hl) (fun i hi => by have:=h (i + 1) (by simpa [mkd] using hi); simpa [mkd] using this)
     have h0:=h 0
     simp only [mkd,List.getElem?_cons_zero,Option.some.injEq] at h0
     simp only [cntT,List.filter_cons] at h1 ⊢
     cases x <;> cases y <;> simp at h0 ⊢ <;> omega
  have h0:=hs 0
  simp only [mkd,List.getElem?_cons_zero,Option.some.injEq] at h0
  have hs1 : ∀ i,mkd a i -> mkd b i:=fun i hi => by have:=hs (i + 1) (by simpa [mkd] using hi); simpa [mkd] using this
  have hl : a.length = b.length:=by simpa using h
  cases j with
  | zero =>
   have h1:=le hl hs1
   simp only [mkd,List.getElem?_cons_zero,Option.some.injEq] at hb ha
   subst hb
   simp only [cntT,List.filter_cons] at h1 ⊢
   cases x <;> simp at ha ⊢
   omega
  | succ j =>
   have h1:=cntT_lt hl hs1 (j:=j) (by simpa [mkd] using hb) (by simpa [mkd] using ha)
   simp only [cntT,List.filter_cons] at h1 ⊢
   cases x <;> cases y <;> simp at h0 ⊢ <;> omega
def rnk (s : Setup) (k : Nat) : Nat:=cntT (rch s k)
theorem loopsGo_none {s : Setup} : ∀ {l : List Tenant} {i : Nat},loopsGo s i l = none -> ∀ j,j < l.length -> ¬ mkd (rch s ((i + j : Nat) : Int)) (i + j)
 | [],_,_,j,hj => by simp at hj
 | x :: r,i,h,j,hj => by
  rw [loopsGo] at h
  split at h
  ·cases h
  ·rename_i hn
   cases j with
   | zero =>
    intro hm
    unfold mkd at hm
    apply hn
    simp at hm ⊢
    rw [hm]; rfl
   | succ j =>
    have:=loopsGo_none h j (by simpa using hj)
    rwa [show i + 1 + j = i + (j + 1) by omega] at this
theorem R19.rank {s : Setup} (h : R19 s) {k : Nat} (hk : k < s.tenants.length) {c : Contract} (hc : c ∈ s.contracts) (hs : c.src = (tenAt s (k : Int)).name) : rnk s (tenI s c.dst).toNat < rnk s k:=by
 have hd : ∀ c ∈ s.contracts,0 <= tenI s c.dst:=fun c hc => (conE_dst (h.con c hc)).2
 obtain ⟨g1,g2⟩:=rch_closed hd hk
 obtain ⟨v,_,_,_,hv⟩:=tenI_get (hd c hc)
 have h0:=hd c hc
 have hm:=g1 c hc hs
 have hlt : (tenI s c.dst).toNat < s.tenants.length:=by omega
 have hn:=loopsGo_none h.loop (tenI s c.dst).toNat hlt
 rw [Nat.zero_add] at hn
 exact cntT_lt (by rw [rch_len,rch_len]) (rch_min (fun d hd2 hs2 => g2 _ hm d hd2 hs2) g2) hm hn
end Go.AI
namespace Go.AI
open Go.Proofs
set_option maxRecDepth 50000
def chG (s : Setup) (b : Nat) : Nat -> Nat -> List Int -> List (List Int)
 | 0,_,_ => []
 | f + 1,a,ch => if a = b then [ch] else (s.contracts.zipIdx).flatMap fun p => if p.1.src = (tenAt s (a : Int)).name then chG s b f (tenI s p.1.dst).toNat (ch ++ [(p.2 : Int)]) else []
def chR (s : Setup) (b f a : Nat) (ch : List Int) (i : Nat) (r : List Contract) : List (List Int) :=
 (r.zipIdx i).flatMap fun p => if p.1.src = (tenAt s (a : Int)).name then chG s b f (tenI s p.1.dst).toNat (ch ++ [(p.2 : Int)]) else []
theorem chR_nil (s : Setup) (b f a : Nat) (ch : List Int) (i : Nat) : chR s b f a ch i [] = []:=rfl
theorem chR_cons (s : Setup) (b f a : Nat) (ch : List Int) (i : Nat) (c : Contract) (r : List Contract) : chR s b f a ch i (c :: r) = (if c.src = (tenAt s (a : Int)).name then chG s b f (tenI s c.dst).toNat (ch ++ [(i : Int)]) else []) ++ chR s b f a ch (i + 1) r:=by
 simp [chR,List.zipIdx_cons]
theorem chG_at (s : Setup) (b f : Nat) (ch : List Int) : chG s b (f + 1) b ch = [ch]:=by rw [chG,if_pos rfl]
theorem chG_ne {s : Setup} {b f a : Nat} {ch : List Int} (h : a ≠ b) : chG s b (f + 1) a ch = chR s b f a ch 0 s.contracts:=by rw [chG,if_neg h]; rfl
theorem p_CloneI (l : List Int) (hl : l.length <= 1048576) : PCall Tryz.prog 31 [.sl none (lI64 l)] (.sl (some 1) (lI64 l)):=fun H =>
 p_CloneA _ (lI64_cells l) (by rw [lI64_len]; exact hl) H
set_option maxHeartbeats 2000000 in
theorem p_chainsW (s : Setup) (hs : bulkL s.c <= 1048576) (hR : R19 s) (b o ya fo n os ob : Nat) (L : LoopRec) (Pre : Nat -> Heap -> Prop) (Qp : Heap -> Prop) (l : List (List Int))
  (hS : ∀ k pre,Pre k pre -> pre[os]? = some (some s.c) /\ pre[ob]? = some (some [.int .i64 (b : Int)]))
  (round : ∀ g k y H,l[k]? = some y -> Iv Pre n g k H -> YCall Tryz.prog o L [.sl (some 1) (lI64 y)] H fun v H' => (v = .bool true /\ Iv Pre n g (k + 1) H') \/ (v = .bool false /\ Iv (fun _ => Qp) n g 0 H')) :
  ∀ (f a : Nat) (ch : List Int) (k : Nat) (H g : Heap) (rest : List (List Int)),a < s.tenants.length -> rnk s a < f -> ch.length + f <= 1048577 -> g[ya]? = some (some [.yld o L]) ->
   g[fo]? = some (some [.fn (.func 63) [] [.ptr ob 0,.ptr (n + ya) 0,.ptr os 0,.ptr (n + fo) 0]]) -> l.drop k = chG s b f a ch ++ rest -> Iv Pre n g k H ->
   ACall Tryz.prog 63 [.int .i64 (a : Int),.sl none (lI64 ch),.ptr ob 0,.ptr (n + ya) 0,.ptr os 0,.ptr (n + fo) 0] H fun v H' => (v = .bool true /\ Iv Pre n g (k + (chG s b f a ch).length) H') \/ (v = .bool false /\ Iv (fun _ => Qp) n g 0 H'):=by
 intro f
 induction f with
 | zero => intro a ch k H g rest ha hr; omega
 | succ f ih =>
 intro a ch k H g rest ha hr hch hya hfo hd hI
 have hnc : s.contracts.length <= 1048576:=lContract_bn (Setup.bl_contracts hs)
 have hnt : s.tenants.length <= 1048576:=lTenant_bn (Setup.bl_tenants hs)
 have rdS : ∀ {k : Nat} {H : Heap},Iv Pre n g k H -> ∀ z,(H ++ z)[os]? = some (some s.c) /\ (H ++ z)[ob]? = some (some [.int .i64 (b : Int)]):=fun h z => by
  obtain ⟨pre,g',rfl,h1,h2⟩:=h
  obtain ⟨e1,e2⟩:=hS _ _ h2
  have l1:=(List.getElem?_eq_some_iff.1 e1).1
  have l2:=(List.getElem?_eq_some_iff.1 e2).1
  rw [List.append_assoc,List.getElem?_append_left l1,List.getElem?_append_left l2]
  exact ⟨e1,e2⟩
 obtain ⟨e1,e2⟩:=rdS hI []
 rw [List.append_nil] at e1 e2
 have y1:=hI.at hya
 refine aC h63_k rfl ?_
 by_cases hab : a = b
 ·subst hab
  rw [chG_at] at hd
  have hk : l[k]? = some ch:=by
   have:=congrArg (·[0]?) hd
   simpa using this
  have hr:=round g k ch H hk hI
  have he : ((a : Int) == (a : Int)) = true:=by simp
  simp only [Tryz.f63,go_sem,e1,e2,y1,he]
  refine pK (p_CloneI ch (by omega)) ?_
  simp only [go_sem,e1,e2,y1,he]
  refine YCallK.intro hr fun v H' hq => ?_
  simp only [go_sem]
  rcases hq with ⟨rfl,hq⟩ | ⟨rfl,hq⟩
  ·refine .inl ⟨rfl, ?_⟩
   rw [chG_at]; exact hq
  ·exact .inr ⟨rfl,hq⟩
 ·have he : ((a : Int) == (b : Int)) = false:=by simp; omega
  rw [chG_ne hab] at hd ⊢
  simp only [Tryz.f63,go_sem,e1,e2,y1,he]
  refine awp_lst s.contracts (fun (_ : Heap × Nat) (_ : List Contract) => ()) (fun i q => Iv Pre n g q.2 q.1 /\ q.2 + (chR s b f a ch i (s.contracts.drop i)).length = k + (chR s b f a ch 0 s.contracts).length /\ l.drop q.2 = chR s b f a ch i (s.contracts.drop i) ++ rest)
   (fun i q => [(0,.int .i64 (a : Int)),(1,.sl none (lI64 ch)),(4,.ptr os 0),(5,.ptr (n + fo) 0),(21,.sl none (lContract s.contracts)),(22,.int .i64 s.contracts.length),(23,.int .i64 i)]) (fun _ q => q.1) (H,k) (by omega) ⟨hI,rfl,hd⟩ rfl rfl ?_ ?_
  ·rintro i ⟨H2,k2⟩ c cs hdi hcx ⟨hi2,hk2,hl2⟩ _ h0 h1 hwr
   dsimp only at hi2 hk2 hl2 ⊢
   have hcm:=List.mem_of_getElem? hcx
   rw [hdi,chR_cons] at hk2 hl2
   have hdi2 : s.contracts.drop (i + 1) = cs:=by rw [<- List.drop_drop,hdi]; rfl
   obtain ⟨u,hu⟩ : ∃ u,s.tenants[a]? = some u:=⟨_,List.getElem?_eq_getElem ha⟩
   have hu2:=lTenant_get hu
   have hua : tenAt s (a : Int) = u:=tenAt_get hu
   have ha0 : (0 : Int) <= (a : Int):=by omega
   have eS:=fun z => (rdS hi2 z).1
   have eF:=hi2.atG (x:=[some c.c]) hfo
   have q0:=q_0 H2
   have hdst:=(conE_dst (hR.con c hcm)).2
   obtain ⟨v,_,_,_,hv⟩:=tenI_get hdst
   have qT:=p_Tenant s c.dst (by omega)
   rw [tenR,imax0 hdst,decide_eq_true hdst] at qT
   obtain ⟨m,hm⟩ : ∃ m : Nat,tenI s c.dst = (m : Int):=⟨(tenI s c.dst).toNat,by omega⟩
   rw [hm] at qT hv
   have hlen : (lI64 ch).length = ch.length:=lI64_len ch
   simp only [go_sem,h0,h1,lContract_get hcx,eS,eF,q0,hu2,ha0,toList_beq]
   repeat' (first
    | (refine pK qT ?_; simp only [go_sem,h0,h1,lContract_get hcx,eS,eF,q0,hu2,ha0,toList_beq,hlen,hwr])
    | ((first | refine cS ?_ ?_ | refine gS ?_ ?_) <;> (intro hc; simp only [go_sem,hc,h0,h1,lContract_get hcx,eS,eF,q0,hu2,ha0,toList_beq,hlen,hwr])))
   ·have hne : ¬ c.src = u.name:=by simpa using hc
    rw [if_neg (by rw [hua]; exact hne),List.nil_append] at hk2 hl2
    exact ⟨(H2 ++ [some c.c],k2),⟨hi2.grow _,by rw [hdi2]; exact hk2,by rw [hdi2]; exact hl2⟩,rfl,rfl⟩
   ·have heq : c.src = u.name:=by simpa using hc
    rw [if_pos (by rw [hua]; exact heq),hm,Int.toNat_natCast] at hk2 hl2
    have hrk:=hR.rank ha hcm (by rw [hua]; exact heq)
    rw [hm,Int.toNat_natCast] at hrk
    have ihm:=ih m (ch ++ [(i : Int)]) k2 (H2 ++ [some c.c]) g (chR s b f a ch (i + 1) cs ++ rest) (by omega) (by omega) (by simp; omega) hya hfo (by rw [hl2,List.append_assoc]) (hi2.grow _)
    refine ⟨by omega,by omega,by omega, ?_⟩
    refine ACallK.intro (ACall.weak (vs:=[.int .i64 (m : Int),.sl (some 1) (lI64 (ch ++ [(i : Int)])),.ptr ob 0,.ptr (n + ya) 0,.ptr os 0,.ptr (n + fo) 0]) ihm) fun v H3 hq => ?_
    rcases hq with ⟨rfl,hi3⟩ | ⟨rfl,hq3⟩
    ·simp only [go_sem,Bool.not_true,hwr]
     refine ⟨(H3,k2 + (chG s b f m (ch ++ [(i : Int)])).length),⟨hi3, ?_, ?_⟩,rfl,rfl⟩
     ·dsimp only; rw [hdi2]; rw [List.length_append] at hk2; omega
     ·dsimp only; rw [hdi2,<- List.drop_drop,hl2,List.append_assoc,List.drop_left]
    ·simp only [go_sem,Bool.not_false]
     exact .inr hq3
  ·rintro ⟨H2,k2⟩ ⟨hi2,hk2,hl2⟩ _
   dsimp only at hi2 hk2 hl2 ⊢
   rw [List.drop_length,chR_nil,List.length_nil,Nat.add_zero] at hk2
   subst hk2
   simp only [go_sem,Int.lt_irrefl,decide_false]
   exact .inl hi2
theorem p_chains (s : Setup) (a b : Nat) (H : Heap) : ACall Tryz.prog 34 [.agg s.c,.int .i64 (a : Int),.int .i64 (b : Int)] H (fun v H' => v = .fn (.func 62) [] [.ptr (H.length + 2) 0,.ptr H.length 0,.ptr (H.length + 1) 0] /\ H' = H ++ [some s.c,some [.int .i64 (a : Int)],some [.int .i64 (b : Int)]]):=by
 refine aC h34_k rfl ?_
 simp only [Tryz.f34,go_sem,List.length_append,List.append_assoc,List.cons_append,List.nil_append,List.length_cons,List.length_nil,Nat.add_assoc,Nat.reduceAdd]
 all_goals first | rfl | exact ⟨rfl,rfl⟩ | skip
theorem p_chainsIt (s : Setup) (hs : bulkL s.c <= 1048576) (hR : R19 s) (a b o n os oa ob : Nat) (ha : a < s.tenants.length) (L : LoopRec) (Pre : Nat -> Heap -> Prop) (Qp : Heap -> Prop) (H0 : Heap) (hn : H0.length = n) (h0 : Pre 0 H0)
  (hS : ∀ k pre,Pre k pre -> pre[os]? = some (some s.c) /\ pre[ob]? = some (some [.int .i64 (b : Int)])) (hA : H0[oa]? = some (some [.int .i64 (a : Int)]))
  (round : ∀ g k y H,(chG s b (s.tenants.length + 1) a [])[k]? = some y -> Iv Pre n g k H -> YCall Tryz.prog o L [.sl (some 1) (lI64 y)] H fun v H' => (v = .bool true /\ Iv Pre n g (k + 1) H') \/ (v = .bool false /\ Iv (fun _ => Qp) n g 0 H'))
  (fin : ∀ pre,Pre (chG s b (s.tenants.length + 1) a []).length pre -> Qp pre) : ACall Tryz.prog 62 [.yld o L,.ptr ob 0,.ptr os 0,.ptr oa 0] H0 (fun _ H' => ∃ pre g,H' = pre ++ g /\ pre.length = n /\ Qp pre):=by
 subst hn
 have hnt : s.tenants.length <= 1048576:=lTenant_bn (Setup.bl_tenants hs)
 have hlt:=(List.getElem?_eq_some_iff.1 hA).1
 have e1 : ∀ z : Heap,(H0 ++ z)[oa]? = some (some [.int .i64 (a : Int)]):=fun z => by rw [List.getElem?_append_left hlt]; exact hA
 have hrk : rnk s a < s.tenants.length + 1:=by
  have:=cntT_le (rch s a)
  rw [rch_len] at this
  unfold rnk; omega
 refine aC h62_k rfl ?_
 have e2 : ∀ u v : Option (List AV),(H0 ++ [u,v])[H0.length + 1]? = some v:=fun u v => by rw [List.getElem?_append_right (by omega),Nat.add_sub_cancel_left]; rfl
 have e3 : ∀ u v z : Option (List AV),(H0 ++ [u,v]).set (H0.length + 1) z = H0 ++ [u,z]:=fun u v z => by rw [List.set_append_right _ _ (by omega),Nat.add_sub_cancel_left]; rfl
 simp only [Tryz.f62,go_sem,List.length_append,List.append_assoc,List.cons_append,List.nil_append,e1,e2,e3]
 have hw:=p_chainsW s hs hR b o 0 1 H0.length os ob L Pre Qp (chG s b (s.tenants.length + 1) a []) hS round (s.tenants.length + 1) a [] 0 (H0 ++ [some [.yld o L],some [.fn (.func 63) [] [.ptr ob 0,.ptr (H0.length + 0) 0,.ptr os 0,.ptr (H0.length + 1) 0]]])
  [some [.yld o L],some [.fn (.func 63) [] [.ptr ob 0,.ptr (H0.length + 0) 0,.ptr os 0,.ptr (H0.length + 1) 0]]] [] ha hrk (by simp; omega) rfl rfl (by simp) ⟨H0,[],by simp,rfl,h0⟩
 refine ACallK.intro hw fun v H' hr => ?_
 simp only [go_sem]
 rcases hr with ⟨rfl,pre,g',rfl,h1,h2⟩ | ⟨rfl,pre,g',rfl,h1,h2⟩
 ·exact ⟨pre,_,rfl,h1,fin pre (by rwa [Nat.zero_add] at h2)⟩
 ·exact ⟨pre,_,rfl,h1,h2⟩
end Go.AI
namespace Go.AI
open Go.Proofs
set_option maxRecDepth 50000
def lCh (l : List (List Int)) : List AV:=l.map fun c => .sl none (lI64 c)
theorem lCh_len (l : List (List Int)) : (lCh l).length = l.length:=by simp [lCh]
theorem lCh_snoc (l : List (List Int)) (c : List Int) : lCh l ++ [.sl none (lI64 c)] = lCh (l ++ [c]):=by simp [lCh]
@[go_sem] theorem lCh_pure (l : List (List Int)) : pureL (lCh l) = true:=by
 induction l with
 | nil => rfl
 | cons c l ih => simp only [lCh,List.map_cons,pureL,AV.pure,lI64_pure,Bool.true_and]; exact ih
def chB (s : Setup) (a b : Nat) (r : List AV) (e : Int) (out : List (List Int)) (st : Int) : Heap :=
 [some s.c,some [.sl (some 1) r],some [.int .i64 e],some [.sl (some 1) (lCh out)],some s.c,some [.int .i64 (a : Int)],some [.int .i64 (b : Int)],some (loopc st (frameVals 23 [(6,.ptr 1 0),(7,.ptr 2 0),(8,.ptr 3 0),(13,.fn (.func 62) [] [.ptr 6 0,.ptr 4 0,.ptr 5 0])]))]
def chnR (l : List (List Int)) : AV:=if 200 < l.length then .tup [.sl none [],.int .i64 2] else .tup [.sl none (lCh l),.int .i64 0]
theorem chnR_pure (l : List (List Int)) : (chnR l).pure = true:=by
 unfold chnR; split
 ·rfl
 ·simp only [AV.pure,pureL,lCh_pure,Bool.and_true]
theorem p_Chains (s : Setup) (hs : bulkL s.c <= 1048576) (hR : R19 s) (a b : Nat) (ha : a < s.tenants.length) : PCall Tryz.prog 9 [.agg s.c,.int .i64 (a : Int),.int .i64 (b : Int)] (chnR (chG s b (s.tenants.length + 1) a [])):=by
 have c1:=p_chains s a b [some s.c,some [.sl (some 1) []],some [.int .i64 0],some [.sl (some 1) []]]
 generalize hl : chG s b (s.tenants.length + 1) a [] = l
 refine pB h9_k rfl ?_ (hv:=chnR_pure l)
 simp only [Tryz.f9,go_sem]
 refine ACallK.intro c1 fun v H' hq => ?_
 obtain ⟨rfl,rfl⟩:=hq
 simp only [go_sem]
 refine rfK_intro (tag:=9) rfl (ACall.mono (p_chainsIt s hs hR a b 7 8 4 5 6 ha _ (fun k pre => pre = chB s a b [] 0 (l.take k) 0 /\ k <= 200) (fun pre => (pre = chB s a b [] 0 l 0 /\ l.length <= 200) \/ (∃ out,pre = chB s a b [] 2 out (-2) /\ 200 < l.length)) (chB s a b [] 0 [] 0) rfl ⟨rfl,by omega⟩ ?_ rfl ?_ ?_) fun v H2 hq => ?_)
 ·rintro k pre ⟨rfl,_⟩; exact ⟨rfl,rfl⟩
 ·rw [hl]
  rintro g k y H hy ⟨pre,g',rfl,hn,rfl,hk⟩
  have hkl:=(List.getElem?_eq_some_iff.1 hy).1
  have htk : l.take (k + 1) = l.take k ++ [y]:=by
   rw [List.take_add_one,hy]; rfl
  refine ycall_of_awp (h:=h9) (n:=23) mixed rfl ⟨by kernel_rfl,by kernel_rfl⟩ (by decide) _ _ _ _ rfl rfl rfl ?_
  show awp _ _ _ _ _ _ [(14,.sl (some 1) (lI64 y)),(0,.undef),(1,.undef),(2,.undef),(3,.undef),(4,.undef),(5,.undef),(6,.ptr 1 0),(7,.ptr 2 0),(8,.ptr 3 0),(9,.undef),(10,.undef),(11,.undef),(12,.undef),(13,.fn (.func 62) [] [.ptr 6 0,.ptr 4 0,.ptr 5 0]),(14,.undef),(15,.undef),(16,.undef),(17,.undef),(18,.undef),(19,.undef),(20,.undef),(21,.undef),(22,.undef)] _
  generalize hG : g ++ g' = G
  have hkl2 : (lCh (l.take k)).length = k:=by rw [lCh_len,List.length_take]; omega
  have hsn : lCh (l.take k) ++ [.sl none (lI64 y)] = lCh (l.take (k + 1)):=by rw [lCh_snoc,htk]
  have hkl3 : (lCh (l.take (k + 1))).length = k + 1:=by rw [lCh_len,List.length_take]; omega
  by_cases h200 : k = 200
  ·have hd2 : (200 : Int) < ((k + 1 : Nat) : Int):=by omega
   simp only [go_sem,chB,hsn,hkl2,hkl3,hd2]
   exact ⟨_,rfl,by omega,by omega,_,rfl,.inr ⟨chB s a b [] 2 (l.take (k + 1)) (-2),g',by rw [<- hG]; rfl,rfl,.inr ⟨_,rfl,by omega⟩⟩⟩
  ·have hd2 : ¬ (200 : Int) < ((k + 1 : Nat) : Int):=by omega
   simp only [go_sem,chB,hsn,hkl2,hkl3,hd2,decide_false]
   exact ⟨_,rfl,by omega,by omega,_,rfl,.inl ⟨chB s a b [] 0 (l.take (k + 1)) 0,g',by rw [<- hG]; rfl,rfl,rfl,by omega⟩⟩
 ·rw [hl]
  rintro pre ⟨rfl,hk⟩
  exact .inl ⟨by rw [List.take_length],hk⟩
 ·obtain ⟨pre,g,rfl,hn,hq⟩:=hq
  rcases hq with ⟨rfl,h⟩ | ⟨out,rfl,h⟩
  ·refine ⟨0,_,rfl,.inl ⟨rfl, ?_⟩⟩
   rw [chnR,if_neg (by omega)]
   simp only [go_sem,chB]
  ·refine ⟨-2,_,rfl,.inr (.inl ⟨rfl, ?_⟩)⟩
   rw [chnR,if_pos h]
   simp only [go_sem,chB]
end Go.AI
