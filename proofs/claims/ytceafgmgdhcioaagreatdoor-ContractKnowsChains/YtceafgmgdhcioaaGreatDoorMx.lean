/- What the specification of layer 19 checks, in plain Lean. -/
import Derived.Test.YtceafgmgdhcioaaGreatDoorMg
import Derived.Test.YtceafgmgdhcioaaGreatDoorMp
import Derived.Test.YtceafgmgdhcioaaGreatDoorMf
import Derived.Test.YtceafgmgdhcioaaGreatDoorMy
import Derived.Test.YtceafgmgdhcioaaGreatDoorMe
import Derived.Test.YtceafgmgdhcioaaGreatDoorMt
set_option linter.unusedSimpArgs false
set_option linter.unusedVariables false
namespace Go.AI
section
variable {P : Program} {t : TypeId} {x y : ByteArray} {d : Tmp} {K : Kt} {e : Env} {H : Heap}
@[go_sem] theorem binK_sgeq : binK P .geq t (.str x) (.str y) d K e H = K ((d,.bool !(Op.bytesLess x.toList y.toList)) :: e) H:=by rw [binK_str]; simp [abin]
end
def few19 (s : Setup) : Bool :=
 fewN s.network 20 40 20 && (decide ((s.fields.length : Int) <= 20) && (decide ((s.tenants.length : Int) <= 8) && (decide ((s.contracts.length : Int) <= 12) && (s.tenants.all fewT && s.contracts.all fun c => fewP c.pred))))
def tenI (s : Setup) (nm : ByteArray) : Int:=idxI (fun t : Tenant => decide (t.name = nm)) s.tenants
def tenAt (s : Setup) (k : Int) : Tenant:=(s.tenants[k.toNat]?).getD Tenant.z
theorem idxGo_lt {α : Type} (p : α -> Bool) : ∀ (l : List α) (i : Nat),idxGo p i l = -1 \/ ∃ j x,l[j]? = some x /\ p x = true /\ idxGo p i l = ((i + j : Nat) : Int) /\ ∀ m y,m < j -> l[m]? = some y -> p y = false
 | [],i => .inl rfl
 | x :: l,i => by
  rw [idxGo]
  cases h : p x with
  | true => exact .inr ⟨0,x,rfl,h,by simp,fun m y hm => by omega⟩
  | false =>
   rcases idxGo_lt p l (i + 1) with h1 | ⟨j,y,h1,h2,h3,h4⟩
   ·exact .inl (by simpa using h1)
   ·refine .inr ⟨j + 1,y,h1,h2,by rw [if_neg (by simp),h3]; congr 1; omega,fun m z hm hz => ?_⟩
    cases m with
    | zero => simp at hz; subst hz; exact h
    | succ m => exact h4 m z (by omega) (by simpa using hz)
theorem idxI_cases {α : Type} (p : α -> Bool) (l : List α) : (idxI p l = -1 /\ ∀ y ∈ l,p y = false) \/ ∃ (j : Nat) (x : α),j < l.length /\ l[j]? = some x /\ p x = true /\ idxI p l = (j : Int) /\ ∀ (m : Nat) (y : α),m < j -> l[m]? = some y -> p y = false:=by
 rcases idxGo_lt p l 0 with h | ⟨j,x,h1,h2,h3,h4⟩
 ·refine .inl ⟨h,fun y hy => ?_⟩
  have h2:=idxGo_any p l 0
  rw [h] at h2
  have h3 : l.any p = false:=by rw [<- h2]; rfl
  rw [List.any_eq_false] at h3
  simpa using h3 y hy
 ·exact .inr ⟨j,x,(List.getElem?_eq_some_iff.1 h1).1,h1,h2,by unfold idxI; rw [h3]; simp,h4⟩
def clash19 (s : Setup) (k : Nat) (t : Tenant) : Bool:=t.ports.any fun p => (s.tenants.take k).any fun u => decide (0 <= p.edge) && decide (0 <= portOf u p.edge)
def prevB (s : Setup) (k : Nat) (t : Tenant) : Bool:=decide (0 < k) && !ltB (tenAt s ((k : Int) - 1)).name t.name
def tenE (s : Setup) (k : Nat) (t : Tenant) : Int :=
 if ck18 s t ≠ 0 then ck18 s t else if (bWhole t).2 ≠ 0 then (bWhole t).2 else if prevB s k t = true then 4 else if clash19 s k t = true then 10 else 0
def tensGo (s : Setup) : Nat -> List Tenant -> Option (Int × Int)
 | _,[] => none
 | k,t :: r => if tenE s k t ≠ 0 then some ((k : Int),tenE s k t) else tensGo s (k + 1) r
def outB (t : Tenant) (n : Int) : Bool:=decide (0 <= n) && (decide (n < (t.ports.length : Int)) && decide (0 <= edgeAt t n))
def boxAt (s : Setup) (n : Int) : Bool:=((s.network.nodes[n.toNat]?).map (·.box)).getD false
def viaB (s : Setup) (c : Contract) : Bool :=
 decide (-1 <= c.via) && (decide (c.via < (s.network.nodes.length : Int)) && ((decide (c.via < 0) || boxAt s c.via) && (decide (0 <= c.capacity) && (decide (c.capacity <= 1048576) && (decide (0 <= c.price) && decide (c.price <= 1000))))))
def conE (s : Setup) (c : Contract) : Int :=
 if tenI s c.src < 0 \/ tenI s c.dst < 0 then 9
 else if tenI s c.src = tenI s c.dst \/ outB (tenAt s (tenI s c.src)) c.fromPort = false \/ outB (tenAt s (tenI s c.dst)) c.toPort = false then 1
 else if ckTP s.fields c.pred ≠ 0 then ckTP s.fields c.pred
 else if viaB s c = false then 1 else 0
def consGo (s : Setup) : Nat -> List Contract -> Option (Int × Int)
 | _,[] => none
 | k,c :: r => if conE s c ≠ 0 then some ((k : Int),conE s c) else consGo s (k + 1) r
def rchC (s : Setup) (nm : ByteArray) : List Contract -> List Bool × List Int -> List Bool × List Int
 | [],x => x
 | c :: r,x => rchC s nm r (if c.src = nm /\ (x.1[(tenI s c.dst).toNat]?).getD true = false then (x.1.set (tenI s c.dst).toNat true,x.2 ++ [imax (tenI s c.dst) 0]) else x)
def rchGo (s : Setup) : Nat -> Nat -> List Bool × List Int -> List Bool
 | 0,_,x => x.1
 | f + 1,i,x => match x.2[i]? with
  | none => x.1
  | some a => rchGo s f (i + 1) (rchC s (tenAt s a).name s.contracts x)
def rch (s : Setup) (k : Int) : List Bool:=rchGo s (s.tenants.length + 2) 0 (List.replicate s.tenants.length false,[k])
def loopsGo (s : Setup) : Nat -> List Tenant -> Option (Int × Int)
 | _,[] => none
 | k,_ :: r => if ((rch s k)[k]?).getD true = true then some (0,21) else loopsGo s (k + 1) r
def ck19 (s : Setup) : Int × Int :=
 if ckNet s.network ≠ 0 then (0,ckNet s.network) else if ckF s.fields ≠ 0 then (0,ckF s.fields)
 else if 64 < s.tenants.length \/ 100 < s.contracts.length then (0,2)
 else match tensGo s 0 s.tenants with
  | some x => x
  | none => match consGo s 0 s.contracts with
   | some x => x
   | none => (loopsGo s 0 s.tenants).getD (0,0)
def right19 (s : Setup) : Bool:=few19 s && (ck19 s).2 == 0
end Go.AI
namespace Go.AI
open Go.Proofs
set_option maxRecDepth 50000
theorem p_IndexTenant {H : Heap} (l : List Tenant) (hl : l.length <= 9223372036854775807) (g : FuncId) (fi ca : List AV) (p : Tenant -> Bool)
  (h : ∀ x ∈ l,SCall Tryz.prog g (fi.map AV.borrow ++ (.agg x.c :: ca.map AV.borrow)) H (.bool (p x))) :
  SCall Tryz.prog 108 [.sl none (lTenant l),.fn (.func g) fi ca] H (.int .i64 (idxI p l)):=by
 unfold SCall
 refine aC h108_k rfl ?_
 simp only [Tryz.f108,go_sem]
 refine awp_all l (fun r => idxGo p (l.length - r.length) r) (fun k => [(0,.sl none (lTenant l)),(1,.fn (.func g) fi ca),(7,.int .i64 l.length),(8,.int .i64 k)]) hl rfl ?_ ?_
 ·intro k x xs hd hx hF h0 h1 hw
  have hk2:=drop_len hd
  have e1 : l.length - (xs.length + 1) = k:=by omega
  have e2 : l.length - xs.length = k + 1:=by omega
  simp only [List.length_cons,e1,Nat.sub_self] at hF
  simp only [go_sem,h0,h1,lTenant_get hx,e1,e2]
  repeat' (first
   | (refine aS (h x (List.mem_of_getElem? hx)) ?_; simp only [go_sem,h0,h1,hw,lTenant_get hx,e1,e2])
   | ((first | refine cS ?_ ?_ | refine gS ?_ ?_) <;> (intro hc; simp only [go_sem,hc,h0,h1,hw,lTenant_get hx,e1,e2])))
  ·rw [idxI,hF,idxGo,if_pos hc]
  ·rw [idxGo,if_neg (by rw [hc]; decide)]
 ·intro hF hlt
  simp only [go_sem,hlt,decide_false]
  rw [Nat.sub_self] at hF
  rw [idxI,hF]; rfl
end Go.AI
namespace Go.AI
open Go.Proofs
set_option maxRecDepth 50000
theorem c_few19 (s : Setup) : PCall Tryz.prog 20 [.agg s.c] (.bool (few19 s)):=by
 refine PCall.fit h20_k.c fun hf => ?_
 have hl1:=Setup.fit_tenants (fit1 hf)
 have hl2:=Setup.fit_contracts (fit1 hf)
 refine pC h20_k rfl ?_
 simp only [Tryz.f20,go_sem]
 repeat' (first
  | (refine pK (c_fewN _ _ _ _) ?_; simp only [go_sem])
  | ((first | refine cS ?_ ?_ | refine gS ?_ ?_) <;> (intro hc; simp only [go_sem,hc])))
 all_goals first
  | rfl
  | (simp only [few19]; rfl)
  | grind [few19]
  | (simp only [few19]; grind)
  | (simp [few19, *]; done)
  | (simp_all [few19]; done)
  | skip
 all_goals
  refine awp_all s.tenants (fun r => r.all fewT) (fun k => [(1,.ptr 0 0),(4,.int .i64 k)]) hl1 rfl ?_ ?_
  ·intro k y ys hd hx hF h0 h1 hw
   simp only [go_sem,h0,h1,lTenant_get hx]
   repeat' (first
    | (refine pK (c_fewT _) ?_; simp only [go_sem,h0,h1,hw,lTenant_get hx])
    | ((first | refine cS ?_ ?_ | refine gS ?_ ?_) <;> (intro hc; simp only [go_sem,hc,h0,h1,hw,lTenant_get hx])))
   all_goals first
    | rfl
    | (simp only [few19,List.all_cons,List.all_nil]; rfl)
    | grind [few19]
    | (simp only [few19,List.all_cons,List.all_nil]; grind)
    | (simp [few19,List.all_cons,List.all_nil, *]; done)
    | (simp_all [few19,List.all_cons,List.all_nil]; done)
    | skip
  ·intro hF hlt
   simp only [go_sem,hlt,decide_false]
   refine awp_all s.contracts (fun r => r.all fun x => fewP x.pred) (fun k => [(1,.ptr 0 0),(6,.int .i64 k)]) hl2 rfl ?_ ?_
   ·intro k y ys hd hx hF h0 h1 hw
    simp only [go_sem,h0,h1,lContract_get hx]
    repeat' (first
     | (refine pK (c_fewP _) ?_; simp only [go_sem,h0,h1,hw,lContract_get hx])
     | ((first | refine cS ?_ ?_ | refine gS ?_ ?_) <;> (intro hc; simp only [go_sem,hc,h0,h1,hw,lContract_get hx])))
    all_goals first
     | rfl
     | (simp only [few19,List.all_cons,List.all_nil]; rfl)
     | grind [few19]
     | (simp only [few19,List.all_cons,List.all_nil]; grind)
     | (simp [few19,List.all_cons,List.all_nil, *]; done)
     | (simp_all [few19,List.all_cons,List.all_nil]; done)
     | skip
   ·intro hF2 hlt2
    simp only [go_sem,hlt2,decide_false]
    repeat' (first
     | ((first | refine cS ?_ ?_ | refine gS ?_ ?_) <;> (intro hc; simp only [go_sem,hc])))
    all_goals first
     | rfl
     | (simp only [few19,List.all_cons,List.all_nil]; rfl)
     | grind [few19]
     | (simp only [few19,List.all_cons,List.all_nil]; grind)
     | (simp [few19,List.all_cons,List.all_nil, *]; done)
     | (simp_all [few19,List.all_cons,List.all_nil]; done)
     | skip
def tenR (k : Int) : AV:=.tup [.int .i64 (imax k 0),.bool (decide (0 <= k))]
theorem c_ten19 (s : Setup) (nm : ByteArray) (hl : s.tenants.length <= 1073741824) : PCall Tryz.prog 63 [.agg s.c,.str nm] (tenR (tenI s nm)):=by
 refine pC h63_k rfl ?_
 simp only [Tryz.f63,go_sem,toList_beq]
 refine awp_all s.tenants (fun r => idxGo (fun t : Tenant => decide (t.name = nm)) (s.tenants.length - r.length) r) (fun k => [(1,.str nm),(2,.ptr 0 0),(6,.int .i64 k)]) (by omega) rfl ?_ ?_
 ·intro k y ys hd hx hF h0 h1 hw
  have hk2:=drop_len hd
  have e1 : s.tenants.length - (ys.length + 1) = k:=by omega
  have e2 : s.tenants.length - ys.length = k + 1:=by omega
  simp only [List.length_cons,e1,Nat.sub_self] at hF
  simp only [go_sem,h0,h1,lTenant_get hx,toList_beq,e1,e2]
  repeat' (first
   | ((first | refine cS ?_ ?_ | refine gS ?_ ?_) <;> (intro hc; simp only [go_sem,hc,h0,h1,hw,lTenant_get hx,toList_beq,e1,e2])))
  ·have h2 : tenI s nm = (k : Int):=by rw [tenI,idxI,hF,idxGo,if_pos hc]
   rw [h2]
   have h3 : imax (k : Int) 0 = k:=by unfold imax; split <;> omega
   rw [tenR,h3,decide_eq_true h0]
  ·rw [idxGo,if_neg (by rw [hc]; decide)]
 ·intro hF hlt
  simp only [go_sem,hlt,decide_false]
  rw [Nat.sub_self] at hF
  have h2 : tenI s nm = -1:=by rw [tenI,idxI,hF]; rfl
  rw [h2]; rfl
theorem c_out19 (t : Tenant) (n : Int) : PCall Tryz.prog 81 [.agg t.c,.int .i64 n] (.bool (outB t n)):=by
 refine pC h81_k rfl ?_
 by_cases h : 0 <= n /\ n < (t.ports.length : Int)
 ·obtain ⟨h0,h1⟩:=h
  obtain ⟨x,hx⟩ : ∃ x,t.ports[n.toNat]? = some x:=⟨_,List.getElem?_eq_getElem (by omega)⟩
  have hg:=lPort_get hx
  have he : edgeAt t n = x.edge:=by simp [edgeAt,hx]
  simp only [Tryz.f81,go_sem,h0,h1,hg]
  repeat' (first
   | ((first | refine cS ?_ ?_ | refine gS ?_ ?_) <;> (intro hc; simp only [go_sem,hc,h0,h1,hg])))
  all_goals (rw [outB,he]; simp [h0,h1])
 ·simp only [Tryz.f81,go_sem]
  repeat' (first
   | ((first | refine cS ?_ ?_ | refine gS ?_ ?_) <;> (intro hc; simp only [go_sem,hc])))
  all_goals first | (simp only [outB]; grind) | skip
end Go.AI
namespace Go.AI
open Go.Proofs
set_option maxRecDepth 50000
theorem tenAt_get {s : Setup} {k : Nat} {t : Tenant} (h : s.tenants[k]? = some t) : tenAt s (k : Int) = t:=by simp [tenAt,h]
set_option maxHeartbeats 4000000 in
theorem c_tenE (s : Setup) (k : Nat) (t : Tenant) (hk : s.tenants[k]? = some t) (hl : okF s.fields) (hs : bulkL s.c <= 1073741824) (hb : bulkL t.c <= 1048576) (hn : s.tenants.length <= 1073741824) : PCall Tryz.prog 42 [.agg s.c, .int .i64 k] (.int .i64 (tenE s k t)) := by
  have hkl : k < s.tenants.length := (List.getElem?_eq_some_iff.1 hk).1
  have hw1 : t.wires.length <= 1073741824 := Nat.le_trans (lWire_bn (Tenant.bl_wires hb)) (by decide)
  have hp1 : t.ports.length <= 1048576 := lPort_bn (Tenant.bl_ports hb)
  have hk1 := lTenant_get hk
  have hk2 : (k : Int) < (s.tenants.length : Int) := by omega
  have hk3 : (0 : Int) <= (k : Int) := by omega
  have hbw : ∀ x ∈ t.program, bulkL (bClosed t x.policy).c <= 1073741824 := fun x hx => bk_closed (by
    have h1 := lStage_bk (Tenant.bl_program hb) hx
    have h2 : bulkL x.c <= 1048576 := by simpa only [AV.bulk] using h1
    exact Stage.bs_policy h2) (Nat.le_trans (lWire_bn (Tenant.bl_wires hb)) (Nat.le_refl _))
  have hpg : t.program.length <= 1073741824 := Nat.le_trans (lStage_bn (Tenant.bl_program hb)) (by decide)
  have q1 := c_ck18 s t hl hs (Nat.le_trans hb (by decide))
  have q2 := q_Whole t hw1 hpg hbw
  have htk : (s.tenants.take k).length = k := by rw [List.length_take]; omega
  refine pC h42_k rfl ?_
  cases q3 : (ck18 s t != 0) with
  | true =>
    simp only [Tryz.f42, go_sem, hk1, hk2, hk3]
    repeat' (first
      | ((first | refine pK (q1) ?_ | refine pK (q2) ?_); simp only [go_sem, hk1, hk2, hk3, q3])
      | ((first | refine cS ?_ ?_ | refine gS ?_ ?_) <;> (intro hc; simp only [go_sem, hc, hk1, hk2, hk3, q3])))
    rw [tenE, if_pos (by simpa using q3)]
  | false =>
  cases q4 : ((bWhole t).2 != 0) with
  | true =>
    simp only [Tryz.f42, go_sem, hk1, hk2, hk3]
    repeat' (first
      | ((first | refine pK (q1) ?_ | refine pK (q2) ?_); simp only [go_sem, hk1, hk2, hk3, q3, q4])
      | ((first | refine cS ?_ ?_ | refine gS ?_ ?_) <;> (intro hc; simp only [go_sem, hc, hk1, hk2, hk3, q3, q4])))
    rw [tenE, if_neg (by simpa using q3), if_pos (by simpa using q4)]
  | false =>
  rcases Nat.eq_zero_or_pos k with hz | hz
  · have hgt : decide ((0 : Int) < (k : Int)) = false := decide_eq_false (by omega)
    have q5 : prevB s k t = false := by unfold prevB; simp [hz]
    simp only [Tryz.f42, go_sem, hk1, hk2, hk3]
    repeat' (first
      | ((first | refine pK (q1) ?_ | refine pK (q2) ?_); simp only [go_sem, hk1, hk2, hk3, q3, q4, hgt])
      | ((first | refine cS ?_ ?_ | refine gS ?_ ?_) <;> (intro hc; simp only [go_sem, hc, hk1, hk2, hk3, q3, q4, hgt])))
    refine awp_all t.ports (fun r => r.any fun p => (s.tenants.take k).any fun u => decide (0 <= p.edge) && decide (0 <= portOf u p.edge)) (fun i => [(1, .int .i64 k), (2, .ptr 0 0), (5, .ptr 1 0), (9, .int .i64 i)]) (by omega) rfl ?_ ?_
    · intro i y ys hd hy hF h0 h1 hw
      have hy2 := lPort_get hy
      simp only [go_sem, h0, h1, hy2]
      refine awp_all (s.tenants.take k) (fun r => r.any fun u => decide (0 <= y.edge) && decide (0 <= portOf u y.edge)) (fun j => [(1, .int .i64 k), (2, .ptr 0 0), (5, .ptr 1 0), (9, .int .i64 i), (10, .int .i64 j)]) (by omega) rfl ?_ ?_
      · intro j u us hd3 hu3 hF3 g0 g1 gw
        have g1' : (j : Int) < (k : Int) := by omega
        have hu4 : s.tenants[j]? = some u := by
          rw [List.getElem?_take] at hu3
          split at hu3
          · exact hu3
          · cases hu3
        have hu5 := lTenant_get hu4
        simp only [go_sem, g0, g1', hy2, h0, hu5]
        repeat' (first
          | (refine pK (c_Port18 u y.edge) ?_; simp only [go_sem, h0, h1, hy2, g0, g1', gw, hu5])
          | ((first | refine cS ?_ ?_ | refine gS ?_ ?_) <;> (intro hc; simp only [go_sem, hc, h0, h1, hy2, g0, g1', gw, hu5])))
        all_goals first
          | (have e1 : clash19 s k t = true := by
               unfold clash19; rw [hF, List.any_cons, hF3, List.any_cons]
               simp_all
             simp only [decide_eq_true_eq] at *
             rw [tenE, if_neg (by simpa using q3), if_neg (by simpa using q4), if_neg (by rw [q5]; decide), if_pos e1])
          | (rw [List.any_cons]; simp_all; done)
          | skip
      · intro hF3 hlt
        have hlt2 : ¬ ((s.tenants.take k).length : Int) < (k : Int) := by omega
        simp only [go_sem, hlt2, decide_false, hw]
        have hF4 : ((s.tenants.take k).any fun u => decide (0 <= y.edge) && decide (0 <= portOf u y.edge)) = false := hF3
        rw [hF4]; rfl
    · intro hF hlt
      simp only [go_sem, hlt, decide_false]
      have e1 : clash19 s k t = false := by unfold clash19; rw [hF]; rfl
      rw [tenE, if_neg (by simpa using q3), if_neg (by simpa using q4), if_neg (by rw [q5]; decide), if_neg (by rw [e1]; decide)]
  · obtain ⟨u, hu⟩ : ∃ u, s.tenants[k - 1]? = some u := ⟨_, List.getElem?_eq_getElem (by omega)⟩
    have hgt : decide ((0 : Int) < (k : Int)) = true := decide_eq_true (by omega)
    have hw1 : IntKind.i64.wrap ((k : Int) - 1) = ((k - 1 : Nat) : Int) := by rw [w64 (by omega) (by omega)]; omega
    have hw0 : (0 : Int) <= ((k - 1 : Nat) : Int) := by omega
    have hu2 := lTenant_get hu
    have hu3 : tenAt s ((k : Int) - 1) = u := by
      have : ((k : Int) - 1) = ((k - 1 : Nat) : Int) := by omega
      rw [this]; exact tenAt_get hu
    cases q5 : prevB s k t with
    | true =>
      have q6 : (!Op.bytesLess u.name.toList t.name.toList) = true := by
        unfold prevB at q5; rw [hu3] at q5; simp only [Bool.and_eq_true] at q5; exact q5.2
      simp only [Tryz.f42, go_sem, hk1, hk2, hk3]
      repeat' (first
        | ((first | refine pK (q1) ?_ | refine pK (q2) ?_); simp only [go_sem, hk1, hk2, hk3, q3, q4, hgt, hw1, hw0, hu2, q6])
        | ((first | refine cS ?_ ?_ | refine gS ?_ ?_) <;> (intro hc; simp only [go_sem, hc, hk1, hk2, hk3, q3, q4, hgt, hw1, hw0, hu2, q6])))
      all_goals first | (rw [tenE, if_neg (by simpa using q3), if_neg (by simpa using q4), if_pos q5]) | skip
    | false =>
      have q6 : (!Op.bytesLess u.name.toList t.name.toList) = false := by
        unfold prevB at q5; rw [hu3] at q5; simp only [Bool.and_eq_false_iff, decide_eq_false_iff_not] at q5
        exact q5.resolve_left (by omega)
      simp only [Tryz.f42, go_sem, hk1, hk2, hk3]
      repeat' (first
        | ((first | refine pK (q1) ?_ | refine pK (q2) ?_); simp only [go_sem, hk1, hk2, hk3, q3, q4, hgt, hw1, hw0, hu2, q6])
        | ((first | refine cS ?_ ?_ | refine gS ?_ ?_) <;> (intro hc; simp only [go_sem, hc, hk1, hk2, hk3, q3, q4, hgt, hw1, hw0, hu2, q6])))
      refine awp_all t.ports (fun r => r.any fun p => (s.tenants.take k).any fun u => decide (0 <= p.edge) && decide (0 <= portOf u p.edge)) (fun i => [(1, .int .i64 k), (2, .ptr 0 0), (5, .ptr 1 0), (9, .int .i64 i)]) (by omega) rfl ?_ ?_
      · intro i y ys hd hy hF h0 h1 hw
        have hy2 := lPort_get hy
        simp only [go_sem, h0, h1, hy2]
        refine awp_all (s.tenants.take k) (fun r => r.any fun u => decide (0 <= y.edge) && decide (0 <= portOf u y.edge)) (fun j => [(1, .int .i64 k), (2, .ptr 0 0), (5, .ptr 1 0), (9, .int .i64 i), (10, .int .i64 j)]) (by omega) rfl ?_ ?_
        · intro j u us hd3 hu3 hF3 g0 g1 gw
          have g1' : (j : Int) < (k : Int) := by omega
          have hu4 : s.tenants[j]? = some u := by
            rw [List.getElem?_take] at hu3
            split at hu3
            · exact hu3
            · cases hu3
          have hu5 := lTenant_get hu4
          simp only [go_sem, g0, g1', hy2, h0, hu5]
          repeat' (first
            | (refine pK (c_Port18 u y.edge) ?_; simp only [go_sem, h0, h1, hy2, g0, g1', gw, hu5])
            | ((first | refine cS ?_ ?_ | refine gS ?_ ?_) <;> (intro hc; simp only [go_sem, hc, h0, h1, hy2, g0, g1', gw, hu5])))
          all_goals first
            | (have e1 : clash19 s k t = true := by
                 unfold clash19; rw [hF, List.any_cons, hF3, List.any_cons]
                 simp_all
               simp only [decide_eq_true_eq] at *
               rw [tenE, if_neg (by simpa using q3), if_neg (by simpa using q4), if_neg (by rw [q5]; decide), if_pos e1])
            | (rw [List.any_cons]; simp_all; done)
            | skip
        · intro hF3 hlt
          have hlt2 : ¬ ((s.tenants.take k).length : Int) < (k : Int) := by omega
          simp only [go_sem, hlt2, decide_false, hw]
          have hF4 : ((s.tenants.take k).any fun u => decide (0 <= y.edge) && decide (0 <= portOf u y.edge)) = false := hF3
          rw [hF4]; rfl
      · intro hF hlt
        simp only [go_sem, hlt, decide_false]
        have e1 : clash19 s k t = false := by unfold clash19; rw [hF]; rfl
        rw [tenE, if_neg (by simpa using q3), if_neg (by simpa using q4), if_neg (by rw [q5]; decide), if_neg (by rw [e1]; decide)]
theorem tenI_get {s : Setup} {nm : ByteArray} (h : 0 <= tenI s nm) : ∃ t,s.tenants[(tenI s nm).toNat]? = some t /\ t.name = nm /\ tenAt s (tenI s nm) = t /\ tenI s nm < (s.tenants.length : Int):=by
 rcases idxI_cases (fun t : Tenant => decide (t.name = nm)) s.tenants with ⟨h1,_⟩ | ⟨j,x,h1,h2,h3,h4,_⟩
 ·unfold tenI at h; omega
 ·have h5 : tenI s nm = (j : Int):=h4
  rw [h5]
  exact ⟨x,by simpa using h2,by simpa using h3,by simp [tenAt,h2],by omega⟩
theorem imax0 {k : Int} (h : 0 <= k) : imax k 0 = k:=by unfold imax; split <;> omega
theorem c_conE (s : Setup) (c : Contract) (hl : okF s.fields) (hb : bulkL c.c <= 1073741824) (hn : s.tenants.length <= 1073741824) : PCall Tryz.prog 43 [.agg s.c,.agg c.c] (.int .i64 (conE s c)):=by
 have q1:=c_ten19 s c.src hn
 have q2:=c_ten19 s c.dst hn
 simp only [tenR] at q1 q2
 refine pC h43_k rfl ?_
 by_cases ha : 0 <= tenI s c.src
 ·by_cases hd : 0 <= tenI s c.dst
  ·obtain ⟨a,ha1,_,ha2,ha3⟩:=tenI_get ha
   obtain ⟨b,hb1,_,hb2,hb3⟩:=tenI_get hd
   have ha4:=lTenant_get ha1
   have hb4:=lTenant_get hb1
   rw [imax0 ha,decide_eq_true ha] at q1
   rw [imax0 hd,decide_eq_true hd] at q2
   have q3:=c_out19 a c.fromPort
   have q4:=c_out19 b c.toPort
   have q5:=c_ckTP s.fields c.pred hl (Contract.bs_pred hb)
   have e0 : ¬ (tenI s c.src < 0 \/ tenI s c.dst < 0):=by omega
   rw [conE,if_neg e0,ha2,hb2]
   by_cases hv : 0 <= c.via /\ c.via < (s.network.nodes.length : Int)
   ·obtain ⟨nd,hnd⟩ : ∃ nd,s.network.nodes[c.via.toNat]? = some nd:=⟨_,List.getElem?_eq_getElem (by omega)⟩
    have hnd2:=lNode_get hnd
    have hbx : boxAt s c.via = nd.box:=by simp [boxAt,hnd]
    have hv0:=hv.1
    simp only [Tryz.f43,go_sem]
    repeat' (first
     | ((first | refine pK (q1) ?_ | refine pK (q2) ?_ | refine pK (q3) ?_ | refine pK (q4) ?_ | refine pK (q5) ?_); simp only [go_sem,ha,hd,ha4,hb4,hnd2,hv0])
     | ((first | refine cS ?_ ?_ | refine gS ?_ ?_) <;> (intro hc; simp only [go_sem,hc,ha,hd,ha4,hb4,hnd2,hv0])))
    all_goals first | (simp only [viaB,hbx]; grind) | skip
   ·simp only [Tryz.f43,go_sem]
    repeat' (first
     | ((first | refine pK (q1) ?_ | refine pK (q2) ?_ | refine pK (q3) ?_ | refine pK (q4) ?_ | refine pK (q5) ?_); simp only [go_sem,ha,hd,ha4,hb4])
     | ((first | refine cS ?_ ?_ | refine gS ?_ ?_) <;> (intro hc; simp only [go_sem,hc,ha,hd,ha4,hb4])))
    all_goals first | (simp only [viaB]; grind) | skip
  ·rw [decide_eq_false hd] at q2
   simp only [Tryz.f43,go_sem]
   repeat' (first
    | ((first | refine pK (q1) ?_ | refine pK (q2) ?_); simp only [go_sem])
    | ((first | refine cS ?_ ?_ | refine gS ?_ ?_) <;> (intro hc; simp only [go_sem,hc])))
   all_goals first | (rw [conE,if_pos (by omega)]) | skip
 ·rw [decide_eq_false ha] at q1
  simp only [Tryz.f43,go_sem]
  repeat' (first
   | ((first | refine pK (q1) ?_ | refine pK (q2) ?_); simp only [go_sem])
   | ((first | refine cS ?_ ?_ | refine gS ?_ ?_) <;> (intro hc; simp only [go_sem,hc])))
  all_goals first | (rw [conE,if_pos (by omega)]) | skip
end Go.AI
namespace Go.AI
open Go.Proofs
set_option maxRecDepth 50000
def bRow (l : List Bool) : List AV:=l.map .bool
theorem bRow_len (l : List Bool) : (bRow l).length = l.length:=by simp [bRow]
theorem bRow_get {l : List Bool} {i : Nat} {b : Bool} (h : l[i]? = some b) : (bRow l)[i]? = some (.bool b):=by simp [bRow,h]
theorem bRow_set {l : List Bool} {i : Nat} (h : i < l.length) (b : Bool) : splice (bRow l) i [.bool b] = bRow (l.set i b):=by
 apply List.ext_getElem?
 intro j
 have hl:=bRow_len l
 rw [splice_get (by simp; omega)]
 simp only [bRow,List.getElem?_map,List.getElem?_set,List.length_singleton]
 by_cases hj : i <= j /\ j < i + 1
 ·have : j = i:=by omega
  subst this
  rw [if_pos hj,if_pos rfl,if_pos h]; simp
 ·rw [if_neg hj,if_neg (by omega)]
@[go_sem] theorem bRow_pure (l : List Bool) : pureL (bRow l) = true:=by
 induction l with
 | nil => rfl
 | cons b l ih => exact ih
theorem bRow_chunk (l : List Bool) : chunk false 1 l.length ((bRow l).map borrow1) = bRow l:=by
 induction l with
 | nil => rfl
 | cons b l ih =>
  show AV.bool b :: chunk false 1 l.length ((bRow l).map borrow1) = AV.bool b :: bRow l
  rw [ih]
theorem bRow_rep (n : Nat) : (List.replicate n [AV.bool false]).flatten = bRow (List.replicate n false):=by
 induction n with
 | zero => rfl
 | succ n ih => rw [List.replicate_succ,List.flatten_cons,ih]; rfl
def cntT (l : List Bool) : Nat:=(l.filter id).length
theorem cntT_le (l : List Bool) : cntT l <= l.length:=List.length_filter_le _ _
theorem cntT_set {l : List Bool} {i : Nat} (h : l[i]? = some false) : cntT (l.set i true) = cntT l + 1:=by
 induction l generalizing i with
 | nil => simp at h
 | cons b l ih =>
  cases i with
  | zero => simp at h; subst h; simp [cntT]
  | succ i =>
   have:=ih (i:=i) (by simpa using h)
   simp only [List.set_cons_succ,cntT,List.filter_cons] at this ⊢
   split <;> simp_all
theorem cntT_rep (n : Nat) : cntT (List.replicate n false) = 0:=by
 induction n with
 | zero => rfl
 | succ n ih => rw [List.replicate_succ]; exact ih
def rOk (s : Setup) (x : List Bool × List Int) : Prop:=x.1.length = s.tenants.length /\ x.2.length = 1 + cntT x.1 /\ ∀ a ∈ x.2,0 <= a /\ a < (s.tenants.length : Int)
set_option maxHeartbeats 2000000 in
theorem c_reached (s : Setup) (k : Nat) (hk : k < s.tenants.length) (hn : s.tenants.length <= 1048576) (hc : s.contracts.length <= 1048576) (hf : ∀ c ∈ s.contracts,0 <= tenI s c.dst) : PCall Tryz.prog 44 [.agg s.c,.int .i64 k] (.sl none (bRow (rch s k))):=by
 refine pB h44_k rfl ?_
 have hz : zeroAV Tryz.prog 4 = some (.bool false):=by kernel_rfl
 have n0 : (s.tenants.length : Int) * ((1 : Nat) : Int) <= 140737488355328:=by omega
 simp only [Tryz.f44,go_sem]
 refine ⟨by omega,n0,by omega, ?_⟩
 refine awp_wh (σ:=Nat × List Bool × List Int) (fun x => [(2,.ptr 0 0),(5,.msl 1 0 s.tenants.length 1),(6,.sl (some 1) (lI64 x.2.2)),(7,.int .i64 x.1)]) (fun x => [some s.c,some (bRow x.2.1)])
  (fun x => x.1 <= x.2.2.length /\ rOk s x.2 /\ rch s k = rchGo s (s.tenants.length + 2 - x.1) x.1 x.2) (fun x => s.tenants.length + 2 - x.1) (0,List.replicate s.tenants.length false,[(k : Int)])
  ⟨Nat.zero_le _,⟨by simp,by rw [cntT_rep]; rfl,fun a ha => by rcases List.mem_singleton.1 ha with rfl; omega⟩,rfl⟩ rfl (by rw [bRow_rep]) ?_
 rintro ⟨i,seen,q⟩ ⟨hi,hR,hE⟩
 have hq:=hR.2.1
 have hcn:=cntT_le seen
 have hsl:=hR.1
 simp only at hi hq hcn hsl
 by_cases hlt : i < q.length
 ·obtain ⟨a,ha⟩ : ∃ a,q[i]? = some a:=⟨_,List.getElem?_eq_getElem hlt⟩
  obtain ⟨ha0,ha1⟩:=hR.2.2 a (List.mem_of_getElem? ha)
  obtain ⟨u,hu⟩ : ∃ u,s.tenants[a.toNat]? = some u:=⟨_,List.getElem?_eq_getElem (by omega)⟩
  have hu2:=lTenant_get hu
  have hu3 : tenAt s a = u:=by simp [tenAt,hu]
  have hlt2 : (i : Int) < (q.length : Int):=by omega
  have hw:=w64s (k:=i) (by omega)
  have hi0 : (0 : Int) <= (i : Int):=by omega
  simp only [go_sem,hlt2]
  refine awp_lst s.contracts (fun x r => rchC s u.name r x) (fun _ x => rOk s x /\ x.2[i]? = some a) (fun j x => [(2,.ptr 0 0),(5,.msl 1 0 s.tenants.length 1),(6,.sl (some 1) (lI64 x.2)),(7,.int .i64 i),(8,.int .i64 j)]) (fun j x => [some s.c,some (bRow x.1)]) (seen,q) (by omega) ⟨hR,ha⟩ rfl rfl ?_ ?_
  ·rintro j ⟨sn,p⟩ c cs hd hcx ⟨hRx,hax⟩ hF g0 g1 gw
   have hcm:=List.mem_of_getElem? hcx
   have hc2:=lContract_get hcx
   have ht0:=hf c hcm
   obtain ⟨v,hv1,_,_,hv4⟩:=tenI_get ht0
   obtain ⟨m,hm⟩ : ∃ m : Nat,tenI s c.dst = (m : Int):=⟨(tenI s c.dst).toNat,by omega⟩
   have q1:=c_ten19 s c.dst (by omega)
   rw [tenR,imax0 ht0,decide_eq_true ht0,hm] at q1
   have hm1 : m < sn.length:=by rw [hRx.1]; omega
   have hm2 : (m : Int) < (s.tenants.length : Int):=by omega
   have hm0 : (0 : Int) <= (m : Int):=by omega
   obtain ⟨b,hb⟩ : ∃ b,sn[m]? = some b:=⟨_,List.getElem?_eq_getElem hm1⟩
   have hb2:=bRow_get hb
   have hp2:=lI64_get hax
   have hst:=bRow_set hm1 true
   have hpl : (lI64 p).length = p.length:=lI64_len p
   have hrl:=bRow_len sn
   have hq2:=hRx.2.1
   have hcn2:=cntT_le sn
   simp only at hq2 hcn2
   have hsn:=hRx.1
   simp only at hsn
   have hm3 : (m + 1 <= sn.length) = True:=eq_true (by omega)
   simp only [go_sem,g0,g1,hc2,hi0,hp2,ha0,hu2,hm0,hm2,hb2,hst,hrl,toList_beq]
   repeat' (first
    | (refine pK (q1) ?_; simp only [go_sem,g0,g1,hc2,hi0,hp2,ha0,hu2,hm0,hm2,hb2,hst,hrl,toList_beq,gw,hm3])
    | ((first | refine cS ?_ ?_ | refine gS ?_ ?_) <;> (intro hc; simp only [go_sem,hc,g0,g1,hc2,hi0,hp2,ha0,hu2,hm0,hm2,hb2,hst,hrl,toList_beq,gw,hm3])))
   ·have hb3 : b = false:=by simpa using hc
    subst hb3
    rename_i hc1
    refine ⟨by omega,by omega,(sn.set m true,p ++ [(m : Int)]), ?_,⟨⟨by simpa using hsn,by rw [cntT_set hb]; simp; omega, ?_⟩, ?_⟩, ?_⟩
    ·rw [rchC,if_pos ⟨by simpa using hc1,by rw [hm]; simp [hb]⟩,hm,imax0 hm0]; simp
    ·intro z hz
     rcases List.mem_append.1 hz with hz | hz
     ·exact hRx.2.2 z hz
     ·rcases List.mem_singleton.1 hz with rfl; exact ⟨hm0,hm2⟩
    ·rw [List.getElem?_append_left (List.getElem?_eq_some_iff.1 hax).1]; exact hax
    ·exact ⟨rfl,rfl⟩
   ·have hb3 : b = true:=by simpa using hc
    subst hb3
    exact ⟨(sn,p),by rw [rchC,if_neg (by rw [hm]; simp [hb])],⟨hRx,hax⟩,rfl,rfl⟩
   ·rename_i hc1
    exact ⟨(sn,p),by rw [rchC,if_neg (fun h => by simp [h.1] at hc)],⟨hRx,hax⟩,rfl,rfl⟩
  ·rintro ⟨sn,p⟩ ⟨hRx,hax⟩ hF
   simp only [go_sem,Int.lt_irrefl,decide_false,hw]
   have hF' : rchC s u.name s.contracts (seen,q) = (sn,p):=hF
   have e2 : s.tenants.length + 2 - i = (s.tenants.length + 2 - (i + 1)) + 1:=by omega
   have hpi:=(List.getElem?_eq_some_iff.1 hax).1
   simp only at hpi
   refine ⟨(i + 1,sn,p),⟨by simp only; omega,hRx, ?_⟩,by simp only; omega,rfl,rfl⟩
   rw [hE]
   simp only
   rw [e2,rchGo]
   simp only [ha]
   rw [hu3,hF']
 ·have hlt2 : ¬ (i : Int) < (q.length : Int):=by omega
  have hfr : (s.tenants.length <= (bRow seen).length /\ (False \/ True)) = True:=eq_true ⟨by rw [bRow_len]; omega,.inr trivial⟩
  have hch : chunk false 1 s.tenants.length ((bRow seen).map borrow1) = bRow seen:=by rw [<- hsl]; exact bRow_chunk seen
  have e2 : s.tenants.length + 2 - i = (s.tenants.length + 1 - i) + 1:=by omega
  have hE2 : rch s k = seen:=by
   rw [hE]
   simp only
   rw [e2,rchGo]
   simp only [List.getElem?_eq_none (Nat.le_of_not_lt hlt)]
  rw [hE2]
  simp only [go_sem,hlt2,decide_false,hfr,hch]
theorem rchC_len (s : Setup) (nm : ByteArray) : ∀ (l : List Contract) (x : List Bool × List Int),(rchC s nm l x).1.length = x.1.length
 | [],x => rfl
 | c :: r,x => by
  rw [rchC,rchC_len s nm r]
  split <;> simp
theorem rchGo_len (s : Setup) : ∀ (f i : Nat) (x : List Bool × List Int),(rchGo s f i x).length = x.1.length
 | 0,_,_ => rfl
 | f + 1,i,x => by
  rw [rchGo]
  split
  ·rfl
  ·rw [rchGo_len s f,rchC_len]
theorem rch_len (s : Setup) (k : Int) : (rch s k).length = s.tenants.length:=by rw [rch,rchGo_len]; simp
end Go.AI
namespace Go.AI
open Go.Proofs
set_option maxRecDepth 50000
theorem consGo_none {s : Setup} : ∀ {l : List Contract} {i : Nat},consGo s i l = none -> ∀ c ∈ l,conE s c = 0
 | [],_,_,c,hc => by cases hc
 | x :: r,i,h,c,hc => by
  rw [consGo] at h
  split at h
  ·cases h
  ·rename_i hx
   rcases List.mem_cons.1 hc with rfl | hc
   ·simpa using hx
   ·exact consGo_none h c hc
theorem tensGo_none {s : Setup} : ∀ {l : List Tenant} {i : Nat},tensGo s i l = none -> ∀ (j : Nat) (t : Tenant),l[j]? = some t -> tenE s (i + j) t = 0
 | [],_,_,j,t,hc => by simp at hc
 | x :: r,i,h,j,t,hc => by
  rw [tensGo] at h
  split at h
  ·cases h
  ·rename_i hx
   cases j with
   | zero => simp at hc; subst hc; simpa using hx
   | succ j =>
    have:=tensGo_none h j t (by simpa using hc)
    rwa [show i + 1 + j = i + (j + 1) by omega] at this
theorem conE_dst {s : Setup} {c : Contract} (h : conE s c = 0) : 0 <= tenI s c.src /\ 0 <= tenI s c.dst:=by
 unfold conE at h
 split at h
 ·cases h
 ·omega
set_option maxHeartbeats 4000000 in
theorem c_ck19 (s : Setup) (hs : bulkL s.c <= 1048576) : PCall Tryz.prog 21 [.agg s.c] (.tup [.int .i64 (ck19 s).1,.int .i64 (ck19 s).2]):=by
 have hnt : s.tenants.length <= 1048576:=lTenant_bn (Setup.bl_tenants hs)
 have hnc : s.contracts.length <= 1048576:=lContract_bn (Setup.bl_contracts hs)
 have hs2 : bulkL s.c <= 1073741824:=Nat.le_trans hs (by decide)
 have q1:=c_ckNet s.network (Setup.bs_network hs2)
 have q2:=c_ckF s.fields (Setup.bl_fields hs2)
 refine pC h21_k rfl ?_
 by_cases e1 : ckNet s.network = 0
 ·by_cases e2 : ckF s.fields = 0
  ·have hl : okF s.fields:=fun f hf => Int.le_trans (ckF_width e2 f hf) (by decide)
   have e3 : (ckNet s.network != 0) = false:=by simp [e1]
   have e4 : (ckF s.fields != 0) = false:=by simp [e2]
   by_cases e5 : 64 < s.tenants.length \/ 100 < s.contracts.length
   ·have h0 : ck19 s = (0,2):=by unfold ck19; rw [if_neg (by simp [e1]),if_neg (by simp [e2]),if_pos e5]
    rw [h0]
    simp only [Tryz.f21,go_sem]
    repeat' (first
     | ((first | refine pK (q1) ?_ | refine pK (q2) ?_); simp only [go_sem,e3,e4])
     | ((first | refine cS ?_ ?_ | refine gS ?_ ?_) <;> (intro hc; simp only [go_sem,hc,e3,e4])))
    all_goals first | rfl | (simp only [decide_eq_true_eq,decide_eq_false_iff_not] at *; omega) | skip
   ·have h0 : ck19 s = (match tensGo s 0 s.tenants with
      | some x => x
      | none => match consGo s 0 s.contracts with
       | some x => x
       | none => (loopsGo s 0 s.tenants).getD (0,0)):=by unfold ck19; rw [if_neg (by simp [e1]),if_neg (by simp [e2]),if_neg e5] <;> rfl
    have g1 : ¬ (64 : Int) < (s.tenants.length : Int):=by omega
    have g2 : ¬ (100 : Int) < (s.contracts.length : Int):=by omega
    simp only [Tryz.f21,go_sem]
    repeat' (first
     | ((first | refine pK (q1) ?_ | refine pK (q2) ?_); simp only [go_sem,e3,e4,g1,g2,decide_false])
     | ((first | refine cS ?_ ?_ | refine gS ?_ ?_) <;> (intro hc; simp only [go_sem,hc,e3,e4,g1,g2,decide_false])))
    refine awp_all s.tenants (fun r => tensGo s (s.tenants.length - r.length) r) (fun k => [(1,.ptr 0 0),(5,.int .i64 k)]) (by omega) rfl ?_ ?_
    ·intro k y ys hd hx hF k0 k1 hw
     have hk2:=drop_len hd
     have d1 : s.tenants.length - (ys.length + 1) = k:=by omega
     have d2 : s.tenants.length - ys.length = k + 1:=by omega
     simp only [List.length_cons,d1,d2,Nat.sub_self] at hF ⊢
     have hby : bulkL y.c <= 1048576:=by have:=lTenant_bk (Setup.bl_tenants hs) (List.mem_of_getElem? hx); simpa only [AV.bulk] using this
     simp only [go_sem,k0,k1]
     repeat' (first
      | (refine pK (c_tenE s k y hx hl hs2 hby (by omega)) ?_; simp only [go_sem,k0,k1,hw,d1,d2])
      | ((first | refine cS ?_ ?_ | refine gS ?_ ?_) <;> (intro hc; simp only [go_sem,hc,k0,k1,hw,d1,d2])))
     ·have h1 : tensGo s 0 s.tenants = some ((k : Int),tenE s k y):=by rw [hF,tensGo,if_pos (by simpa using hc)]
      rw [h0,h1]
     ·rw [tensGo,if_neg (by simpa using hc)]
    ·intro hF hlt
     have hT : tensGo s 0 s.tenants = none:=by rw [Nat.sub_self] at hF; rw [hF]; rfl
     simp only [go_sem,hlt,decide_false]
     refine awp_all s.contracts (fun r => consGo s (s.contracts.length - r.length) r) (fun k => [(1,.ptr 0 0),(6,.int .i64 k)]) (by omega) rfl ?_ ?_
     ·intro k y ys hd hx hF2 k0 k1 hw
      have hk2:=drop_len hd
      have d1 : s.contracts.length - (ys.length + 1) = k:=by omega
      have d2 : s.contracts.length - ys.length = k + 1:=by omega
      simp only [List.length_cons,d1,d2,Nat.sub_self] at hF2 ⊢
      have hby : bulkL y.c <= 1073741824:=by
       have h5:=lContract_bk (Setup.bl_contracts hs) (List.mem_of_getElem? hx)
       have h6 : bulkL y.c <= 1048576:=by simpa only [AV.bulk] using h5
       exact Nat.le_trans h6 (by decide)
      simp only [go_sem,k0,k1,lContract_get hx]
      repeat' (first
       | (refine pK (c_conE s y hl hby (by omega)) ?_; simp only [go_sem,k0,k1,hw,d1,d2,lContract_get hx])
       | ((first | refine cS ?_ ?_ | refine gS ?_ ?_) <;> (intro hc; simp only [go_sem,hc,k0,k1,hw,d1,d2,lContract_get hx])))
      ·have h1 : consGo s 0 s.contracts = some ((k : Int),conE s y):=by rw [hF2,consGo,if_pos (by simpa using hc)]
       rw [h0,hT,h1]
      ·rw [consGo,if_neg (by simpa using hc)]
     ·intro hF2 hlt2
      have hC : consGo s 0 s.contracts = none:=by rw [Nat.sub_self] at hF2; rw [hF2]; rfl
      have hdst : ∀ c ∈ s.contracts,0 <= tenI s c.dst:=fun c hc => (conE_dst (consGo_none hC c hc)).2
      simp only [go_sem,hlt2,decide_false]
      refine awp_all s.tenants (fun r => loopsGo s (s.tenants.length - r.length) r) (fun k => [(1,.ptr 0 0),(7,.int .i64 k)]) (by omega) rfl ?_ ?_
      ·intro k y ys hd hx hF3 k0 k1 hw
       have hk2:=drop_len hd
       have d1 : s.tenants.length - (ys.length + 1) = k:=by omega
       have d2 : s.tenants.length - ys.length = k + 1:=by omega
       simp only [List.length_cons,d1,d2,Nat.sub_self] at hF3 ⊢
       have q3:=c_reached s k (by omega) hnt hnc hdst
       have hrl : (rch s k).length = s.tenants.length:=rch_len s k
       obtain ⟨b,hb⟩ : ∃ b,(rch s k)[k]? = some b:=⟨_,List.getElem?_eq_getElem (by omega)⟩
       have hb2:=bRow_get hb
       simp only [go_sem,k0,k1]
       repeat' (first
        | (refine pK (q3) ?_; simp only [go_sem,k0,k1,hw,d1,d2,hb2])
        | ((first | refine cS ?_ ?_ | refine gS ?_ ?_) <;> (intro hc; simp only [go_sem,hc,k0,k1,hw,d1,d2,hb2])))
       ·have h1 : loopsGo s 0 s.tenants = some (0,21):=by rw [hF3,loopsGo,if_pos (by rw [hb]; simpa using hc)]
        rw [h0,hT,hC,h1]; rfl
       ·rw [loopsGo,if_neg (by rw [hb]; simpa using hc)]
      ·intro hF3 hlt3
       have hL : loopsGo s 0 s.tenants = none:=by rw [Nat.sub_self] at hF3; rw [hF3]; rfl
       simp only [go_sem,hlt3,decide_false]
       rw [h0,hT,hC,hL]; rfl
  ·have e3 : (ckNet s.network != 0) = false:=by simp [e1]
   have e4 : (ckF s.fields != 0) = true:=by simp [e2]
   have h0 : ck19 s = (0,ckF s.fields):=by unfold ck19; rw [if_neg (by simp [e1]),if_pos e2]
   rw [h0]
   simp only [Tryz.f21,go_sem]
   repeat' (first
    | ((first | refine pK (q1) ?_ | refine pK (q2) ?_); simp only [go_sem,e3,e4])
    | ((first | refine cS ?_ ?_ | refine gS ?_ ?_) <;> (intro hc; simp only [go_sem,hc,e3,e4])))
 ·have e3 : (ckNet s.network != 0) = true:=by simp [e1]
  have h0 : ck19 s = (0,ckNet s.network):=by unfold ck19; rw [if_pos e1]
  rw [h0]
  simp only [Tryz.f21,go_sem]
  repeat' (first
   | ((first | refine pK (q1) ?_ | refine pK (q2) ?_); simp only [go_sem,e3])
   | ((first | refine cS ?_ ?_ | refine gS ?_ ?_) <;> (intro hc; simp only [go_sem,hc,e3])))
theorem c_right19 (s : Setup) (hs : bulkL s.c <= 1048576) : PCall Tryz.prog 4 [.agg s.c] (.bool (right19 s)):=by
 refine pC h4_k rfl ?_
 simp only [Tryz.f4,go_sem]
 repeat' (first
  | ((first | refine pK (c_few19 s) ?_ | refine pK (c_ck19 s hs) ?_); simp only [go_sem])
  | ((first | refine cS ?_ ?_ | refine gS ?_ ?_) <;> (intro hc; simp only [go_sem,hc])))
 all_goals first
  | rfl
  | (simp only [right19]; rfl)
  | grind [right19]
  | (simp only [right19]; grind)
  | (simp [right19, *]; done)
  | (simp_all [right19]; done)
  | skip
end Go.AI
namespace Go.AI
open Go.Proofs
set_option maxRecDepth 50000
end Go.AI
namespace Go.AI
open Go.Proofs
set_option maxRecDepth 50000
theorem ckTP_good {l : List Fld} {x : Pred} (h : ckTP l x = 0) : goodP l x:=by
 unfold ckTP at h
 split at h
 ·rename_i h1
  refine ⟨?_,(fitGo_all l _).1 h⟩
  unfold ckP fmE at h1
  split at h1
  ·split at h1
   ·assumption
   ·cases h1
  ·rename_i h2; exact absurd h1 h2
 ·rename_i h1; exact absurd h h1
structure R19 (s : Setup) : Prop where
 net : ckNet s.network = 0
 fld : okFs s.fields
 fld0 : ckF s.fields = 0
 ten : ∀ (k : Nat) (t : Tenant),s.tenants[k]? = some t -> tenE s k t = 0
 con : ∀ c ∈ s.contracts,conE s c = 0
 loop : loopsGo s 0 s.tenants = none
theorem right_r19 {s : Setup} (h : right19 s = true) : R19 s:=by
 unfold right19 at h
 simp only [Bool.and_eq_true,beq_iff_eq] at h
 obtain ⟨_,h⟩:=h
 have l1 : ∀ {i : Nat} {r : List Tenant} {x : Int × Int},tensGo s i r = some x -> x.2 ≠ 0:=by
  intro i r
  induction r generalizing i with
  | nil => intro x hx; cases hx
  | cons y r ih =>
   intro x hx
   rw [tensGo] at hx
   split at hx
   ·rename_i hne; cases hx; exact hne
   ·exact ih hx
 have l2 : ∀ {i : Nat} {r : List Contract} {x : Int × Int},consGo s i r = some x -> x.2 ≠ 0:=by
  intro i r
  induction r generalizing i with
  | nil => intro x hx; cases hx
  | cons y r ih =>
   intro x hx
   rw [consGo] at hx
   split at hx
   ·rename_i hne; cases hx; exact hne
   ·exact ih hx
 have l3 : ∀ {i : Nat} {r : List Tenant} {x : Int × Int},loopsGo s i r = some x -> x.2 ≠ 0:=by
  intro i r
  induction r generalizing i with
  | nil => intro x hx; cases hx
  | cons y r ih =>
   intro x hx
   rw [loopsGo] at hx
   split at hx
   ·cases hx; decide
   ·exact ih hx
 unfold ck19 at h
 split at h
 ·rename_i hne; exact absurd h hne
 rename_i h1
 split at h
 ·rename_i hne; exact absurd h hne
 rename_i h2
 split at h
 ·cases h
 have hF : ckF s.fields = 0:=by simpa using h2
 cases hT : tensGo s 0 s.tenants with
 | some x => rw [hT] at h; exact absurd h (l1 hT)
 | none =>
  rw [hT] at h
  cases hC : consGo s 0 s.contracts with
  | some x => rw [hC] at h; exact absurd h (l2 hC)
  | none =>
   rw [hC] at h
   cases hL : loopsGo s 0 s.tenants with
   | some x => rw [hL] at h; exact absurd h (l3 hL)
   | none =>
    exact ⟨by simpa using h1,ckF_ok hF,hF,fun k t ht => by have:=tensGo_none hT k t ht; rwa [Nat.zero_add] at this,consGo_none hC,hL⟩
theorem R19.pred {s : Setup} (h : R19 s) {c : Contract} (hc : c ∈ s.contracts) : goodP s.fields c.pred:=by
 have h1:=h.con c hc
 unfold conE at h1
 split at h1
 ·cases h1
 split at h1
 ·cases h1
 split at h1
 ·rename_i h2; exact absurd h1 h2
 rename_i h2
 exact ckTP_good (by simpa using h2)
end Go.AI
namespace Go.AI
open Go.Proofs
set_option maxRecDepth 50000
theorem p_Tenant1 {H : Heap} (t : Tenant) (nm : ByteArray) (o : Nat) (ho : H[o]? = some (some [.str nm])) : SCall Tryz.prog 109 [.agg t.c,.ptr o 0] H (.bool (decide (t.name = nm))):=by
 refine ACall.drop rfl ?_
 refine aC h109_k rfl ?_
 have ho' : ∀ z,(H ++ z)[o]? = some (some [.str nm]):=fun z => by
  have:=(List.getElem?_eq_some_iff.1 ho).1
  rw [List.getElem?_append_left this]; exact ho
 simp only [Tryz.f109,go_sem,ho',toList_beq]
theorem p_Tenant (s : Setup) (nm : ByteArray) (hl : s.tenants.length <= 1073741824) : PCall Tryz.prog 60 [.agg s.c,.str nm] (tenR (tenI s nm)):=by
 have c1:=p_IndexTenant (H:=[some s.c,some [.str nm]]) s.tenants (by omega) 109 [] [.ptr 1 0] (fun t => decide (t.name = nm)) (fun t _ => p_Tenant1 t nm 1 rfl)
 refine pC h60_k rfl ?_
 simp only [Tryz.f60,go_sem]
 repeat' (first
  | (refine aS (c1) ?_; simp only [go_sem])
  | ((first | refine cS ?_ ?_ | refine gS ?_ ?_) <;> (intro hc; simp only [go_sem,hc])))
 all_goals first | rfl | skip
def ownGo (e : Int) : Nat -> List Tenant -> Int × Int
 | _,[] => (-1,-1)
 | i,t :: r => if 0 <= portOf2 t e then ((i : Int),portOf2 t e) else ownGo e (i + 1) r
theorem p_Owner (s : Setup) (hs : bulkL s.c <= 1048576) (e : Int) : PCall Tryz.prog 17 [.agg s.c,.int .i64 e] (.tup [.int .i64 (ownGo e 0 s.tenants).1,.int .i64 (ownGo e 0 s.tenants).2]):=by
 have hnt : s.tenants.length <= 1048576:=lTenant_bn (Setup.bl_tenants hs)
 refine pC h17_k rfl ?_
 simp only [Tryz.f17,go_sem]
 refine awp_all s.tenants (fun r => ownGo e (s.tenants.length - r.length) r) (fun k => [(1,.int .i64 e),(10,.sl none (lTenant s.tenants)),(11,.int .i64 s.tenants.length),(12,.int .i64 k)]) (by omega) rfl ?_ ?_
 ·intro k y ys hd hx hF h0 h1 hw
  have hk2:=drop_len hd
  have e1 : s.tenants.length - (ys.length + 1) = k:=by omega
  have e2 : s.tenants.length - ys.length = k + 1:=by omega
  simp only [List.length_cons,e1,e2,Nat.sub_self] at hF ⊢
  have hby : bulkL y.c <= 1048576:=by have:=lTenant_bk (Setup.bl_tenants hs) (List.mem_of_getElem? hx); simpa only [AV.bulk] using this
  have hp : y.ports.length <= 1073741824:=Nat.le_trans (lPort_bn (Tenant.bl_ports hby)) (by decide)
  simp only [go_sem,h0,h1,lTenant_get hx]
  repeat' (first
   | (refine pK (c_Port y hp e) ?_; simp only [go_sem,h0,h1,hw,lTenant_get hx,e1,e2])
   | ((first | refine cS ?_ ?_ | refine gS ?_ ?_) <;> (intro hc; simp only [go_sem,hc,h0,h1,hw,lTenant_get hx,e1,e2])))
  ·rw [hF,ownGo,if_pos (by simpa using hc)]
  ·rw [ownGo,if_neg (by simpa using hc)]
 ·intro hF hlt
  simp only [go_sem,hlt,decide_false]
  rw [Nat.sub_self] at hF
  rw [hF]; rfl
def bilGo (nm : ByteArray) : Int -> List Contract -> Int
 | z,[] => z
 | z,c :: r => bilGo nm (if c.src = nm then IntKind.i64.wrap (z + IntKind.i64.wrap (c.capacity * c.price)) else z) r
theorem p_Bill (s : Setup) (hs : bulkL s.c <= 1048576) (k : Nat) (u : Tenant) (hu : s.tenants[k]? = some u) : PCall Tryz.prog 12 [.agg s.c,.int .i64 k] (.int .i64 (bilGo u.name 0 s.contracts)):=by
 have hnc : s.contracts.length <= 1048576:=lContract_bn (Setup.bl_contracts hs)
 have hu2:=lTenant_get hu
 have hk0 : (0 : Int) <= (k : Int):=by omega
 refine pC h12_k rfl ?_
 simp only [Tryz.f12,go_sem]
 refine awp_lst s.contracts (fun z r => bilGo u.name z r) (fun _ _ => True) (fun i z => [(1,.int .i64 k),(2,.ptr 0 0),(5,.int .i64 z),(9,.sl none (lContract s.contracts)),(10,.int .i64 s.contracts.length),(11,.int .i64 i)]) (fun _ _ => [some s.c]) (0 : Int) (by omega) trivial rfl rfl ?_ ?_
 ·intro i z y ys hd hx _ hF h0 h1 hw
  simp only [go_sem,h0,h1,lContract_get hx,hu2,hk0,toList_beq]
  repeat' (first
   | ((first | refine cS ?_ ?_ | refine gS ?_ ?_) <;> (intro hc; simp only [go_sem,hc,h0,h1,hw,lContract_get hx,hu2,hk0,toList_beq])))
  ·exact ⟨_,by rw [bilGo,if_pos (by simpa using hc)],rfl,rfl⟩
  ·exact ⟨_,by rw [bilGo,if_neg (by simpa using hc)],rfl,rfl⟩
 ·intro z _ hF
  simp only [go_sem,Int.lt_irrefl,decide_false]
  rw [hF]; rfl
end Go.AI
namespace Go.AI
def mkd (x : List Bool) (j : Nat) : Prop:=x[j]? = some true
theorem mkd_set {x : List Bool} {m j : Nat} (h : mkd x j) : mkd (x.set m true) j:=by
 unfold mkd at *
 rw [List.getElem?_set]
 split
 ·rename_i he; subst he; rw [if_pos (List.getElem?_eq_some_iff.1 h).1]
 ·exact h
theorem mkd_of_set {x : List Bool} {m j : Nat} (h : mkd (x.set m true) j) : j = m \/ mkd x j:=by
 unfold mkd at *
 rw [List.getElem?_set] at h
 split at h
 ·rename_i he; exact .inl he.symm
 ·exact .inr h
section
variable {s : Setup} {nm : ByteArray}
theorem rchC_mono : ∀ {l : List Contract} {x : List Bool × List Int} {j : Nat},mkd x.1 j -> mkd (rchC s nm l x).1 j
 | [],_,_,h => h
 | c :: r,x,j,h => by
  rw [rchC]
  refine rchC_mono ?_
  split
  ·exact mkd_set h
  ·exact h
theorem rchC_hit : ∀ {l : List Contract} {x : List Bool × List Int} {c : Contract},c ∈ l -> c.src = nm -> (tenI s c.dst).toNat < x.1.length -> mkd (rchC s nm l x).1 (tenI s c.dst).toNat
 | d :: r,x,c,hc,hs,hl => by
  rw [rchC]
  rcases List.mem_cons.1 hc with rfl | hc
  ·refine rchC_mono ?_
   split
   ·show (x.1.set _ true)[_]? = some true
    rw [List.getElem?_set,if_pos rfl,if_pos hl]
   ·rename_i hn
    have : (x.1[(tenI s c.dst).toNat]?).getD true ≠ false:=fun h => hn ⟨hs,h⟩
    unfold mkd
    rw [List.getElem?_eq_getElem hl] at this ⊢
    cases hx : x.1[(tenI s c.dst).toNat] <;> simp_all
  ·refine rchC_hit hc hs ?_
   split <;> simpa using hl
theorem rchC_queue : ∀ {l : List Contract} {x : List Bool × List Int},(∀ j,mkd x.1 j -> (j : Int) ∈ x.2) -> ∀ j,mkd (rchC s nm l x).1 j -> (j : Int) ∈ (rchC s nm l x).2
 | [],_,h => h
 | c :: r,x,h => by
  rw [rchC]
  refine rchC_queue ?_
  split
  ·intro j hj
   rcases mkd_of_set hj with rfl | hj
   ·refine List.mem_append_right _ (List.mem_singleton.2 ?_)
    unfold imax; split <;> omega
   ·exact List.mem_append_left _ (h j hj)
  ·exact h
theorem rchC_pre : ∀ (l : List Contract) (x : List Bool × List Int),∃ t,(rchC s nm l x).2 = x.2 ++ t
 | [],x => ⟨[],by simp [rchC]⟩
 | c :: r,x => by
  rw [rchC]
  split
  ·obtain ⟨t,ht⟩:=rchC_pre r (x.1.set (tenI s c.dst).toNat true,x.2 ++ [imax (tenI s c.dst) 0])
   exact ⟨[imax (tenI s c.dst) 0] ++ t,by rw [ht]; simp⟩
  ·exact rchC_pre r x
theorem rchC_new : ∀ {l : List Contract} {x : List Bool × List Int},∀ b ∈ (rchC s nm l x).2,b ∈ x.2 \/ ∃ c ∈ l,c.src = nm /\ b = ((tenI s c.dst).toNat : Int)
 | [],_,b,h => .inl h
 | c :: r,x,b,h => by
  rw [rchC] at h
  rcases rchC_new b h with h | ⟨d,hd,hs,rfl⟩
  ·split at h
   ·rename_i he
    rcases List.mem_append.1 h with h | h
    ·exact .inl h
    ·rcases List.mem_singleton.1 h with rfl
     exact .inr ⟨c,by simp,he.1,by unfold imax; split <;> omega⟩
   ·exact .inl h
  ·exact .inr ⟨d,by simp [hd],hs,rfl⟩
theorem rchC_min {M : Nat -> Prop} : ∀ {l : List Contract} {x : List Bool × List Int},(∀ c ∈ l,c.src = nm -> M (tenI s c.dst).toNat) -> (∀ j,mkd x.1 j -> M j) -> ∀ j,mkd (rchC s nm l x).1 j -> M j
 | [],_,_,h => h
 | c :: r,x,hc,h => by
  rw [rchC]
  refine rchC_min (fun d hd => hc d (by simp [hd])) ?_
  split
  ·rename_i he
   intro j hj
   rcases mkd_of_set hj with rfl | hj
   ·exact hc c (by simp) he.1
   ·exact h j hj
  ·exact h
theorem rchC_rOk : ∀ {l : List Contract} {x : List Bool × List Int},(∀ c ∈ l,0 <= tenI s c.dst) -> rOk s x -> rOk s (rchC s nm l x)
 | [],_,_,h => h
 | c :: r,x,hc,h => by
  rw [rchC]
  refine rchC_rOk (fun d hd => hc d (by simp [hd])) ?_
  split
  ·rename_i he
   obtain ⟨v,_,_,_,hv⟩:=tenI_get (hc c (by simp))
   have h0:=hc c (by simp)
   refine ⟨by simpa using h.1, ?_, ?_⟩
   ·have hlt : (tenI s c.dst).toNat < x.1.length:=by rw [h.1]; omega
    have hb : x.1[(tenI s c.dst).toNat]? = some false:=by
     have h2:=he.2
     rw [List.getElem?_eq_getElem hlt] at h2 ⊢
     simpa using h2
    rw [cntT_set hb]
    have:=h.2.1
    simp; omega
   ·intro a ha
    rcases List.mem_append.1 ha with ha | ha
    ·exact h.2.2 a ha
    ·rcases List.mem_singleton.1 ha with rfl
     rw [imax0 h0]; exact ⟨h0,hv⟩
  ·exact h
end
section
variable {s : Setup} (hd : ∀ c ∈ s.contracts,0 <= tenI s c.dst)
include hd
theorem rchGo_closed : ∀ (f i : Nat) (x : List Bool × List Int),rOk s x -> (∀ j,mkd x.1 j -> (j : Int) ∈ x.2) -> (∀ (j : Nat) (a : Int),j < i -> x.2[j]? = some a -> ∀ c ∈ s.contracts,c.src = (tenAt s a).name -> mkd x.1 (tenI s c.dst).toNat) -> s.tenants.length + 2 <= f + i ->
  (∀ (j : Nat) (a : Int),x.2[j]? = some a -> ∀ c ∈ s.contracts,c.src = (tenAt s a).name -> mkd (rchGo s f i x) (tenI s c.dst).toNat) /\
  (∀ a,mkd (rchGo s f i x) a -> ∀ c ∈ s.contracts,c.src = (tenAt s (a : Int)).name -> mkd (rchGo s f i x) (tenI s c.dst).toNat)
 | 0,i,x,hr,hq,hp,hf => by
  have h1:=hr.2.1
  have h2:=cntT_le x.1
  have h3:=hr.1
  have all : ∀ (j : Nat) (a : Int),x.2[j]? = some a -> ∀ c ∈ s.contracts,c.src = (tenAt s a).name -> mkd x.1 (tenI s c.dst).toNat:=fun j a hj => hp j a (by have:=(List.getElem?_eq_some_iff.1 hj).1; omega) hj
  refine ⟨all,fun a ha c hc => ?_⟩
  obtain ⟨j,hj⟩:=List.getElem?_of_mem (hq a ha)
  exact all j a hj c hc
 | f + 1,i,x,hr,hq,hp,hf => by
  rw [rchGo]
  split
  ·rename_i hn
   have hle:=List.getElem?_eq_none_iff.1 hn
   have all : ∀ (j : Nat) (a : Int),x.2[j]? = some a -> ∀ c ∈ s.contracts,c.src = (tenAt s a).name -> mkd x.1 (tenI s c.dst).toNat:=fun j a hj => hp j a (by have:=(List.getElem?_eq_some_iff.1 hj).1; omega) hj
   refine ⟨all,fun a ha c hc => ?_⟩
   obtain ⟨j,hj⟩:=List.getElem?_of_mem (hq a ha)
   exact all j a hj c hc
  ·rename_i a ha
   obtain ⟨t,ht⟩:=rchC_pre (s:=s) (nm:=(tenAt s a).name) s.contracts x
   have hi:=(List.getElem?_eq_some_iff.1 ha).1
   have ih:=rchGo_closed f (i + 1) (rchC s (tenAt s a).name s.contracts x) (rchC_rOk hd hr) (rchC_queue hq) (fun j b hj hb c hc hs => by
    rw [ht,List.getElem?_append_left (by omega)] at hb
    rcases Nat.lt_or_ge j i with hji | hji
    ·exact rchC_mono (hp j b hji hb c hc hs)
    ·have : j = i:=by omega
     subst this
     rw [ha] at hb; cases hb
     obtain ⟨v,_,_,_,hv⟩:=tenI_get (hd c hc)
     have:=hd c hc
     exact rchC_hit hc hs (by rw [hr.1]; omega)) (by omega)
   refine ⟨fun j b hj c hc hs => ih.1 j b ?_ c hc hs,ih.2⟩
   rw [ht,List.getElem?_append_left (List.getElem?_eq_some_iff.1 hj).1]; exact hj
omit hd in
theorem rchGo_min {M : Nat -> Prop} (hM : ∀ a,M a -> ∀ c ∈ s.contracts,c.src = (tenAt s (a : Int)).name -> M (tenI s c.dst).toNat) : ∀ (f i : Nat) (x : List Bool × List Int),(∀ a ∈ x.2,∀ c ∈ s.contracts,c.src = (tenAt s a).name -> M (tenI s c.dst).toNat) -> (∀ j,mkd x.1 j -> M j) -> ∀ j,mkd (rchGo s f i x) j -> M j
 | 0,_,_,_,h => h
 | f + 1,i,x,hq,h => by
  rw [rchGo]
  split
  ·exact h
  ·rename_i a ha
   have hma:=List.mem_of_getElem? ha
   refine rchGo_min hM f (i + 1) _ (fun b hb c hc hs => ?_) (rchC_min (fun c hc hs => hq a hma c hc hs) h)
   rcases rchC_new b hb with hb | ⟨d,hd,hds,rfl⟩
   ·exact hq b hb c hc hs
   ·exact hM _ (hq a hma d hd hds) c hc hs
theorem rch_closed {k : Nat} (hk : k < s.tenants.length) : (∀ c ∈ s.contracts,c.src = (tenAt s (k : Int)).name -> mkd (rch s k) (tenI s c.dst).toNat) /\ (∀ a,mkd (rch s k) a -> ∀ c ∈ s.contracts,c.src = (tenAt s (a : Int)).name -> mkd (rch s k) (tenI s c.dst).toNat):=by
 have h0 : rOk s (List.replicate s.tenants.length false,[(k : Int)]):=⟨by simp,by rw [cntT_rep]; rfl,fun a ha => by rcases List.mem_singleton.1 ha with rfl; omega⟩
 have h1 : ∀ j,mkd (List.replicate s.tenants.length false) j -> (j : Int) ∈ [(k : Int)]:=fun j hj => by
  unfold mkd at hj
  have:=List.mem_of_getElem? hj
  simp at this
 obtain ⟨g1,g2⟩:=rchGo_closed hd (s.tenants.length + 2) 0 _ h0 h1 (fun j a hj => by omega) (by omega)
 exact ⟨fun c hc hs => g1 0 (k : Int) rfl c hc hs,g2⟩
omit hd in
theorem rch_min {k : Nat} {M : Nat -> Prop} (h0 : ∀ c ∈ s.contracts,c.src = (tenAt s (k : Int)).name -> M (tenI s c.dst).toNat) (hM : ∀ a,M a -> ∀ c ∈ s.contracts,c.src = (tenAt s (a : Int)).name -> M (tenI s c.dst).toNat) : ∀ j,mkd (rch s k) j -> M j:=by
 refine rchGo_min hM _ _ _ (fun a ha => ?_) (fun j hj => ?_)
 ·rcases List.mem_singleton.1 ha with rfl; exact h0
 ·unfold mkd at hj
  have:=List.mem_of_getElem? hj
  simp at this
end
theorem cntT_lt : ∀ {a b : List Bool} {j : Nat},a.length = b.length -> (∀ i,mkd a i -> mkd b i) -> mkd b j -> ¬ mkd a j -> cntT a < cntT b
 | [],[],j,_,_,hb,_ => by simp [mkd] at hb
 | [],_ :: _,_,h,_,_,_ => by simp at h
 | _ :: _,[],_,h,_,_,_ => by simp at h
 | x :: a,y :: b,j,h,hs,hb,ha => by
  have le : ∀ {a b : List Bool},a.length = b.length -> (∀ i,mkd a i -> mkd b i) -> cntT a <= cntT b:=by
   intro a
   induction a with
   | nil => intro b _ _; simp [cntT]
   | cons x a ih =>
    intro b hl h
    cases b with
    | nil => simp at hl
    | cons y b =>
     have h1:=ih (b:=b) (by simpa using hl) (fun i hi => by have:=h (i + 1) (by simpa [mkd] using hi); simpa [mkd] using this)
     have h0:=h 0
     simp only [mkd,List.getElem?_cons_zero,Option.some.injEq] at h0
     simp only [cntT,List.filter_cons] at h1 ⊢
     cases x <;> cases y <;> simp at h0 ⊢ <;> omega
  have h0:=hs 0
  simp only [mkd,List.getElem?_cons_zero,Option.some.injEq] at h0
  have hs1 : ∀ i,mkd a i -> mkd b i:=fun i hi => by have:=hs (i + 1) (by simpa [mkd] using hi); simpa [mkd] using this
  have hl : a.length = b.length:=by simpa using h
  cases j with
  | zero =>
   have h1:=le hl hs1
   simp only [mkd,List.getElem?_cons_zero,Option.some.injEq] at hb ha
   subst hb
   simp only [cntT,List.filter_cons] at h1 ⊢
   cases x <;> simp at ha ⊢
   omega
  | succ j =>
   have h1:=cntT_lt hl hs1 (j:=j) (by simpa [mkd] using hb) (by simpa [mkd] using ha)
   simp only [cntT,List.filter_cons] at h1 ⊢
   cases x <;> cases y <;> simp at h0 ⊢ <;> omega
def rnk (s : Setup) (k : Nat) : Nat:=cntT (rch s k)
theorem loopsGo_none {s : Setup} : ∀ {l : List Tenant} {i : Nat},loopsGo s i l = none -> ∀ j,j < l.length -> ¬ mkd (rch s ((i + j : Nat) : Int)) (i + j)
 | [],_,_,j,hj => by simp at hj
 | x :: r,i,h,j,hj => by
  rw [loopsGo] at h
  split at h
  ·cases h
  ·rename_i hn
   cases j with
   | zero =>
    intro hm
    unfold mkd at hm
    apply hn
    simp at hm ⊢
    rw [hm]; rfl
   | succ j =>
    have:=loopsGo_none h j (by simpa using hj)
    rwa [show i + 1 + j = i + (j + 1) by omega] at this
theorem R19.rank {s : Setup} (h : R19 s) {k : Nat} (hk : k < s.tenants.length) {c : Contract} (hc : c ∈ s.contracts) (hs : c.src = (tenAt s (k : Int)).name) : rnk s (tenI s c.dst).toNat < rnk s k:=by
 have hd : ∀ c ∈ s.contracts,0 <= tenI s c.dst:=fun c hc => (conE_dst (h.con c hc)).2
 obtain ⟨g1,g2⟩:=rch_closed hd hk
 obtain ⟨v,_,_,_,hv⟩:=tenI_get (hd c hc)
 have h0:=hd c hc
 have hm:=g1 c hc hs
 have hlt : (tenI s c.dst).toNat < s.tenants.length:=by omega
 have hn:=loopsGo_none h.loop (tenI s c.dst).toNat hlt
 rw [Nat.zero_add] at hn
 exact cntT_lt (by rw [rch_len,rch_len]) (rch_min (fun d hd2 hs2 => g2 _ hm d hd2 hs2) g2) hm hn
end Go.AI
namespace Go.AI
open Go.Proofs
theorem PCall.lendR {P : Program} {f : FuncId} {vs : List AV} {v : AV} (h : PCall P f vs v) : PCall P f vs v.borrow:=fun H =>
 ⟨(h H).1,fun F G w us hc => Calls.mono ((h H).2 F G w us hc) fun e w' he => by
  obtain ⟨u,rfl,v',H2,G',⟨rfl,rfl⟩,hcr,hext⟩:=he
  exact ⟨u,rfl,_,_,G',⟨rfl,rfl⟩,by simpa using hcr.lend,hext⟩⟩
theorem PCall.runB {P : Program} {T : EvT} (E : EvOk P T) (k : Nat) {f : FuncId} {vs : List AV} {v : AV} (hp : pureL vs = true)
  (h : (match runT P T k (.call f vs []) with | some (.val v2 _) => if v2.pure = true then some v2.borrow else none | _ => none) = some v) : PCall P f vs v:=by
 cases hr : runT P T k (.call f vs []) with
 | none => rw [hr] at h; cases h
 | some q =>
  rw [hr] at h
  cases q with
  | st _ _ _ => cases h
  | val v2 H2 =>
   dsimp only at h
   split at h
   ·rename_i hv
    cases h
    exact PCall.lendR (PCall.run E k hp hv (by rw [hr]))
   ·cases h
end Go.AI
namespace Go.AI
open Go.Proofs
set_option maxRecDepth 50000
theorem p_CloneA (es : List AV) (he : ∀ x ∈ es,x.cells.length = 1) (hl : es.length <= 1048576) (H : Heap) : ACall Tryz.prog 59 [.sl none es] H fun v H' => v = .sl (some 1) es /\ H' = H:=by
 have h1 : (0 + es.length) * 8 <= 140737488355328:=by omega
 refine aC h59_k rfl ?_
 cases es with
 | nil => simp only [Tryz.f59,go_sem]
 | cons e es =>
  simp only [Tryz.f59,go_sem]
  simp only [List.length_cons] at hl
  exact ⟨⟨he _ (by simp),fun a ha => he a (by simp [ha])⟩,by omega,by omega⟩
def cloneOrc : Orc:=fun f vs H => bif Nat.beq f 59 then
  match vs with
  | [.sl none es] => bif es.all (fun x => x.cells.length == 1) && Nat.ble es.length 1048576 then some (.sl (some 1) es,H) else none
  | _ => none
 else srtOrc f vs H
theorem cloneOrc_ok : OrcOk Tryz.prog cloneOrc:=by
 intro f vs H v H' h
 unfold cloneOrc at h
 cases hf : Nat.beq f 59 with
 | false => rw [hf] at h; exact srtOrc_ok f vs H v H' h
 | true =>
  rw [hf] at h
  have:=Nat.eq_of_beq_eq_true hf
  subst this
  dsimp only [cond_true] at h
  split at h
  ·rename_i es
   cases h3 : (es.all (fun x => x.cells.length == 1) && Nat.ble es.length 1048576) with
   | false => rw [h3] at h; cases h
   | true =>
    rw [h3] at h
    cases h
    simp only [Bool.and_eq_true,List.all_eq_true,beq_iff_eq] at h3
    exact p_CloneA es h3.1 (Nat.le_of_ble_eq_true h3.2) H
  ·cases h
theorem evOkX : EvOk Tryz.prog (evTree.evt [] cloneOrc):=ETree.ok mixedE (fun _ h => by cases h) cloneOrc_ok evTree_all
end Go.AI
namespace Go.AI
open Go.Proofs
set_option maxRecDepth 50000
def chG (s : Setup) (b : Nat) : Nat -> Nat -> List Int -> List (List Int)
 | 0,_,_ => []
 | f + 1,a,ch => if a = b then [ch] else (s.contracts.zipIdx).flatMap fun p => if p.1.src = (tenAt s (a : Int)).name then chG s b f (tenI s p.1.dst).toNat (ch ++ [(p.2 : Int)]) else []
def chR (s : Setup) (b f a : Nat) (ch : List Int) (i : Nat) (r : List Contract) : List (List Int) :=
 (r.zipIdx i).flatMap fun p => if p.1.src = (tenAt s (a : Int)).name then chG s b f (tenI s p.1.dst).toNat (ch ++ [(p.2 : Int)]) else []
theorem chR_nil (s : Setup) (b f a : Nat) (ch : List Int) (i : Nat) : chR s b f a ch i [] = []:=rfl
theorem chR_cons (s : Setup) (b f a : Nat) (ch : List Int) (i : Nat) (c : Contract) (r : List Contract) : chR s b f a ch i (c :: r) = (if c.src = (tenAt s (a : Int)).name then chG s b f (tenI s c.dst).toNat (ch ++ [(i : Int)]) else []) ++ chR s b f a ch (i + 1) r:=by
 simp [chR,List.zipIdx_cons]
theorem chG_at (s : Setup) (b f : Nat) (ch : List Int) : chG s b (f + 1) b ch = [ch]:=by rw [chG,if_pos rfl]
theorem chG_ne {s : Setup} {b f a : Nat} {ch : List Int} (h : a ≠ b) : chG s b (f + 1) a ch = chR s b f a ch 0 s.contracts:=by rw [chG,if_neg h]; rfl
theorem p_CloneI (l : List Int) (hl : l.length <= 1048576) : PCall Tryz.prog 59 [.sl none (lI64 l)] (.sl (some 1) (lI64 l)):=fun H =>
 p_CloneA _ (lI64_cells l) (by rw [lI64_len]; exact hl) H
set_option maxHeartbeats 2000000 in
theorem p_chainsW (s : Setup) (hs : bulkL s.c <= 1048576) (hR : R19 s) (b o ya fo n os ob : Nat) (L : LoopRec) (Pre : Nat -> Heap -> Prop) (Qp : Heap -> Prop) (l : List (List Int))
  (hS : ∀ k pre,Pre k pre -> pre[os]? = some (some s.c) /\ pre[ob]? = some (some [.int .i64 (b : Int)]))
  (round : ∀ g k y H,l[k]? = some y -> Iv Pre n g k H -> YCall Tryz.prog o L [.sl (some 1) (lI64 y)] H fun v H' => (v = .bool true /\ Iv Pre n g (k + 1) H') \/ (v = .bool false /\ Iv (fun _ => Qp) n g 0 H')) :
  ∀ (f a : Nat) (ch : List Int) (k : Nat) (H g : Heap) (rest : List (List Int)),a < s.tenants.length -> rnk s a < f -> ch.length + f <= 1048577 -> g[ya]? = some (some [.yld o L]) ->
   g[fo]? = some (some [.fn (.func 62) [] [.ptr ob 0,.ptr (n + ya) 0,.ptr os 0,.ptr (n + fo) 0]]) -> l.drop k = chG s b f a ch ++ rest -> Iv Pre n g k H ->
   ACall Tryz.prog 62 [.int .i64 (a : Int),.sl none (lI64 ch),.ptr ob 0,.ptr (n + ya) 0,.ptr os 0,.ptr (n + fo) 0] H fun v H' => (v = .bool true /\ Iv Pre n g (k + (chG s b f a ch).length) H') \/ (v = .bool false /\ Iv (fun _ => Qp) n g 0 H'):=by
 intro f
 induction f with
 | zero => intro a ch k H g rest ha hr; omega
 | succ f ih =>
 intro a ch k H g rest ha hr hch hya hfo hd hI
 have hnc : s.contracts.length <= 1048576:=lContract_bn (Setup.bl_contracts hs)
 have hnt : s.tenants.length <= 1048576:=lTenant_bn (Setup.bl_tenants hs)
 have rdS : ∀ {k : Nat} {H : Heap},Iv Pre n g k H -> ∀ z,(H ++ z)[os]? = some (some s.c) /\ (H ++ z)[ob]? = some (some [.int .i64 (b : Int)]):=fun h z => by
  obtain ⟨pre,g',rfl,h1,h2⟩:=h
  obtain ⟨e1,e2⟩:=hS _ _ h2
  have l1:=(List.getElem?_eq_some_iff.1 e1).1
  have l2:=(List.getElem?_eq_some_iff.1 e2).1
  rw [List.append_assoc,List.getElem?_append_left l1,List.getElem?_append_left l2]
  exact ⟨e1,e2⟩
 obtain ⟨e1,e2⟩:=rdS hI []
 rw [List.append_nil] at e1 e2
 have y1:=hI.at hya
 refine aC h62_k rfl ?_
 by_cases hab : a = b
 ·subst hab
  rw [chG_at] at hd
  have hk : l[k]? = some ch:=by
   have:=congrArg (·[0]?) hd
   simpa using this
  have hr:=round g k ch H hk hI
  have he : ((a : Int) == (a : Int)) = true:=by simp
  simp only [Tryz.f62,go_sem,e1,e2,y1,he]
  refine pK (p_CloneI ch (by omega)) ?_
  simp only [go_sem,e1,e2,y1,he]
  refine YCallK.intro hr fun v H' hq => ?_
  simp only [go_sem]
  rcases hq with ⟨rfl,hq⟩ | ⟨rfl,hq⟩
  ·refine .inl ⟨rfl, ?_⟩
   rw [chG_at]; exact hq
  ·exact .inr ⟨rfl,hq⟩
 ·have he : ((a : Int) == (b : Int)) = false:=by simp; omega
  rw [chG_ne hab] at hd ⊢
  simp only [Tryz.f62,go_sem,e1,e2,y1,he]
  refine awp_lst s.contracts (fun (_ : Heap × Nat) (_ : List Contract) => ()) (fun i q => Iv Pre n g q.2 q.1 /\ q.2 + (chR s b f a ch i (s.contracts.drop i)).length = k + (chR s b f a ch 0 s.contracts).length /\ l.drop q.2 = chR s b f a ch i (s.contracts.drop i) ++ rest)
   (fun i q => [(0,.int .i64 (a : Int)),(1,.sl none (lI64 ch)),(4,.ptr os 0),(5,.ptr (n + fo) 0),(21,.sl none (lContract s.contracts)),(22,.int .i64 s.contracts.length),(23,.int .i64 i)]) (fun _ q => q.1) (H,k) (by omega) ⟨hI,rfl,hd⟩ rfl rfl ?_ ?_
  ·rintro i ⟨H2,k2⟩ c cs hdi hcx ⟨hi2,hk2,hl2⟩ _ h0 h1 hwr
   dsimp only at hi2 hk2 hl2 ⊢
   have hcm:=List.mem_of_getElem? hcx
   rw [hdi,chR_cons] at hk2 hl2
   have hdi2 : s.contracts.drop (i + 1) = cs:=by rw [<- List.drop_drop,hdi]; rfl
   obtain ⟨u,hu⟩ : ∃ u,s.tenants[a]? = some u:=⟨_,List.getElem?_eq_getElem ha⟩
   have hu2:=lTenant_get hu
   have hua : tenAt s (a : Int) = u:=tenAt_get hu
   have ha0 : (0 : Int) <= (a : Int):=by omega
   have eS:=fun z => (rdS hi2 z).1
   have eF:=hi2.atG (x:=[some c.c]) hfo
   have q0:=q_0 H2
   have hdst:=(conE_dst (hR.con c hcm)).2
   obtain ⟨v,_,_,_,hv⟩:=tenI_get hdst
   have qT:=p_Tenant s c.dst (by omega)
   rw [tenR,imax0 hdst,decide_eq_true hdst] at qT
   obtain ⟨m,hm⟩ : ∃ m : Nat,tenI s c.dst = (m : Int):=⟨(tenI s c.dst).toNat,by omega⟩
   rw [hm] at qT hv
   have hlen : (lI64 ch).length = ch.length:=lI64_len ch
   simp only [go_sem,h0,h1,lContract_get hcx,eS,eF,q0,hu2,ha0,toList_beq]
   repeat' (first
    | (refine pK qT ?_; simp only [go_sem,h0,h1,lContract_get hcx,eS,eF,q0,hu2,ha0,toList_beq,hlen,hwr])
    | ((first | refine cS ?_ ?_ | refine gS ?_ ?_) <;> (intro hc; simp only [go_sem,hc,h0,h1,lContract_get hcx,eS,eF,q0,hu2,ha0,toList_beq,hlen,hwr])))
   ·have hne : ¬ c.src = u.name:=by simpa using hc
    rw [if_neg (by rw [hua]; exact hne),List.nil_append] at hk2 hl2
    exact ⟨(H2 ++ [some c.c],k2),⟨hi2.grow _,by rw [hdi2]; exact hk2,by rw [hdi2]; exact hl2⟩,rfl,rfl⟩
   ·have heq : c.src = u.name:=by simpa using hc
    rw [if_pos (by rw [hua]; exact heq),hm,Int.toNat_natCast] at hk2 hl2
    have hrk:=hR.rank ha hcm (by rw [hua]; exact heq)
    rw [hm,Int.toNat_natCast] at hrk
    have ihm:=ih m (ch ++ [(i : Int)]) k2 (H2 ++ [some c.c]) g (chR s b f a ch (i + 1) cs ++ rest) (by omega) (by omega) (by simp; omega) hya hfo (by rw [hl2,List.append_assoc]) (hi2.grow _)
    refine ⟨by omega,by omega,by omega, ?_⟩
    refine ACallK.intro (ACall.weak (vs:=[.int .i64 (m : Int),.sl (some 1) (lI64 (ch ++ [(i : Int)])),.ptr ob 0,.ptr (n + ya) 0,.ptr os 0,.ptr (n + fo) 0]) ihm) fun v H3 hq => ?_
    rcases hq with ⟨rfl,hi3⟩ | ⟨rfl,hq3⟩
    ·simp only [go_sem,Bool.not_true,hwr]
     refine ⟨(H3,k2 + (chG s b f m (ch ++ [(i : Int)])).length),⟨hi3, ?_, ?_⟩,rfl,rfl⟩
     ·dsimp only; rw [hdi2]; rw [List.length_append] at hk2; omega
     ·dsimp only; rw [hdi2,<- List.drop_drop,hl2,List.append_assoc,List.drop_left]
    ·simp only [go_sem,Bool.not_false]
     exact .inr hq3
  ·rintro ⟨H2,k2⟩ ⟨hi2,hk2,hl2⟩ _
   dsimp only at hi2 hk2 hl2 ⊢
   rw [List.drop_length,chR_nil,List.length_nil,Nat.add_zero] at hk2
   subst hk2
   simp only [go_sem,Int.lt_irrefl,decide_false]
   exact .inl hi2
theorem p_chains (s : Setup) (a b : Nat) (H : Heap) : ACall Tryz.prog 27 [.agg s.c,.int .i64 (a : Int),.int .i64 (b : Int)] H (fun v H' => v = .fn (.func 61) [] [.ptr (H.length + 2) 0,.ptr H.length 0,.ptr (H.length + 1) 0] /\ H' = H ++ [some s.c,some [.int .i64 (a : Int)],some [.int .i64 (b : Int)]]):=by
 refine aC h27_k rfl ?_
 simp only [Tryz.f27,go_sem,List.length_append,List.append_assoc,List.cons_append,List.nil_append,List.length_cons,List.length_nil,Nat.add_assoc,Nat.reduceAdd]
 all_goals first | rfl | exact ⟨rfl,rfl⟩ | skip
theorem p_chainsIt (s : Setup) (hs : bulkL s.c <= 1048576) (hR : R19 s) (a b o n os oa ob : Nat) (ha : a < s.tenants.length) (L : LoopRec) (Pre : Nat -> Heap -> Prop) (Qp : Heap -> Prop) (H0 : Heap) (hn : H0.length = n) (h0 : Pre 0 H0)
  (hS : ∀ k pre,Pre k pre -> pre[os]? = some (some s.c) /\ pre[ob]? = some (some [.int .i64 (b : Int)])) (hA : H0[oa]? = some (some [.int .i64 (a : Int)]))
  (round : ∀ g k y H,(chG s b (s.tenants.length + 1) a [])[k]? = some y -> Iv Pre n g k H -> YCall Tryz.prog o L [.sl (some 1) (lI64 y)] H fun v H' => (v = .bool true /\ Iv Pre n g (k + 1) H') \/ (v = .bool false /\ Iv (fun _ => Qp) n g 0 H'))
  (fin : ∀ pre,Pre (chG s b (s.tenants.length + 1) a []).length pre -> Qp pre) : ACall Tryz.prog 61 [.yld o L,.ptr ob 0,.ptr os 0,.ptr oa 0] H0 (fun _ H' => ∃ pre g,H' = pre ++ g /\ pre.length = n /\ Qp pre):=by
 subst hn
 have hnt : s.tenants.length <= 1048576:=lTenant_bn (Setup.bl_tenants hs)
 have hlt:=(List.getElem?_eq_some_iff.1 hA).1
 have e1 : ∀ z : Heap,(H0 ++ z)[oa]? = some (some [.int .i64 (a : Int)]):=fun z => by rw [List.getElem?_append_left hlt]; exact hA
 have hrk : rnk s a < s.tenants.length + 1:=by
  have:=cntT_le (rch s a)
  rw [rch_len] at this
  unfold rnk; omega
 refine aC h61_k rfl ?_
 have e2 : ∀ u v : Option (List AV),(H0 ++ [u,v])[H0.length + 1]? = some v:=fun u v => by rw [List.getElem?_append_right (by omega),Nat.add_sub_cancel_left]; rfl
 have e3 : ∀ u v z : Option (List AV),(H0 ++ [u,v]).set (H0.length + 1) z = H0 ++ [u,z]:=fun u v z => by rw [List.set_append_right _ _ (by omega),Nat.add_sub_cancel_left]; rfl
 simp only [Tryz.f61,go_sem,List.length_append,List.append_assoc,List.cons_append,List.nil_append,e1,e2,e3]
 have hw:=p_chainsW s hs hR b o 0 1 H0.length os ob L Pre Qp (chG s b (s.tenants.length + 1) a []) hS round (s.tenants.length + 1) a [] 0 (H0 ++ [some [.yld o L],some [.fn (.func 62) [] [.ptr ob 0,.ptr (H0.length + 0) 0,.ptr os 0,.ptr (H0.length + 1) 0]]])
  [some [.yld o L],some [.fn (.func 62) [] [.ptr ob 0,.ptr (H0.length + 0) 0,.ptr os 0,.ptr (H0.length + 1) 0]]] [] ha hrk (by simp; omega) rfl rfl (by simp) ⟨H0,[],by simp,rfl,h0⟩
 refine ACallK.intro hw fun v H' hr => ?_
 simp only [go_sem]
 rcases hr with ⟨rfl,pre,g',rfl,h1,h2⟩ | ⟨rfl,pre,g',rfl,h1,h2⟩
 ·exact ⟨pre,_,rfl,h1,fin pre (by rwa [Nat.zero_add] at h2)⟩
 ·exact ⟨pre,_,rfl,h1,h2⟩
end Go.AI
namespace Go.AI
open Go.Proofs
set_option maxRecDepth 50000
def lCh (l : List (List Int)) : List AV:=l.map fun c => .sl none (lI64 c)
theorem lCh_len (l : List (List Int)) : (lCh l).length = l.length:=by simp [lCh]
theorem lCh_snoc (l : List (List Int)) (c : List Int) : lCh l ++ [.sl none (lI64 c)] = lCh (l ++ [c]):=by simp [lCh]
@[go_sem] theorem lCh_pure (l : List (List Int)) : pureL (lCh l) = true:=by
 induction l with
 | nil => rfl
 | cons c l ih => simp only [lCh,List.map_cons,pureL,AV.pure,lI64_pure,Bool.true_and]; exact ih
def chB (s : Setup) (a b : Nat) (r : List AV) (e : Int) (out : List (List Int)) (st : Int) : Heap :=
 [some s.c,some [.sl (some 1) r],some [.int .i64 e],some [.sl (some 1) (lCh out)],some s.c,some [.int .i64 (a : Int)],some [.int .i64 (b : Int)],some (loopc st (frameVals 23 [(6,.ptr 1 0),(7,.ptr 2 0),(8,.ptr 3 0),(13,.fn (.func 61) [] [.ptr 6 0,.ptr 4 0,.ptr 5 0])]))]
def chnR (l : List (List Int)) : AV:=if 200 < l.length then .tup [.sl none [],.int .i64 2] else .tup [.sl none (lCh l),.int .i64 0]
theorem chnR_pure (l : List (List Int)) : (chnR l).pure = true:=by
 unfold chnR; split
 ·rfl
 ·simp only [AV.pure,pureL,lCh_pure,Bool.and_true]
theorem p_Chains (s : Setup) (hs : bulkL s.c <= 1048576) (hR : R19 s) (a b : Nat) (ha : a < s.tenants.length) : PCall Tryz.prog 6 [.agg s.c,.int .i64 (a : Int),.int .i64 (b : Int)] (chnR (chG s b (s.tenants.length + 1) a [])):=by
 have c1:=p_chains s a b [some s.c,some [.sl (some 1) []],some [.int .i64 0],some [.sl (some 1) []]]
 generalize hl : chG s b (s.tenants.length + 1) a [] = l
 refine pB h6_k rfl ?_ (hv:=chnR_pure l)
 simp only [Tryz.f6,go_sem]
 refine ACallK.intro c1 fun v H' hq => ?_
 obtain ⟨rfl,rfl⟩:=hq
 simp only [go_sem]
 refine rfK_intro (tag:=6) rfl (ACall.mono (p_chainsIt s hs hR a b 7 8 4 5 6 ha _ (fun k pre => pre = chB s a b [] 0 (l.take k) 0 /\ k <= 200) (fun pre => (pre = chB s a b [] 0 l 0 /\ l.length <= 200) \/ (∃ out,pre = chB s a b [] 2 out (-2) /\ 200 < l.length)) (chB s a b [] 0 [] 0) rfl ⟨rfl,by omega⟩ ?_ rfl ?_ ?_) fun v H2 hq => ?_)
 ·rintro k pre ⟨rfl,_⟩; exact ⟨rfl,rfl⟩
 ·rw [hl]
  rintro g k y H hy ⟨pre,g',rfl,hn,rfl,hk⟩
  have hkl:=(List.getElem?_eq_some_iff.1 hy).1
  have htk : l.take (k + 1) = l.take k ++ [y]:=by
   rw [List.take_add_one,hy]; rfl
  refine ycall_of_awp (h:=h6) (n:=23) mixed rfl ⟨by kernel_rfl,by kernel_rfl⟩ (by decide) _ _ _ _ rfl rfl rfl ?_
  show awp _ _ _ _ _ _ [(14,.sl (some 1) (lI64 y)),(0,.undef),(1,.undef),(2,.undef),(3,.undef),(4,.undef),(5,.undef),(6,.ptr 1 0),(7,.ptr 2 0),(8,.ptr 3 0),(9,.undef),(10,.undef),(11,.undef),(12,.undef),(13,.fn (.func 61) [] [.ptr 6 0,.ptr 4 0,.ptr 5 0]),(14,.undef),(15,.undef),(16,.undef),(17,.undef),(18,.undef),(19,.undef),(20,.undef),(21,.undef),(22,.undef)] _
  generalize hG : g ++ g' = G
  have hkl2 : (lCh (l.take k)).length = k:=by rw [lCh_len,List.length_take]; omega
  have hsn : lCh (l.take k) ++ [.sl none (lI64 y)] = lCh (l.take (k + 1)):=by rw [lCh_snoc,htk]
  have hkl3 : (lCh (l.take (k + 1))).length = k + 1:=by rw [lCh_len,List.length_take]; omega
  by_cases h200 : k = 200
  ·have hd2 : (200 : Int) < ((k + 1 : Nat) : Int):=by omega
   simp only [go_sem,chB,hsn,hkl2,hkl3,hd2]
   exact ⟨_,rfl,by omega,by omega,_,rfl,.inr ⟨chB s a b [] 2 (l.take (k + 1)) (-2),g',by rw [<- hG]; rfl,rfl,.inr ⟨_,rfl,by omega⟩⟩⟩
  ·have hd2 : ¬ (200 : Int) < ((k + 1 : Nat) : Int):=by omega
   simp only [go_sem,chB,hsn,hkl2,hkl3,hd2,decide_false]
   exact ⟨_,rfl,by omega,by omega,_,rfl,.inl ⟨chB s a b [] 0 (l.take (k + 1)) 0,g',by rw [<- hG]; rfl,rfl,rfl,by omega⟩⟩
 ·rw [hl]
  rintro pre ⟨rfl,hk⟩
  exact .inl ⟨by rw [List.take_length],hk⟩
 ·obtain ⟨pre,g,rfl,hn,hq⟩:=hq
  rcases hq with ⟨rfl,h⟩ | ⟨out,rfl,h⟩
  ·refine ⟨0,_,rfl,.inl ⟨rfl, ?_⟩⟩
   rw [chnR,if_neg (by omega)]
   simp only [go_sem,chB]
  ·refine ⟨-2,_,rfl,.inr (.inl ⟨rfl, ?_⟩)⟩
   rw [chnR,if_pos h]
   simp only [go_sem,chB]
end Go.AI
namespace Go.AI
open Go.Proofs
set_option maxRecDepth 50000
def cntE (l : List (Int × Int)) : List (AV × AV):=l.map fun p => (iKey p.1,.int .i64 p.2)
def cntI (l : List (Int × Int)) (b : Int) : Int:=((l.find? fun p => p.1 == b).map (·.2)).getD 0
def cntU : List (Int × Int) -> Int -> Int -> List (Int × Int)
 | [],b,v => [(b,v)]
 | p :: l,b,v => if p.1 == b then (b,v) :: l else p :: cntU l b v
def okC (l : List (Int × Int)) : Prop:=l.Pairwise fun p q => p.1 ≠ q.1
theorem afind_shift (k : AV) : ∀ (es : List (AV × AV)) (i : Nat),afind k es (i + 1) = (afind k es i).map fun q => (q.1 + 1,q.2)
 | [],_ => rfl
 | p :: es,i => by
  rw [afind,afind]
  split
  ·rfl
  ·exact afind_shift k es (i + 1)
theorem mapUpd_cons (p : AV × AV) (es : List (AV × AV)) (k v : AV) : mapUpd (p :: es) k v = if keyEq p.1 k = true then (k,v) :: es else p :: mapUpd es k v:=by
 unfold mapUpd
 rw [afind]
 by_cases h : keyEq p.1 k = true
 ·rw [if_pos h,if_pos h]; rfl
 ·rw [if_neg h,if_neg h,afind_shift]
  cases afind k es 0 <;> rfl
theorem mapUpd_cnt (b v : Int) : ∀ l : List (Int × Int),mapUpd (cntE l) (iKey b) (.int .i64 v) = cntE (cntU l b v)
 | [] => rfl
 | p :: l => by
  have ih:=mapUpd_cnt b v l
  unfold cntE at ih ⊢
  rw [List.map_cons,mapUpd_cons,keyEq_i,ih,cntU]
  split <;> rfl
theorem lk_cnt (b : Int) : ∀ l : List (Int × Int),lkres false (.int .i64 0) (afind (iKey b) (cntE l) 0) = .int .i64 (cntI l b)
 | [] => rfl
 | p :: l => by
  have ih:=lk_cnt b l
  unfold cntE cntI at ih ⊢
  rw [List.map_cons,afind,keyEq_i,List.find?_cons]
  cases h : p.1 == b with
  | true => rfl
  | false =>
   rw [if_neg (by decide),afind_shift,<- ih]
   cases afind (iKey b) _ 0 <;> rfl
theorem cntI_upd (b v x : Int) : ∀ l : List (Int × Int),cntI (cntU l b v) x = if b = x then v else cntI l x
 | [] => by
  unfold cntU cntI
  rw [List.find?_cons]
  by_cases h : b = x
  ·simp [h]
  ·rw [beq_eq_false_iff_ne.2 h,if_neg h]
 | p :: l => by
  have ih:=cntI_upd b v x l
  unfold cntI at ih ⊢
  rw [cntU]
  cases h : p.1 == b with
  | true =>
   have h2 : p.1 = b:=by simpa using h
   rw [if_pos rfl,List.find?_cons,List.find?_cons]
   by_cases h3 : b = x
   ·simp [h3]
   ·rw [beq_eq_false_iff_ne.2 h3,h2,beq_eq_false_iff_ne.2 h3,if_neg h3]
  | false =>
   rw [if_neg (by decide),List.find?_cons,List.find?_cons]
   cases h3 : p.1 == x with
   | true =>
    have h4 : p.1 = x:=by simpa using h3
    rw [if_neg]
    rintro rfl
    rw [h3] at h; cases h
   | false => exact ih
theorem cntU_mem {b v : Int} {q : Int × Int} : ∀ {l : List (Int × Int)},q ∈ cntU l b v -> q.1 = b \/ q ∈ l
 | [],h => by simp [cntU] at h; exact .inl (by rw [h])
 | p :: l,h => by
  rw [cntU] at h
  split at h
  ·rcases List.mem_cons.1 h with rfl | h
   ·exact .inl rfl
   ·exact .inr (List.mem_cons_of_mem _ h)
  ·rcases List.mem_cons.1 h with rfl | h
   ·exact .inr (List.mem_cons_self ..)
   ·exact (cntU_mem h).imp id (List.mem_cons_of_mem _)
theorem okC_upd (b v : Int) : ∀ {l : List (Int × Int)},okC l -> okC (cntU l b v)
 | [],_ => List.pairwise_singleton ..
 | p :: l,h => by
  have h1:=List.pairwise_cons.1 h
  rw [cntU]
  cases hp : p.1 == b with
  | true =>
   have hb : p.1 = b:=by simpa using hp
   rw [if_pos rfl]
   exact List.pairwise_cons.2 ⟨fun q hq => by rw [<- hb]; exact h1.1 q hq,h1.2⟩
  | false =>
   rw [if_neg (by decide)]
   refine List.pairwise_cons.2 ⟨fun q hq => ?_,okC_upd b v h1.2⟩
   rcases cntU_mem hq with h2 | h2
   ·rw [h2]; exact beq_eq_false_iff_ne.1 hp
   ·exact h1.1 q h2
theorem okC_dist {l : List (Int × Int)} (h : okC l) : distK (cntE l):=by
 unfold distK cntE
 rw [List.pairwise_map]
 exact h.imp fun {p q} hp => by rw [keyEq_i]; exact beq_eq_false_iff_ne.2 hp
@[go_sem] theorem bnd_cnt (k : Nat) (l : List (Int × Int)) : bndL k (mapc (cntE l)) = true:=by
 have : bndL k ((cntE l).flatMap fun p => [p.1,p.2]) = true:=bndL_iff.2 fun c hc => by
  obtain ⟨p,hp,hc⟩:=List.mem_flatMap.1 hc
  obtain ⟨q,_,rfl⟩:=List.mem_map.1 hp
  rcases List.mem_cons.1 hc with rfl | hc
  ·rfl
  ·rcases List.mem_singleton.1 hc with rfl; rfl
 simp only [mapc,bndL,AV.bnd,this,Bool.and_true]
section
variable {P : Program} {t kt et : TypeId} {K : Kt} {e : Env} {H : Heap} {d : Tmp} {o : Nat} {l : List (Int × Int)}
theorem keysIn_cnt (hi : P.underlying kt = some (.int .i64)) (b : Int) : keysIn P kt (iKey b :: (cntE l).map (·.1)):=keysIn_int hi fun a ha => by
 rcases List.mem_cons.1 ha with rfl | ha
 ·exact ⟨_,rfl⟩
 ·obtain ⟨p,hp,rfl⟩:=List.mem_map.1 ha
  obtain ⟨q,hq,rfl⟩:=List.mem_map.1 hp
  exact ⟨_,rfl⟩
theorem lkpK_cnt (b : Int) (hu : P.underlying t = some (.map kt et)) (hi : P.underlying kt = some (.int .i64)) (hz : zeroAV P et = some (.int .i64 0)) (hm : H[o]? = some (some (mapc (cntE l)))) (hd : okC l) (h : K ((d,.int .i64 (cntI l b)) :: e) H) :
  lkpK P t false (.mapr o) (.int .i64 b) d K e H:=by
 unfold lkpK
 rw [hu]
 dsimp only
 rw [mapOf_at hm]
 exact ⟨keysIn_cnt hi b,okC_dist hd,_,hz,by rw [show AV.int .i64 b = iKey b from rfl,lk_cnt]; exact h⟩
theorem updK_cnt (b v : Int) (hu : P.underlying t = some (.map kt et)) (hi : P.underlying kt = some (.int .i64)) (hm : H[o]? = some (some (mapc (cntE l)))) (hd : okC l) (h : K e (H.set o (some (mapc (cntE (cntU l b v)))))) :
  updK P t (.mapr o) (.int .i64 b) (.int .i64 v) K e H:=by
 unfold updK
 dsimp only
 rw [hu]
 dsimp only
 rw [mapOf_at hm]
 exact ⟨keysIn_cnt hi b,okC_dist hd,rfl,by rw [show AV.int .i64 b = iKey b from rfl,mapUpd_cnt]; exact h⟩
end
def viaAt (s : Setup) (x : Int) : Int:=((s.contracts[x.toNat]?).map (·.via)).getD 0
def hasV (s : Setup) (c : List Int) (b : Int) : Bool:=c.any fun x => viaAt s x == b
def cntC (s : Setup) (l : List (List Int)) (b : Int) : Int:=(l.countP fun c => hasV s c b : Nat)
def alwB (s : Setup) (l : List (List Int)) (b : Int) : Bool:=decide (l ≠ []) && l.all fun c => hasV s c b
def alw (s : Setup) (l : List (List Int)) (n : Nat) : List Int:=((List.range n).filter fun (i : Nat) => alwB s l i).map fun (i : Nat) => (i : Int)
def alwR (s : Setup) (l : List (List Int)) : AV:=if 200 < l.length then .tup [.sl none [],.int .i64 2] else .tup [.sl none (lI64 (alw s l s.network.nodes.length)),.int .i64 0]
def vch (s : Setup) (l : List (List Int)) : Prop:=∀ c ∈ l,c.length <= 1048577 /\ ∀ x ∈ c,0 <= x /\ x < (s.contracts.length : Int)
theorem alw_snoc (s : Setup) (l : List (List Int)) (n : Nat) : alw s l (n + 1) = if alwB s l (n : Int) = true then alw s l n ++ [(n : Int)] else alw s l n:=by
 unfold alw
 rw [List.range_succ,List.filter_append,List.map_append]
 cases h : alwB s l (n : Int) <;> simp [h]
theorem alwB_cnt (s : Setup) {l : List (List Int)} (hl : l ≠ []) (b : Int) : alwB s l b = (cntC s l b == (l.length : Int)):=by
 have h1:=List.countP_eq_length (p:=fun c => hasV s c b) (l:=l)
 unfold alwB cntC
 rw [decide_eq_true hl,Bool.true_and,Bool.eq_iff_iff,List.all_eq_true,beq_iff_eq]
 exact ⟨fun h => by rw [h1.2 h],fun h => h1.1 (by omega)⟩
theorem cntC_snoc (s : Setup) (l : List (List Int)) (c : List Int) (b : Int) : cntC s (l ++ [c]) b = cntC s l b + if hasV s c b = true then 1 else 0:=by
 unfold cntC
 rw [List.countP_append,List.countP_singleton]
 split <;> simp
theorem cntC_le (s : Setup) (l : List (List Int)) (b : Int) : 0 <= cntC s l b /\ cntC s l b <= (l.length : Int):=by
 have:=List.countP_le_length (p:=fun c => hasV s c b) (l:=l)
 unfold cntC; omega
theorem lCh_get {l : List (List Int)} {k : Nat} {c : List Int} (h : l[k]? = some c) : (lCh l)[k]? = some (.sl none (lI64 c)):=by simp [lCh,h]
@[go_sem] theorem lCh_cells (l : List (List Int)) : (∀ x ∈ lCh l,x.cells.length = 1) = True:=eq_true fun x hx => by
 obtain ⟨c,_,rfl⟩:=List.mem_map.1 hx; rfl
@[go_sem] theorem bnd_lI64 (k : Nat) (l : List Int) : bndL k (lI64 l) = true:=bndL_iff.2 fun c hc => by
 obtain ⟨p,_,rfl⟩:=List.mem_map.1 hc; rfl
@[go_sem] theorem bnd_lCh (k : Nat) (l : List (List Int)) : bndL k (lCh l) = true:=bndL_iff.2 fun c hc => by
 obtain ⟨p,_,rfl⟩:=List.mem_map.1 hc
 simp only [AV.bnd,bnd_lI64]
def iCnt (s : Setup) (l : List (List Int)) (B : List Int) (seen : List Nat) (E : List (Int × Int)) : Prop :=
 okC E /\ (∀ b,(∃ i ∈ seen,B[i]? = some b) -> cntI E b = cntC s l b + 1) /\ ∀ b,(¬ ∃ i ∈ seen,B[i]? = some b) -> cntI E b = cntC s l b
theorem distL_idx {l : List Int} (h : distL iKey l) {i j : Nat} {x : Int} (hi : l[i]? = some x) (hj : l[j]? = some x) : i = j:=by
 induction l generalizing i j with
 | nil => cases hi
 | cons y l ih =>
  obtain ⟨h1,h2⟩:=h
  have no : ∀ {k : Nat},l[k]? = some y -> False:=fun hk => by
   have:=h1 y (List.mem_of_getElem? hk)
   rw [keyEq_i] at this; simp at this
  cases i with
  | zero =>
   cases j with
   | zero => rfl
   | succ j => simp at hi hj; subst hi; exact (no hj).elim
  | succ i =>
   cases j with
   | zero => simp at hi hj; subst hj; exact (no hi).elim
   | succ j => simp at hi hj; rw [ih h2 hi hj]
theorem iCnt_step {s : Setup} {l : List (List Int)} {B : List Int} {seen : List Nat} {E : List (Int × Int)} (h : iCnt s l B seen E) (hd : distL iKey B) {i : Nat} {b : Int} (hi : B[i]? = some b) (hn : i ∉ seen) :
  cntI E b = cntC s l b /\ iCnt s l B (seen ++ [i]) (cntU E b (cntI E b + 1)):=by
 obtain ⟨h1,h2,h3⟩:=h
 have hb : cntI E b = cntC s l b:=h3 b fun ⟨j,hj,hj2⟩ => hn (distL_idx hd hi hj2 ▸ hj)
 refine ⟨hb,okC_upd _ _ h1,fun x hx => ?_,fun x hx => ?_⟩
 ·rw [cntI_upd]
  by_cases hxb : b = x
  ·subst hxb; rw [if_pos rfl,hb]
  ·rw [if_neg hxb]
   refine h2 x ?_
   obtain ⟨j,hj,hj2⟩:=hx
   rcases List.mem_append.1 hj with hj | hj
   ·exact ⟨j,hj,hj2⟩
   ·rcases List.mem_singleton.1 hj with rfl
    rw [hi] at hj2; cases hj2; exact absurd rfl hxb
 ·have hxb : ¬ b = x:=by rintro rfl; exact hx ⟨i,by simp,hi⟩
  rw [cntI_upd,if_neg hxb]
  exact h3 x fun ⟨j,hj,hj2⟩ => hx ⟨j,by simp [hj],hj2⟩
theorem iCnt_end {s : Setup} {l : List (List Int)} {B : List Int} {seen : List Nat} {E : List (Int × Int)} (h : iCnt s l B seen E) (ha : ∀ i,i < B.length -> i ∈ seen) {c : List Int} (hB : ∀ x,x ∈ B ↔ x ∈ c.map (viaAt s)) : okC E /\ ∀ b,cntI E b = cntC s (l ++ [c]) b:=by
 obtain ⟨h1,h2,h3⟩:=h
 refine ⟨h1,fun b => ?_⟩
 rw [cntC_snoc]
 have key : (∃ i ∈ seen,B[i]? = some b) ↔ hasV s c b = true:=by
  unfold hasV
  rw [List.any_eq_true]
  constructor
  ·rintro ⟨i,_,hi⟩
   obtain ⟨x,hx,hxb⟩:=List.mem_map.1 ((hB b).1 (List.mem_of_getElem? hi))
   exact ⟨x,hx,by simpa using hxb⟩
  ·rintro ⟨x,hx,hxb⟩
   have hm:=(hB b).2 (List.mem_map.2 ⟨x,hx,by simpa using hxb⟩)
   obtain ⟨i,hi⟩:=List.getElem?_of_mem hm
   exact ⟨i,ha i (List.getElem?_eq_some_iff.1 hi).1,hi⟩
 by_cases hk : hasV s c b = true
 ·rw [if_pos hk]; exact h2 b (key.2 hk)
 ·rw [if_neg hk,Int.add_zero]; exact h3 b fun h => hk (key.1 h)
end Go.AI
namespace Go.AI
open Go.Proofs
set_option maxRecDepth 50000
set_option maxHeartbeats 2000000 in
theorem p_Always (s : Setup) (hs : bulkL s.c <= 1048576) (a b : Nat) (l : List (List Int)) (hv : vch s l) (hc : PCall Tryz.prog 6 [.agg s.c,.int .i64 (a : Int),.int .i64 (b : Int)] (chnR l)) :
  PCall Tryz.prog 8 [.agg s.c,.int .i64 (a : Int),.int .i64 (b : Int)] (alwR s l):=by
 have hnn : s.network.nodes.length <= 1048576:=lNode_bn (Setup.bl_network_nodes hs)
 refine pB h8_k rfl ?_ (hv:=by unfold alwR; split <;> simp only [AV.pure,pureL,lI64_pure,Bool.and_true])
 by_cases h200 : 200 < l.length
 ·rw [chnR,if_pos h200] at hc
  rw [alwR,if_pos h200]
  simp only [Tryz.f8,go_sem]
  repeat' (first
   | (refine pK (hc) ?_; simp only [go_sem,Int.reduceBNe,List.length_nil,Int.reduceBEq])
   | ((first | refine cS ?_ ?_ | refine gS ?_ ?_) <;> (intro hc; simp only [go_sem,hc,Int.reduceBNe,List.length_nil,Int.reduceBEq])))
  all_goals first | rfl | exact absurd hc (by decide) | skip
 rw [chnR,if_neg h200] at hc
 rw [alwR,if_neg h200]
 rcases List.eq_nil_or_concat l with rfl | hne
 ·have h0 : alw s [] s.network.nodes.length = []:=by
   unfold alw
   rw [List.filter_eq_nil_iff.2 (fun i _ => by simp [alwB])]; rfl
  rw [h0]
  simp only [Tryz.f8,go_sem]
  repeat' (first
   | (refine pK (hc) ?_; simp only [go_sem,Int.reduceBNe,List.length_nil,Int.reduceBEq])
   | ((first | refine cS ?_ ?_ | refine gS ?_ ?_) <;> (intro hc; simp only [go_sem,hc,Int.reduceBNe,List.length_nil,Int.reduceBEq])))
  all_goals first | rfl | exact absurd hc (by decide) | skip
 have hne : l ≠ []:=by obtain ⟨x,y,rfl⟩:=hne; simp
 have hl0 : ((l.length : Int) == 0) = false:=by
  have:=List.length_pos_iff.2 hne
  rw [beq_eq_false_iff_ne]; omega
 have hll : (lCh l).length = l.length:=lCh_len l
 have hint : Tryz.prog.underlying 3 = some (.int .i64):=by simp only [go_sem]
 have hz : zeroAV Tryz.prog 3 = some (.int .i64 0):=by kernel_rfl
 simp only [Tryz.f8,go_sem]
 refine pK hc ?_
 simp only [go_sem,hll,hl0,Int.reduceBNe]
 refine awp_lst l (fun (_ : List (Int × Int)) (_ : List (List Int)) => ()) (fun k E => okC E /\ ∀ b,cntI E b = cntC s (l.take k) b) (fun k _ => [(3,.ptr 0 0),(8,.sl none (lCh l)),(10,.mapr 1),(35,.sl none (lCh l)),(36,.int .i64 l.length),(37,.int .i64 k)])
  (fun k E => [some s.c,some (mapc (cntE E))]) [] (by omega) ⟨List.Pairwise.nil,fun b => rfl⟩ rfl rfl ?_ ?_
 ·intro k E c cs hd hx hI _ h0 h1 hw
  have hx2:=lCh_get hx
  have hcm:=List.mem_of_getElem? hx
  simp only [go_sem,h0,h1,hx2]
  refine awp_lst c (fun (_ : List Int) (_ : List Int) => ()) (fun i B => distL iKey B /\ ∀ x,x ∈ B ↔ x ∈ (c.take i).map (viaAt s)) (fun i _ => [(3,.ptr 0 0),(8,.sl none (lCh l)),(10,.mapr 1),(13,.mapr 2),(35,.sl none (lCh l)),(36,.int .i64 l.length),(37,.int .i64 k),(42,.sl none (lI64 c)),(43,.int .i64 c.length),(44,.int .i64 i)])
   (fun i B => [some s.c,some (mapc (cntE E)),some (mapc (setE iKey B))]) [] (by have:=(hv c hcm).1; omega) ⟨trivial,fun x => by simp⟩ rfl rfl ?_ ?_
  ·intro i B x xs hd2 hx3 hI2 _ g0 g1 gw
   obtain ⟨hx0,hx1⟩:=(hv c hcm).2 x (List.mem_of_getElem? hx3)
   obtain ⟨m,rfl⟩ : ∃ m : Nat,x = (m : Int):=⟨x.toNat,by omega⟩
   obtain ⟨ct,hct⟩ : ∃ ct,s.contracts[m]? = some ct:=⟨_,List.getElem?_eq_getElem (by omega)⟩
   have hct2:=lContract_get hct
   have hvia : viaAt s (m : Int) = ct.via:=by simp [viaAt,hct]
   have htk : c.take (i + 1) = c.take i ++ [(m : Int)]:=by rw [List.take_add_one,hx3]; rfl
   simp only [go_sem,g0,g1,lI64_get hx3,hct2,hx0]
   refine updK_setI (kt:=3) (et:=4) B ct.via (by simp only [go_sem]) rfl (keysIn_int hint fun a ha => by
    rcases List.mem_cons.1 ha with rfl | ha
    ·exact ⟨_,rfl⟩
    ·obtain ⟨z,_,rfl⟩:=List.mem_map.1 ha; exact ⟨_,rfl⟩) hI2.1 ?_
   simp only [go_sem,gw]
   refine ⟨_,⟨dist_add _ hI2.1,fun y => ?_⟩,rfl,rfl⟩
   rw [htk,List.map_append,List.mem_append,<- hI2.2 y,List.map_cons,List.map_nil,List.mem_singleton,hvia]
   split
   ·rename_i hany
    have : ct.via ∈ B:=by simpa using hany
    exact ⟨.inl,fun h => h.elim id fun h => h ▸ this⟩
   ·rw [List.mem_append,List.mem_singleton]
  ·intro B hI2 _
   simp only [go_sem,Int.lt_irrefl,decide_false]
   refine rngK_map (kt:=3) (et:=4) (by simp only [go_sem]) (mapOf_at rfl) ?_
   simp only [go_sem]
   refine awp_wh (σ:=List Nat × List (Int × Int)) (fun _ => [(3,.ptr 0 0),(8,.sl none (lCh l)),(10,.mapr 1),(35,.sl none (lCh l)),(36,.int .i64 l.length),(37,.int .i64 k),(57,.it 3)])
    (fun q => [some s.c,some (mapc (cntE q.2)),some (mapc (setE iKey B)),some (iterM 2 (setE iKey B).length q.1)]) (fun q => iCnt s (l.take k) B q.1 q.2) (fun q => leftN (setE iKey B).length q.1) ([],E) ⟨hI.1,fun b ⟨i,hi,_⟩ => (by simp at hi),fun b _ => hI.2 b⟩ rfl rfl ?_
   rintro ⟨seen,E2⟩ hI3
   dsimp only at hI3 ⊢
   simp only [go_sem]
   refine nxtK_map (m:=2) (es:=setE iKey B) (seen:=seen) rfl (mapOf_at rfl) (fun hall => ?_) (fun i p hp hn => ?_)
   ·simp only [go_sem,hw]
    have hE:=iCnt_end hI3 (fun i hi => hall i (by simpa [setE] using hi)) hI2.2
    have htk : l.take (k + 1) = l.take k ++ [c]:=by rw [List.take_add_one,hx]; rfl
    refine ⟨E2, ?_,rfl,rfl⟩
    rw [htk]; simpa using hE
   ·obtain ⟨z,hz1,rfl⟩ : ∃ z,B[i]? = some z /\ p = (iKey z,.bool true):=by
     simp only [setE,List.getElem?_map] at hp
     cases hb : B[i]? with
     | none => rw [hb] at hp; cases hp
     | some z => rw [hb] at hp; cases hp; exact ⟨z,rfl,rfl⟩
    obtain ⟨hcz,hst⟩:=iCnt_step hI3 hI2.1 hz1 hn
    have hle:=cntC_le s (l.take k) z
    have hlt : (l.take k).length <= 200:=by rw [List.length_take]; omega
    have hw2 : IntKind.i64.wrap (cntI E2 z + 1) = cntI E2 z + 1:=w64 (by omega) (by omega)
    simp only [go_sem]
    refine entK_map (m:=2) (es:=setE iKey B) (seen:=seen) (i:=i) (p:=(iKey z,.bool true)) rfl (mapOf_at rfl) hp ?_
    simp only [go_sem]
    refine lkpK_cnt (kt:=3) (et:=3) (l:=E2) z (by kernel_rfl) hint hz rfl hI3.1 ?_
    simp only [go_sem,hw2]
    refine updK_cnt (kt:=3) (et:=3) (l:=E2) z _ (by kernel_rfl) hint rfl hI3.1 ?_
    simp only [go_sem]
    exact ⟨(seen ++ [i],cntU E2 z (cntI E2 z + 1)),hst,leftN_lt (List.getElem?_eq_some_iff.1 hp).1 hn,rfl,rfl⟩
 ·intro E hI _
  rw [List.take_length] at hI
  simp only [go_sem,Int.lt_irrefl,decide_false]
  refine awp_lst s.network.nodes (fun (_ : List Int) (_ : List Node) => ()) (fun k o => o = alw s l k) (fun k o => [(8,.sl none (lCh l)),(10,.mapr 1),(17,.sl (some 1) (lI64 o)),(70,.int .i64 s.network.nodes.length),(71,.int .i64 k)])
   (fun k _ => [some s.c,some (mapc (cntE E))]) [] (by omega) rfl rfl rfl ?_ ?_
  ·intro k o nd nds hd hx hI2 _ h0 h1 hw
   subst hI2
   have hln : (alw s l k).length <= k:=by unfold alw; rw [List.length_map]; exact Nat.le_trans (List.length_filter_le _ _) (by simp)
   have hlo : (lI64 (alw s l k)).length = (alw s l k).length:=lI64_len _
   simp only [go_sem,h0,h1]
   refine lkpK_cnt (kt:=3) (et:=3) (l:=E) (k : Int) (by kernel_rfl) hint hz rfl hI.1 ?_
   simp only [go_sem,hll,hI.2,<- alwB_cnt s hne]
   repeat' (first
    | ((first | refine cS ?_ ?_ | refine gS ?_ ?_) <;> (intro hc; simp only [go_sem,hc,hw,hlo,lI64_snoc])))
   ·refine ⟨by omega,by omega,_, ?_,rfl,rfl⟩
    rw [alw_snoc,if_pos hc]
   ·refine ⟨_, ?_,rfl,rfl⟩
    rw [alw_snoc,if_neg (by rw [hc]; decide)]
  ·intro o hI2 _
   subst hI2
   simp only [go_sem,Int.lt_irrefl,decide_false]
end Go.AI
namespace Go.AI
open Go.Proofs
set_option maxRecDepth 50000
def chT (s : Setup) (b : Nat) : Nat -> Nat -> List Int -> List (List Int)
 | 0,_,_ => []
 | f + 1,a,ch => if a = b then [ch] else
  s.contracts.zipIdx.foldl (fun o p => if p.1.src = (tenAt s (a : Int)).name /\ o.length <= 200 then o ++ chT s b f (tenI s p.1.dst).toNat (ch ++ [(p.2 : Int)]) else o) []
def chRT (s : Setup) (b f a : Nat) (ch : List Int) (i : Nat) (r : List Contract) (o : List (List Int)) : List (List Int) :=
 (r.zipIdx i).foldl (fun o p => if p.1.src = (tenAt s (a : Int)).name /\ o.length <= 200 then o ++ chT s b f (tenI s p.1.dst).toNat (ch ++ [(p.2 : Int)]) else o) o
theorem chRT_nil (s : Setup) (b f a : Nat) (ch : List Int) (i : Nat) (o : List (List Int)) : chRT s b f a ch i [] o = o:=rfl
theorem chRT_cons (s : Setup) (b f a : Nat) (ch : List Int) (i : Nat) (c : Contract) (r : List Contract) (o : List (List Int)) :
  chRT s b f a ch i (c :: r) o = chRT s b f a ch (i + 1) r (if c.src = (tenAt s (a : Int)).name /\ o.length <= 200 then o ++ chT s b f (tenI s c.dst).toNat (ch ++ [(i : Int)]) else o):=by
 simp [chRT,List.zipIdx_cons]
theorem chT_at (s : Setup) (b f : Nat) (ch : List Int) : chT s b (f + 1) b ch = [ch]:=by rw [chT,if_pos rfl]
theorem chT_ne {s : Setup} {b f a : Nat} {ch : List Int} (h : a ≠ b) : chT s b (f + 1) a ch = chRT s b f a ch 0 s.contracts []:=by rw [chT,if_neg h]; rfl
theorem chT_eq (s : Setup) (b : Nat) : ∀ (f a : Nat) (ch : List Int),chT s b f a ch = chG s b f a ch \/ 200 < (chT s b f a ch).length /\ 200 < (chG s b f a ch).length
 | 0,_,_ => .inl rfl
 | f + 1,a,ch => by
  by_cases hab : a = b
  ·subst hab; rw [chT_at,chG_at]; exact .inl rfl
  ·rw [chT_ne hab,chG_ne hab]
   have key : ∀ (r : List Contract) (i : Nat) (o o' : List (List Int)),(o = o' \/ 200 < o.length /\ 200 < o'.length) -> (chRT s b f a ch i r o = o' ++ chR s b f a ch i r \/ 200 < (chRT s b f a ch i r o).length /\ 200 < (o' ++ chR s b f a ch i r).length):=by
    intro r
    induction r with
    | nil => intro i o o' h; rw [chRT_nil,chR_nil,List.append_nil]; exact h
    | cons c r ih =>
     intro i o o' h
     rw [chRT_cons,chR_cons,<- List.append_assoc]
     refine ih _ _ _ ?_
     by_cases h1 : c.src = (tenAt s (a : Int)).name
     ·rw [if_pos h1]
      rcases h with rfl | ⟨h2,h3⟩
      ·by_cases h4 : o.length <= 200
       ·rw [if_pos ⟨h1,h4⟩]
        rcases chT_eq s b f (tenI s c.dst).toNat (ch ++ [(i : Int)]) with h5 | ⟨h5,h6⟩
        ·exact .inl (by rw [h5])
        ·exact .inr (by simp only [List.length_append]; omega)
       ·rw [if_neg (fun h => h4 h.2)]
        exact .inr (by simp only [List.length_append]; omega)
      ·rw [if_neg (fun h => absurd h.2 (by omega))]
       exact .inr (by simp only [List.length_append]; omega)
     ·rw [if_neg h1,if_neg (fun h => h1 h.1),List.append_nil]
      exact h
   have:=key s.contracts 0 [] [] (.inl rfl)
   simpa only [List.nil_append] using this
theorem chT_len (s : Setup) (b : Nat) : ∀ (f a : Nat) (ch : List Int),(chT s b f a ch).length <= 201 * f
 | 0,_,_ => Nat.le_refl _
 | f + 1,a,ch => by
  by_cases hab : a = b
  ·subst hab; rw [chT_at,List.length_singleton]; omega
  ·rw [chT_ne hab]
   have key : ∀ (r : List Contract) (i : Nat) (o : List (List Int)),o.length <= 201 * (f + 1) -> (chRT s b f a ch i r o).length <= 201 * (f + 1):=by
    intro r
    induction r with
    | nil => intro i o h; exact h
    | cons c r ih =>
     intro i o h
     rw [chRT_cons]
     refine ih _ _ ?_
     split
     ·rename_i h1
      have:=chT_len s b f (tenI s c.dst).toNat (ch ++ [(i : Int)])
      rw [List.length_append]; omega
     ·exact h
   exact key _ _ _ (by simp)
theorem lCh_app (a b : List (List Int)) : lCh a ++ lCh b = lCh (a ++ b):=by simp [lCh]
set_option maxHeartbeats 2000000 in
theorem c_chains19 (s : Setup) (hs : bulkL s.c <= 1048576) (hR : R19 s) (b : Nat) : ∀ (f a : Nat) (ch : List Int),a < s.tenants.length -> rnk s a < f -> ch.length + f <= 1048577 ->
  PCall Tryz.prog 28 [.agg s.c,.int .i64 (a : Int),.int .i64 (b : Int),.sl none (lI64 ch)] (.sl none (lCh (chT s b f a ch))):=by
 intro f
 induction f with
 | zero => intro a ch ha hr; omega
 | succ f ih =>
 intro a ch ha hr hch
 have hnc : s.contracts.length <= 1048576:=lContract_bn (Setup.bl_contracts hs)
 have hnt : s.tenants.length <= 1048576:=lTenant_bn (Setup.bl_tenants hs)
 have hlen : (lI64 ch).length = ch.length:=lI64_len ch
 refine pB h28_k rfl ?_
 by_cases hab : a = b
 ·subst hab
  rw [chT_at]
  have he : ((a : Int) == (a : Int)) = true:=by simp
  simp only [Tryz.f28,go_sem,he]
  repeat' (first
   | ((first | refine cS ?_ ?_ | refine gS ?_ ?_) <;> (intro hc; simp only [go_sem,hc,hlen])))
  exact ⟨by omega,by omega,rfl⟩
 ·rw [chT_ne hab]
  have he : ((a : Int) == (b : Int)) = false:=by simp; omega
  obtain ⟨u,hu⟩ : ∃ u,s.tenants[a]? = some u:=⟨_,List.getElem?_eq_getElem ha⟩
  have hu2:=lTenant_get hu
  have hua : tenAt s (a : Int) = u:=tenAt_get hu
  have ha0 : (0 : Int) <= (a : Int):=by omega
  simp only [Tryz.f28,go_sem,he]
  refine awp_lst s.contracts (fun o r => chRT s b f a ch (s.contracts.length - r.length) r o) (fun k o => o.length <= 201 * (f + 1)) (fun k o => [(1,.int .i64 a),(2,.int .i64 b),(3,.sl none (lI64 ch)),(4,.ptr 0 0),(9,.sl (some 1) (lCh o)),(10,.int .i64 k)])
   (fun _ _ => [some s.c]) [] (by omega) (by simp) rfl rfl ?_ ?_
  ·intro k o c cs hd hx hI hF h0 h1 hw
   have hk2:=drop_len hd
   have e1 : s.contracts.length - (cs.length + 1) = k:=by omega
   have e2 : s.contracts.length - cs.length = k + 1:=by omega
   have hcm:=List.mem_of_getElem? hx
   have hdst:=(conE_dst (hR.con c hcm)).2
   obtain ⟨v,_,_,_,hv⟩:=tenI_get hdst
   have qT:=c_ten19 s c.dst (by omega)
   rw [tenR,imax0 hdst,decide_eq_true hdst] at qT
   obtain ⟨m,hm⟩ : ∃ m : Nat,tenI s c.dst = (m : Int):=⟨(tenI s c.dst).toNat,by omega⟩
   rw [hm] at qT hv
   have hlo : (lCh o).length = o.length:=lCh_len o
   have hF2 : ∀ o2,(if c.src = (tenAt s (a : Int)).name /\ o.length <= 200 then o ++ chT s b f (tenI s c.dst).toNat (ch ++ [(k : Int)]) else o) = o2 -> chRT s b f a ch (s.contracts.length - (cs.length + 1)) (c :: cs) o = chRT s b f a ch (s.contracts.length - cs.length) cs o2:=fun o2 h => by rw [e1,e2,chRT_cons,h]
   by_cases hsrc : c.src = u.name
   ·have hb : decide (c.src = u.name) = true:=decide_eq_true hsrc
    by_cases h200 : o.length <= 200
    ·have hd2 : ¬ (200 : Int) < (o.length : Int):=by omega
     have hrk:=hR.rank ha hcm (by rw [hua]; exact hsrc)
     rw [hm,Int.toNat_natCast] at hrk
     have ihm:=ih m (ch ++ [(k : Int)]) (by omega) (by omega) (by simp; omega)
     have hlT:=chT_len s b f m (ch ++ [(k : Int)])
     have hlT2 : (lCh (chT s b f m (ch ++ [(k : Int)]))).length = (chT s b f m (ch ++ [(k : Int)])).length:=lCh_len _
     have hsn : lI64 ch ++ [.int .i64 (k : Int)] = lI64 (ch ++ [(k : Int)]):=lI64_snoc _ _
     simp only [go_sem,h0,h1,lContract_get hx,hu2,ha0,toList_beq,hlo,hb,hd2,decide_false]
     refine pK qT ?_
     simp only [go_sem,h0,h1,hw,lContract_get hx,hu2,ha0,toList_beq,hlo,hlen,hlT2,hsn]
     refine ⟨by omega,by omega,by omega,by omega,pK (PCall.weak ihm) ?_⟩
     simp only [go_sem,h0,h1,hw,hlo,hlT2]
     refine ⟨by omega,by omega,o ++ chT s b f m (ch ++ [(k : Int)]),hF2 _ ?_,by rw [List.length_append]; omega,by rw [lCh_app],rfl⟩
     rw [if_pos ⟨by rw [hua]; exact hsrc,h200⟩,hm,Int.toNat_natCast]
    ·have hd2 : (200 : Int) < (o.length : Int):=by omega
     simp only [go_sem,h0,h1,hw,lContract_get hx,hu2,ha0,toList_beq,hlo,hb,hd2,decide_true]
     refine ⟨o,hF2 _ ?_,hI,rfl,rfl⟩
     rw [if_neg (fun h => h200 h.2)]
   ·have hb : decide (c.src = u.name) = false:=decide_eq_false hsrc
    simp only [go_sem,h0,h1,hw,lContract_get hx,hu2,ha0,toList_beq,hlo,hb]
    refine ⟨o,hF2 _ ?_,hI,rfl,rfl⟩
    rw [if_neg (fun h => hsrc (by rw [h.1,hua]))]
  ·intro o hI hF
   rw [Nat.sub_self,List.length_nil,Nat.sub_zero,chRT_nil] at hF
   simp only [go_sem,Int.lt_irrefl,decide_false]
   rw [hF]
end Go.AI
namespace Go.AI
open Go.Proofs
set_option maxRecDepth 50000
theorem chG_ok (s : Setup) (b : Nat) : ∀ (f a : Nat) (ch : List Int),(ch.length + f <= 1048577 /\ ∀ x ∈ ch,0 <= x /\ x < (s.contracts.length : Int)) -> vch s (chG s b f a ch)
 | 0,_,_,_ => fun c hc => by cases hc
 | f + 1,a,ch,h => by
  by_cases hab : a = b
  ·subst hab
   rw [chG_at]
   intro c hc
   rcases List.mem_singleton.1 hc with rfl
   exact ⟨by omega,h.2⟩
  ·rw [chG_ne hab]
   intro c hc
   obtain ⟨p,hp,hc⟩:=List.mem_flatMap.1 hc
   split at hc
   ·have hlt:=(List.mem_zipIdx hp).2.1
    refine chG_ok s b f _ _ ⟨by simp; omega,fun x hx => ?_⟩ c hc
    rcases List.mem_append.1 hx with hx | hx
    ·exact h.2 x hx
    ·rcases List.mem_singleton.1 hx with rfl
     omega
   ·cases hc
def pathN (s : Setup) : ByteArray -> List Int -> Option ByteArray
 | nm,[] => some nm
 | nm,x :: r => match s.contracts[x.toNat]? with
  | some c => if 0 <= x /\ c.src = nm then pathN s c.dst r else none
  | none => none
theorem pathN_snoc (s : Setup) (x : Int) : ∀ (l : List Int) (nm : ByteArray),pathN s nm (l ++ [x]) = (pathN s nm l).bind fun m => pathN s m [x]
 | [],_ => rfl
 | y :: l,nm => by
  simp only [List.cons_append,pathN]
  cases s.contracts[y.toNat]? with
  | none => rfl
  | some c =>
   dsimp only
   split
   ·exact pathN_snoc s x l c.dst
   ·rfl
theorem chG_path (s : Setup) (hR : R19 s) (nm : ByteArray) (b : Nat) : ∀ (f a : Nat) (ch : List Int),pathN s nm ch = some (tenAt s (a : Int)).name -> ∀ c ∈ chG s b f a ch,pathN s nm c = some (tenAt s (b : Int)).name
 | 0,_,_,_,c,hc => by cases hc
 | f + 1,a,ch,h,c,hc => by
  by_cases hab : a = b
  ·subst hab
   rw [chG_at] at hc
   rcases List.mem_singleton.1 hc with rfl
   exact h
  ·rw [chG_ne hab] at hc
   obtain ⟨p,hp,hc⟩:=List.mem_flatMap.1 hc
   split at hc
   ·rename_i hsrc
    obtain ⟨h1,h2,h3⟩:=List.mem_zipIdx hp
    have hget : s.contracts[p.2]? = some p.1:=by rw [List.getElem?_eq_getElem (by omega)]; simpa using h3.symm
    have hdst:=(conE_dst (hR.con p.1 (List.mem_of_getElem? hget))).2
    obtain ⟨v,_,hv1,hv2,hv3⟩:=tenI_get hdst
    refine chG_path s hR nm b f _ _ ?_ c hc
    rw [pathN_snoc,h]
    simp only [Option.bind_some,pathN,Int.toNat_natCast,hget,hsrc]
    rw [if_pos ⟨by omega,trivial⟩,Int.toNat_of_nonneg hdst,hv2,hv1]
   ·cases hc
theorem c_Chains19 (s : Setup) (hs : bulkL s.c <= 1048576) (hR : R19 s) (a b : Nat) (ha : a < s.tenants.length) : PCall Tryz.prog 7 [.agg s.c,.int .i64 (a : Int),.int .i64 (b : Int)] (chnR (chG s b (s.tenants.length + 1) a [])):=by
 have hnt : s.tenants.length <= 1048576:=lTenant_bn (Setup.bl_tenants hs)
 have hrk : rnk s a < s.tenants.length + 1:=by
  have:=cntT_le (rch s a)
  rw [rch_len] at this
  unfold rnk; omega
 have c1:=c_chains19 s hs hR b (s.tenants.length + 1) a [] ha hrk (by simp; omega)
 have hT:=chT_eq s b (s.tenants.length + 1) a []
 generalize chT s b (s.tenants.length + 1) a [] = x at c1 hT
 generalize chG s b (s.tenants.length + 1) a [] = y at hT
 have hlx : (lCh x).length = x.length:=lCh_len x
 have c1' : PCall Tryz.prog 28 [.agg s.c,.int .i64 (a : Int),.int .i64 (b : Int),.sl none []] (.sl none (lCh x)):=c1
 by_cases hx : 200 < x.length
 ·have hy : 200 < y.length:=by rcases hT with rfl | h <;> omega
  have hd : (200 : Int) < (x.length : Int):=by omega
  rw [chnR,if_pos hy]
  refine pB h7_k rfl ?_
  simp only [Tryz.f7,go_sem]
  refine pK (PCall.weak c1') ?_
  simp only [go_sem,hlx,hd,decide_true]
 ·have hxy : x = y:=by rcases hT with h | h <;> first | exact h | omega
  subst hxy
  have hd : ¬ (200 : Int) < (x.length : Int):=by omega
  rw [chnR,if_neg hx]
  refine pB h7_k rfl ?_ (hv:=by simp only [AV.pure,pureL,lCh_pure,Bool.and_true])
  simp only [Tryz.f7,go_sem]
  refine pK (PCall.weak c1') ?_
  simp only [go_sem,hlx,hd,decide_false]
theorem c_has19 (s : Setup) (c : List Int) (box : Int) (hc : c.length <= 1048577) (hv : ∀ x ∈ c,0 <= x /\ x < (s.contracts.length : Int)) : PCall Tryz.prog 29 [.agg s.c,.sl none (lI64 c),.int .i64 box] (.bool (hasV s c box)):=by
 have hcl : (lI64 c).length = c.length:=lI64_len c
 refine pC h29_k rfl ?_
 simp only [Tryz.f29,go_sem]
 refine awp_all c (fun r => hasV s r box) (fun k => [(1,.sl none (lI64 c)),(2,.int .i64 box),(3,.ptr 0 0),(7,.int .i64 k)]) (by omega) rfl ?_ ?_
 ·intro k x xs hd hx hF h0 h1 hw
  obtain ⟨hx0,hx1⟩:=hv x (List.mem_of_getElem? hx)
  obtain ⟨m,rfl⟩ : ∃ m : Nat,x = (m : Int):=⟨x.toNat,by omega⟩
  obtain ⟨ct,hct⟩ : ∃ ct,s.contracts[m]? = some ct:=⟨_,List.getElem?_eq_getElem (by omega)⟩
  have hct2:=lContract_get hct
  have hvia : viaAt s (m : Int) = ct.via:=by simp [viaAt,hct]
  simp only [go_sem,h0,h1,hcl,lI64_get hx,hct2,hx0]
  repeat' (first
   | ((first | refine cS ?_ ?_ | refine gS ?_ ?_) <;> (intro hc; simp only [go_sem,hc,hw])))
  ·unfold hasV at hF ⊢
   rw [hF,List.any_cons,hvia,hc]; rfl
  ·unfold hasV
   rw [List.any_cons,hvia,hc]; rfl
 ·intro hF hlt
  simp only [go_sem,hcl,hlt,decide_false]
  rw [hF]; rfl
theorem c_Always19 (s : Setup) (hs : bulkL s.c <= 1048576) (a b : Nat) (l : List (List Int)) (hv : vch s l) (hc : PCall Tryz.prog 7 [.agg s.c,.int .i64 (a : Int),.int .i64 (b : Int)] (chnR l)) :
  PCall Tryz.prog 9 [.agg s.c,.int .i64 (a : Int),.int .i64 (b : Int)] (alwR s l):=by
 have hnn : s.network.nodes.length <= 1048576:=lNode_bn (Setup.bl_network_nodes hs)
 refine pB h9_k rfl ?_ (hv:=by unfold alwR; split <;> simp only [AV.pure,pureL,lI64_pure,Bool.and_true])
 by_cases h200 : 200 < l.length
 ·rw [chnR,if_pos h200] at hc
  rw [alwR,if_pos h200]
  simp only [Tryz.f9,go_sem]
  refine pK hc ?_
  simp only [go_sem,Int.reduceBNe]
 rw [chnR,if_neg h200] at hc
 rw [alwR,if_neg h200]
 have hll : (lCh l).length = l.length:=lCh_len l
 simp only [Tryz.f9,go_sem]
 refine pK hc ?_
 simp only [go_sem,hll,Int.reduceBNe]
 refine awp_lst s.network.nodes (fun (_ : List Int) (_ : List Node) => ()) (fun k o => o = alw s l k) (fun k o => [(3,.ptr 0 0),(8,.sl none (lCh l)),(10,.sl (some 1) (lI64 o)),(11,.int .i64 k)])
   (fun k _ => [some s.c]) [] (by omega) rfl rfl rfl ?_ ?_
 ·intro k o nd nds hd hx hI2 _ h0 h1 hw
  subst hI2
  have hln : (alw s l k).length <= k:=by unfold alw; rw [List.length_map]; exact Nat.le_trans (List.length_filter_le _ _) (by simp)
  have hlo : (lI64 (alw s l k)).length = (alw s l k).length:=lI64_len _
  simp only [go_sem,h0,h1,hll]
  refine awp_lst l (fun (a : Bool) (r : List (List Int)) => a && r.all fun c => hasV s c k) (fun _ _ => True) (fun i a => [(3,.ptr 0 0),(8,.sl none (lCh l)),(10,.sl (some 1) (lI64 (alw s l k))),(11,.int .i64 k),(12,.bool a),(13,.int .i64 i)])
   (fun _ _ => [some s.c]) (decide (0 < (l.length : Int))) (by omega) trivial rfl rfl ?_ ?_
  ·intro i a c cs hd2 hx2 _ hF g0 g1 gw
   have hcm:=hv c (List.mem_of_getElem? hx2)
   simp only [go_sem,g0,g1,hll,lCh_get hx2]
   refine pK (c_has19 s c k hcm.1 hcm.2) ?_
   simp only [go_sem,g0,g1,hll]
   cases a with
   | true =>
    simp only [go_sem,gw]
    exact ⟨hasV s c k,by simp,rfl,rfl⟩
   | false =>
    simp only [go_sem,gw]
    exact ⟨false,by simp,rfl,rfl⟩
  ·intro a _ hF
   have ha : a = alwB s l k:=by
    rw [List.all_nil,Bool.and_true] at hF
    rw [<- hF]; unfold alwB
    congr 1
    rw [decide_eq_decide]
    constructor
    ·intro h; rintro rfl; simp at h
    ·intro h; have:=List.length_pos_iff.2 h; omega
   subst ha
   simp only [go_sem,hll,Int.lt_irrefl,decide_false]
   repeat' (first
    | ((first | refine cS ?_ ?_ | refine gS ?_ ?_) <;> (intro hc; simp only [go_sem,hc,hw,hlo,lI64_snoc])))
   ·refine ⟨by omega,by omega,_, ?_,rfl,rfl⟩
    rw [alw_snoc,if_pos hc]
   ·refine ⟨_, ?_,rfl,rfl⟩
    rw [alw_snoc,if_neg (by rw [hc]; decide)]
 ·intro o hI2 _
  subst hI2
  simp only [go_sem,Int.lt_irrefl,decide_false]
theorem c_Bill19 (s : Setup) (hs : bulkL s.c <= 1048576) (k : Nat) (u : Tenant) (hu : s.tenants[k]? = some u) : PCall Tryz.prog 13 [.agg s.c,.int .i64 k] (.int .i64 (bilGo u.name 0 s.contracts)):=by
 have hnc : s.contracts.length <= 1048576:=lContract_bn (Setup.bl_contracts hs)
 have hu2:=lTenant_get hu
 have hk0 : (0 : Int) <= (k : Int):=by omega
 refine pC h13_k rfl ?_
 simp only [Tryz.f13,go_sem]
 refine awp_lst s.contracts (fun z r => bilGo u.name z r) (fun _ _ => True) (fun i z => [(1,.int .i64 k),(2,.ptr 0 0),(5,.int .i64 z),(6,.int .i64 i)]) (fun _ _ => [some s.c]) (0 : Int) (by omega) trivial rfl rfl ?_ ?_
 ·intro i z y ys hd hx _ hF h0 h1 hw
  simp only [go_sem,h0,h1,lContract_get hx,hu2,hk0,toList_beq]
  repeat' (first
   | ((first | refine cS ?_ ?_ | refine gS ?_ ?_) <;> (intro hc; simp only [go_sem,hc,h0,h1,hw,lContract_get hx,hu2,hk0,toList_beq])))
  ·exact ⟨_,by rw [bilGo,if_pos (by simpa using hc)],rfl,rfl⟩
  ·exact ⟨_,by rw [bilGo,if_neg (by simpa using hc)],rfl,rfl⟩
 ·intro z _ hF
  simp only [go_sem,Int.lt_irrefl,decide_false]
  rw [hF]; rfl
theorem ck18_ports {s : Setup} {t : Tenant} (h1 : ck18 s t = 0) : ∀ x ∈ t.ports,-1 <= x.edge /\ x.edge < (s.network.edges.length : Int):=by
 have h2 : ckPo s t = 0:=by
  unfold ck18 at h1
  split at h1
  ·cases h1
  ·split at h1
   ·rename_i hne; exact absurd h1 hne
   ·rename_i hne; simpa using hne
 have h3 : okAll (peg s.network.edges.length) qeg t.ports = true:=by
  unfold ckPo at h2
  split at h2
  ·cases h2
  split at h2
  ·cases h2
  split at h2
  ·cases h2
  ·rename_i hne; simpa using hne
 have h4 : ∀ (r : List Port) (i : Nat),okGo (peg s.network.edges.length) qeg t.ports i r = true -> ∀ x ∈ r,-1 <= x.edge /\ x.edge < (s.network.edges.length : Int):=by
  intro r
  induction r with
  | nil => intro i _ x hx; cases hx
  | cons y r ih =>
   intro i hi x hx
   simp only [okGo,Bool.and_eq_true] at hi
   rcases List.mem_cons.1 hx with rfl | hx
   ·have:=hi.1.1; simp only [peg,Bool.and_eq_true,decide_eq_true_eq] at this; exact this
   ·exact ih _ hi.2 x hx
 exact h4 t.ports 0 h3
theorem R19.ck {s : Setup} (h : R19 s) {k : Nat} {t : Tenant} (ht : s.tenants[k]? = some t) : ck18 s t = 0 /\ (bWhole t).2 = 0:=by
 have h1:=h.ten k t ht
 unfold tenE at h1
 split at h1
 ·rename_i hne; exact absurd h1 hne
 rename_i h2
 split at h1
 ·rename_i hne; exact absurd h1 hne
 rename_i h3
 exact ⟨by simpa using h2,by simpa using h3⟩
theorem c_Owner19 (s : Setup) (hs : bulkL s.c <= 1048576) (hR : R19 s) (e : Int) : PCall Tryz.prog 18 [.agg s.c,.int .i64 e] (.tup [.int .i64 (ownGo e 0 s.tenants).1,.int .i64 (ownGo e 0 s.tenants).2]):=by
 have hnt : s.tenants.length <= 1048576:=lTenant_bn (Setup.bl_tenants hs)
 refine pC h18_k rfl ?_
 simp only [Tryz.f18,go_sem]
 refine awp_all s.tenants (fun r => ownGo e (s.tenants.length - r.length) r) (fun k => [(1,.int .i64 e),(2,.ptr 0 0),(6,.int .i64 k)]) (by omega) rfl ?_ ?_
 ·intro k y ys hd hx hF h0 h1 hw
  have hk2:=drop_len hd
  have e1 : s.tenants.length - (ys.length + 1) = k:=by omega
  have e2 : s.tenants.length - ys.length = k + 1:=by omega
  simp only [List.length_cons,e1,e2,Nat.sub_self] at hF ⊢
  have hp : portOf2 y e = portOf y e:=portOf_eq (fun x hx2 => (ck18_ports (hR.ck hx).1 x hx2).1) e
  simp only [go_sem,h0,h1,lTenant_get hx]
  repeat' (first
   | (refine pK (c_Port18 y e) ?_; simp only [go_sem,h0,h1,hw,lTenant_get hx,e1,e2])
   | ((first | refine cS ?_ ?_ | refine gS ?_ ?_) <;> (intro hc; simp only [go_sem,hc,h0,h1,hw,lTenant_get hx,e1,e2])))
  ·rw [hF,ownGo,hp,if_pos (by simpa using hc)]
  ·rw [ownGo,hp,if_neg (by simpa using hc)]
 ·intro hF hlt
  simp only [go_sem,hlt,decide_false]
  rw [Nat.sub_self] at hF
  rw [hF]; rfl
end Go.AI
namespace Go.AI
open Go.Proofs
set_option maxRecDepth 50000
theorem exB (p : Prop) : ∃ b : Bool,b = true ↔ p:=⟨@decide p (Classical.propDecidable p),by simp⟩
theorem ne_get {α : Type} {A B : List α} {k : Nat} {x y : α} (hx : A[k]? = some x) (hy : B[k]? = some y) (h : ¬ x = y) : ¬ A = B:=by
 rintro rfl
 rw [hx] at hy; cases hy; exact h rfl
theorem take_eq {α : Type} {A B : List α} {k : Nat} {x : α} (h : A.take k = B.take k) (hx : A[k]? = some x) (hy : B[k]? = some x) : A.take (k + 1) = B.take (k + 1):=by
 rw [List.take_add_one,List.take_add_one,h,hx,hy]
theorem take_all {α : Type} {A B : List α} (h : A.take A.length = B.take A.length) (hl : A.length = B.length) : A = B:=by
 rw [List.take_length,hl,List.take_length] at h; exact h
theorem b_no {b : Bool} {p : Prop} (hb : b = true ↔ p) (h : ¬ p) : b = false:=by
 cases b with
 | false => rfl
 | true => exact absurd (hb.1 rfl) h
theorem b_yes {b : Bool} {p : Prop} (hb : b = true ↔ p) (h : p) : b = true:=hb.2 h
theorem eqP_iff : ∀ x y : Pred,eqP x y = true ↔ x = y:=by
 refine Pred.ind _ fun x ih y => ?_
 have hl : ∀ (a b : List Pred),(∀ z ∈ a,∀ w,eqP z w = true ↔ z = w) -> a.length = b.length -> (eqPs a b = true ↔ a = b):=by
  intro a
  induction a with
  | nil => intro b _ hb; rw [eqPs_nil]; cases b <;> simp_all
  | cons z a iha =>
   intro b h hb
   cases b with
   | nil => simp at hb
   | cons w b => rw [eqPs_cons,Bool.and_eq_true,h z (by simp) w,iha b (fun z hz => h z (by simp [hz])) (by simpa using hb),List.cons.injEq]
 rw [eqP_eq]
 simp only [Bool.and_eq_true,beq_iff_eq,decide_eq_true_eq]
 constructor
 ·rintro ⟨⟨h1,h2,h3,h4,h5⟩,h6⟩
  have:=(hl _ _ ih h5).1 h6
  cases x; cases y; simp_all
 ·rintro rfl
  exact ⟨⟨rfl,rfl,rfl,rfl,rfl⟩,(hl _ _ ih rfl).2 rfl⟩
theorem eqO_iff : ∀ x y : Policy,eqO x y = true ↔ x = y:=by
 refine Policy.ind _ fun x ih y => ?_
 have hl : ∀ (a b : List Policy),(∀ z ∈ a,∀ w,eqO z w = true ↔ z = w) -> a.length = b.length -> (eqOs a b = true ↔ a = b):=by
  intro a
  induction a with
  | nil => intro b _ hb; rw [eqOs_nil]; cases b <;> simp_all
  | cons z a iha =>
   intro b h hb
   cases b with
   | nil => simp at hb
   | cons w b => rw [eqOs_cons,Bool.and_eq_true,h z (by simp) w,iha b (fun z hz => h z (by simp [hz])) (by simpa using hb),List.cons.injEq]
 rw [eqO_eq,Bool.and_eq_true,eqP_iff]
 simp only [Bool.and_eq_true,beq_iff_eq,decide_eq_true_eq]
 constructor
 ·rintro ⟨h0,⟨h1,h2,h3,h5⟩,h6⟩
  have:=(hl _ _ ih h5).1 h6
  cases x; cases y; simp_all
 ·rintro rfl
  exact ⟨rfl,⟨rfl,rfl,rfl,rfl⟩,(hl _ _ ih rfl).2 rfl⟩
theorem keysEq_iff : ∀ (a b : List ByteArray),a.length = b.length -> (keysEq a b = true ↔ a = b):=by
 intro a
 induction a with
 | nil => intro b hb; rw [keysEq_nil]; cases b <;> simp_all
 | cons z a iha =>
  intro b hb
  cases b with
  | nil => simp at hb
  | cons w b => rw [keysEq_cons,Bool.and_eq_true,iha b (by simpa using hb),List.cons.injEq,decide_eq_true_eq]
theorem eqS_iff (x y : Stp) : eqS x y = true ↔ x = y:=by
 unfold eqS
 simp only [Bool.and_eq_true,beq_iff_eq,decide_eq_true_eq]
 constructor
 ·rintro ⟨⟨h1,h2,h3,h4,h5,h6⟩,h7⟩
  have:=(keysEq_iff _ _ h6).1 h7
  cases x; cases y; simp_all
 ·rintro rfl
  exact ⟨⟨rfl,rfl,rfl,rfl,rfl,rfl⟩,(keysEq_iff _ _ rfl).2 rfl⟩
set_option maxHeartbeats 1000000 in
theorem c_SameNet (a c : Network) (b : Bool) (hb : b = true ↔ a = c) (k0 : a.nodes.length <= 1073741824) (k1 : a.links.length <= 1073741824) (k2 : a.edges.length <= 1073741824) : PCall Tryz.prog 30 [.agg a.c,.agg c.c] (.bool b):=by
 refine pC h30_k rfl ?_
 simp only [Tryz.f30,go_sem]
 repeat' (first
  | ((first | refine cS ?_ ?_ | refine gS ?_ ?_) <;> (intro hc; simp only [go_sem,hc])))
 all_goals first
  | (rw [b_no hb (by rintro rfl; simp_all)]; done)
  | skip
 have l0 : a.nodes.length = c.nodes.length:=by simp_all; omega
 have l1 : a.links.length = c.links.length:=by simp_all; omega
 have l2 : a.edges.length = c.edges.length:=by simp_all; omega
 refine awp_lst a.nodes (fun (_ : Unit) (_ : List Node) => ()) (fun k _ => a.nodes.take k = c.nodes.take k) (fun k _ => [(2,.ptr 0 0),(3,.ptr 1 0),(5,.int .i64 k)]) (fun _ _ => [some a.c,some c.c]) () (by omega) rfl rfl rfl ?_ ?_
 ·intro k _ x xs hd hx hI _ h0 h1 hw
  obtain ⟨y,hy⟩ : ∃ y,c.nodes[k]? = some y:=⟨_,List.getElem?_eq_getElem (by have:=(List.getElem?_eq_some_iff.1 hx).1; omega)⟩
  simp only [go_sem,h0,h1,lNode_get hx,lNode_get hy,toList_beq]
  by_cases hxy : x = y
  ·subst hxy
   simp only [go_sem,hw,decide_true]
   exact ⟨(),take_eq hI hx hy⟩
  ·simp only [go_sem,decide_eq_false hxy]
   rw [b_no hb (fun e => ne_get hx hy hxy (by rw [e]))]
 ·intro _ hI _
  have hnodes:=take_all hI (by omega)
  simp only [go_sem,Int.lt_irrefl,decide_false]
  refine awp_lst a.links (fun (_ : Unit) (_ : List Link) => ()) (fun k _ => a.links.take k = c.links.take k) (fun k _ => [(2,.ptr 0 0),(3,.ptr 1 0),(6,.int .i64 k)]) (fun _ _ => [some a.c,some c.c]) () (by omega) rfl rfl rfl ?_ ?_
  ·intro k _ x xs hd hx hI _ h0 h1 hw
   obtain ⟨y,hy⟩ : ∃ y,c.links[k]? = some y:=⟨_,List.getElem?_eq_getElem (by have:=(List.getElem?_eq_some_iff.1 hx).1; omega)⟩
   simp only [go_sem,h0,h1,lLink_get hx,lLink_get hy,toList_beq]
   by_cases hxy : x = y
   ·subst hxy
    simp only [go_sem,hw,decide_true]
    exact ⟨(),take_eq hI hx hy⟩
   ·simp only [go_sem,decide_eq_false hxy]
    rw [b_no hb (fun e => ne_get hx hy hxy (by rw [e]))]
  ·intro _ hI _
   have hlinks:=take_all hI (by omega)
   simp only [go_sem,Int.lt_irrefl,decide_false]
   refine awp_lst a.edges (fun (_ : Unit) (_ : List Edge) => ()) (fun k _ => a.edges.take k = c.edges.take k) (fun k _ => [(2,.ptr 0 0),(3,.ptr 1 0),(7,.int .i64 k)]) (fun _ _ => [some a.c,some c.c]) () (by omega) rfl rfl rfl ?_ ?_
   ·intro k _ x xs hd hx hI _ h0 h1 hw
    obtain ⟨y,hy⟩ : ∃ y,c.edges[k]? = some y:=⟨_,List.getElem?_eq_getElem (by have:=(List.getElem?_eq_some_iff.1 hx).1; omega)⟩
    simp only [go_sem,h0,h1,lEdge_get hx,lEdge_get hy,toList_beq]
    by_cases hxy : x = y
    ·subst hxy
     simp only [go_sem,hw,decide_true]
     exact ⟨(),take_eq hI hx hy⟩
    ·simp only [go_sem,decide_eq_false hxy]
     rw [b_no hb (fun e => ne_get hx hy hxy (by rw [e]))]
   ·intro _ hI _
    have hedges:=take_all hI (by omega)
    simp only [go_sem,Int.lt_irrefl,decide_false]
    rw [b_yes hb (by cases a; cases c; simp_all)]
set_option maxHeartbeats 1000000 in
theorem c_SameProg (a c : List Stage) (b : Bool) (hb : b = true ↔ a = c) (ha : a.length <= 1073741824) : PCall Tryz.prog 64 [.sl none (lStage a),.sl none (lStage c)] (.bool b):=by
 have ea : (lStage a).length = a.length:=lStage_len a
 have ec : (lStage c).length = c.length:=lStage_len c
 refine pC h64_k rfl ?_
 simp only [Tryz.f64,go_sem]
 repeat' (first
  | ((first | refine cS ?_ ?_ | refine gS ?_ ?_) <;> (intro hc; simp only [go_sem,hc])))
 all_goals first
  | (rw [b_no hb (by rintro rfl; simp_all)]; done)
  | skip
 have l0 : a.length = c.length:=by simp_all; omega
 refine awp_lst a (fun (_ : Unit) (_ : List Stage) => ()) (fun k _ => a.take k = c.take k) (fun k _ => [(0,.sl none (lStage a)),(1,.sl none (lStage c)),(5,.int .i64 k)]) (fun _ _ => []) () (by omega) rfl rfl rfl ?_ ?_
 ·intro k _ x xs hd hx hI _ h0 h1 hw
  obtain ⟨y,hy⟩ : ∃ y,c[k]? = some y:=⟨_,List.getElem?_eq_getElem (by have:=(List.getElem?_eq_some_iff.1 hx).1; omega)⟩
  simp only [go_sem,h0,h1,lStage_get hx,lStage_get hy,toList_beq]
  refine pK (c_eqO _ _) ?_
  simp only [go_sem,h0,h1,lStage_get hx,lStage_get hy,toList_beq]
  refine pK (c_eqS _ _) ?_
  simp only [go_sem,h0,h1,lStage_get hx,lStage_get hy,toList_beq]
  by_cases hxy : x = y
  ·subst hxy
   simp only [go_sem,(eqO_iff _ _).2 rfl,(eqS_iff _ _).2 rfl,hw]
   exact ⟨(),take_eq hI hx hy⟩
  ·have hne : (eqO x.policy y.policy && eqS x.step y.step) = false:=by
    rw [Bool.and_eq_false_iff]
    by_cases hp : x.policy = y.policy
    ·right
     rw [Bool.eq_false_iff]
     intro h; exact hxy (by have:=(eqS_iff _ _).1 h; cases x; cases y; simp_all)
    ·left
     rw [Bool.eq_false_iff]
     intro h; exact hp ((eqO_iff _ _).1 h)
   have hfin : b = false:=b_no hb (fun e => ne_get hx hy hxy (by rw [e]))
   cases hp : eqO x.policy y.policy with
   | false =>
    simp only [go_sem]
    rw [hfin]
   | true =>
    rw [hp,Bool.true_and] at hne
    simp only [go_sem,hne]
    rw [hfin]
 ·intro _ hI _
  have hA:=take_all hI (by omega)
  simp only [go_sem,ea,Int.lt_irrefl,decide_false]
  rw [b_yes hb hA]
set_option maxHeartbeats 1000000 in
theorem c_SameReg : ∀ (a c : Regex) (b : Bool),(b = true ↔ a = c) -> PCall Tryz.prog 66 [.agg a.c,.agg c.c] (.bool b):=by
 refine Regex.ind _ fun a ih => fun c b hb => ?_
 refine PCall.fit h66_k.c fun hf => ?_
 have hl:=Regex.fit_args (fit1 hf)
 refine pC h66_k rfl ?_
 simp only [Tryz.f66,go_sem,toList_beq]
 repeat' (first
  | ((first | refine cS ?_ ?_ | refine gS ?_ ?_) <;> (intro hc; simp only [go_sem,hc,toList_beq])))
 all_goals first
  | (rw [b_no hb (by rintro rfl; simp_all)]; done)
  | skip
 have l0 : a.args.length = c.args.length:=by simp_all; omega
 have l1 : a.kind = c.kind:=by simp_all
 have l2 : a.node = c.node:=by simp_all
 refine awp_lst a.args (fun (_ : Unit) (_ : List Regex) => ()) (fun k _ => a.args.take k = c.args.take k) (fun k _ => [(2,.ptr 0 0),(3,.ptr 1 0),(5,.int .i64 k)]) (fun _ _ => [some a.c,some c.c]) () (by omega) rfl rfl rfl ?_ ?_
 ·intro k _ x xs hd hx hI _ h0 h1 hw
  obtain ⟨y,hy⟩ : ∃ y,c.args[k]? = some y:=⟨_,List.getElem?_eq_getElem (by have:=(List.getElem?_eq_some_iff.1 hx).1; omega)⟩
  simp only [go_sem,h0,h1,lRegex_get hx,lRegex_get hy,toList_beq]
  obtain ⟨br,hbr⟩:=exB (x = y)
  refine pK (ih x (List.mem_of_getElem? hx) y br hbr) ?_
  simp only [go_sem,h0,h1,lRegex_get hx,lRegex_get hy,toList_beq]
  cases br with
  | true =>
   have hxy:=hbr.1 rfl
   subst hxy
   simp only [go_sem,hw]
   exact ⟨(),take_eq hI hx hy⟩
  | false =>
   have hxy : ¬ x = y:=fun e => by have:=hbr.2 e; cases this
   simp only [go_sem]
   rw [b_no hb (fun e => ne_get hx hy hxy (by rw [e]))]
 ·intro _ hI _
  have hargs:=take_all hI (by omega)
  simp only [go_sem,Int.lt_irrefl,decide_false]
  rw [b_yes hb (by cases a; cases c; simp_all)]
theorem c_SameCon (a c : Contract) (b : Bool) (hb : b = true ↔ a = c) : PCall Tryz.prog 32 [.agg a.c,.agg c.c] (.bool b):=by
 have he : b = (eqP a.pred c.pred && (decide (a.src = c.src) && (decide (a.dst = c.dst) && (a.fromPort == c.fromPort && (a.toPort == c.toPort && (a.via == c.via && (a.capacity == c.capacity && a.price == c.price))))))):=by
  rw [Bool.eq_iff_iff,hb]
  simp only [Bool.and_eq_true,beq_iff_eq,decide_eq_true_eq,eqP_iff]
  constructor
  ·rintro rfl; simp
  ·intro h; cases a; cases c; simp_all
 refine pC h32_k rfl ?_
 simp only [Tryz.f32,go_sem,toList_beq]
 repeat' (first
  | (refine pK (c_eqP _ _) ?_; simp only [go_sem,toList_beq])
  | ((first | refine cS ?_ ?_ | refine gS ?_ ?_) <;> (intro hc; simp only [go_sem,hc,toList_beq])))
 all_goals first | (rw [he]; simp_all; done) | skip
set_option maxHeartbeats 2000000 in
theorem c_SameTen (a c : Tenant) (b : Bool) (hb : b = true ↔ a = c) (ha : bulkL a.c <= 1073741824) : PCall Tryz.prog 31 [.agg a.c,.agg c.c] (.bool b):=by
 have k0 : a.ports.length <= 1073741824:=lPort_bn (Tenant.bl_ports ha)
 have k1 : a.wires.length <= 1073741824:=lWire_bn (Tenant.bl_wires ha)
 have k2 : a.routes.length <= 1073741824:=lRoute_bn (Tenant.bl_routes ha)
 have k3 : a.demands.length <= 1073741824:=lDemand_bn (Tenant.bl_demands ha)
 have k4 : a.program.length <= 1073741824:=lStage_bn (Tenant.bl_program ha)
 obtain ⟨bp,hbp⟩:=exB (a.program = c.program)
 refine pC h31_k rfl ?_
 simp only [Tryz.f31,go_sem,toList_beq]
 repeat' (first
  | (refine pK (c_SameProg a.program c.program bp hbp k4) ?_; simp only [go_sem,toList_beq])
  | ((first | refine cS ?_ ?_ | refine gS ?_ ?_) <;> (intro hc; simp only [go_sem,hc,toList_beq])))
 all_goals first
  | (rw [b_no hb (by rintro rfl; simp_all)]; done)
  | skip
 have l0 : a.ports.length = c.ports.length:=by simp_all; omega
 have l1 : a.wires.length = c.wires.length:=by simp_all; omega
 have l2 : a.routes.length = c.routes.length:=by simp_all; omega
 have l3 : a.demands.length = c.demands.length:=by simp_all; omega
 have l4 : a.name = c.name:=by simp_all
 have l5 : a.program = c.program:=hbp.1 (by simp_all)
 refine awp_lst a.ports (fun (_ : Unit) (_ : List Port) => ()) (fun k _ => a.ports.take k = c.ports.take k) (fun k _ => [(2,.ptr 0 0),(3,.ptr 1 0),(6,.int .i64 k)]) (fun _ _ => [some a.c,some c.c]) () (by omega) rfl rfl rfl ?_ ?_
 ·intro k _ x xs hd hx hI _ h0 h1 hw
  obtain ⟨y,hy⟩ : ∃ y,c.ports[k]? = some y:=⟨_,List.getElem?_eq_getElem (by have:=(List.getElem?_eq_some_iff.1 hx).1; omega)⟩
  simp only [go_sem,h0,h1,lPort_get hx,lPort_get hy,toList_beq]
  by_cases hxy : x = y
  ·subst hxy
   simp only [go_sem,hw,decide_true]
   exact ⟨(),take_eq hI hx hy⟩
  ·simp only [go_sem,decide_eq_false hxy]
   rw [b_no hb (fun e => ne_get hx hy hxy (by rw [e]))]
 ·intro _ hI _
  have hports:=take_all hI (by omega)
  simp only [go_sem,Int.lt_irrefl,decide_false]
  refine awp_lst a.wires (fun (_ : Unit) (_ : List Wire) => ()) (fun k _ => a.wires.take k = c.wires.take k) (fun k _ => [(2,.ptr 0 0),(3,.ptr 1 0),(7,.int .i64 k)]) (fun _ _ => [some a.c,some c.c]) () (by omega) rfl rfl rfl ?_ ?_
  ·intro k _ x xs hd hx hI _ h0 h1 hw
   obtain ⟨y,hy⟩ : ∃ y,c.wires[k]? = some y:=⟨_,List.getElem?_eq_getElem (by have:=(List.getElem?_eq_some_iff.1 hx).1; omega)⟩
   simp only [go_sem,h0,h1,lWire_get hx,lWire_get hy,toList_beq]
   by_cases hxy : x = y
   ·subst hxy
    simp only [go_sem,hw,decide_true]
    exact ⟨(),take_eq hI hx hy⟩
   ·simp only [go_sem,decide_eq_false hxy]
    rw [b_no hb (fun e => ne_get hx hy hxy (by rw [e]))]
  ·intro _ hI _
   have hwires:=take_all hI (by omega)
   simp only [go_sem,Int.lt_irrefl,decide_false]
   refine awp_lst a.routes (fun (_ : Unit) (_ : List Route) => ()) (fun k _ => a.routes.take k = c.routes.take k) (fun k _ => [(2,.ptr 0 0),(3,.ptr 1 0),(8,.int .i64 k)]) (fun _ _ => [some a.c,some c.c]) () (by omega) rfl rfl rfl ?_ ?_
   ·intro k _ x xs hd hx hI _ h0 h1 hw
    obtain ⟨y,hy⟩ : ∃ y,c.routes[k]? = some y:=⟨_,List.getElem?_eq_getElem (by have:=(List.getElem?_eq_some_iff.1 hx).1; omega)⟩
    simp only [go_sem,h0,h1,lRoute_get hx,lRoute_get hy,toList_beq]
    obtain ⟨br,hbr⟩:=exB (x.path = y.path)
    refine pK (c_eqP _ _) ?_
    simp only [go_sem,h0,h1,lRoute_get hx,lRoute_get hy,toList_beq]
    refine pK (c_SameReg x.path y.path br hbr) ?_
    simp only [go_sem,h0,h1,lRoute_get hx,lRoute_get hy,toList_beq]
    by_cases hxy : x = y
    ·subst hxy
     simp only [go_sem,(eqP_iff _ _).2 rfl,hbr.2 rfl,hw]
     exact ⟨(),take_eq hI hx hy⟩
    ·have hfin : b = false:=b_no hb (fun e => ne_get hx hy hxy (by rw [e]))
     have hne : (eqP x.pred y.pred && br) = false:=by
      rw [Bool.and_eq_false_iff]
      by_cases hp : x.pred = y.pred
      ·right
       exact b_no hbr (fun h => hxy (by cases x; cases y; simp_all))
      ·left
       rw [Bool.eq_false_iff]
       intro h; exact hp ((eqP_iff _ _).1 h)
     cases hp : eqP x.pred y.pred with
     | false =>
      simp only [go_sem]
      rw [hfin]
     | true =>
      rw [hp,Bool.true_and] at hne
      simp only [go_sem,hne]
      rw [hfin]
   ·intro _ hI _
    have hroutes:=take_all hI (by omega)
    simp only [go_sem,Int.lt_irrefl,decide_false]
    refine awp_lst a.demands (fun (_ : Unit) (_ : List Demand) => ()) (fun k _ => a.demands.take k = c.demands.take k) (fun k _ => [(2,.ptr 0 0),(3,.ptr 1 0),(11,.int .i64 k)]) (fun _ _ => [some a.c,some c.c]) () (by omega) rfl rfl rfl ?_ ?_
    ·intro k _ x xs hd hx hI _ h0 h1 hw
     obtain ⟨y,hy⟩ : ∃ y,c.demands[k]? = some y:=⟨_,List.getElem?_eq_getElem (by have:=(List.getElem?_eq_some_iff.1 hx).1; omega)⟩
     simp only [go_sem,h0,h1,lDemand_get hx,lDemand_get hy,toList_beq]
     by_cases hxy : x = y
     ·subst hxy
      simp only [go_sem,hw,decide_true]
      exact ⟨(),take_eq hI hx hy⟩
     ·simp only [go_sem,decide_eq_false hxy]
      rw [b_no hb (fun e => ne_get hx hy hxy (by rw [e]))]
    ·intro _ hI _
     have hdemands:=take_all hI (by omega)
     simp only [go_sem,Int.lt_irrefl,decide_false]
     rw [b_yes hb (by cases a; cases c; simp_all)]
set_option maxHeartbeats 2000000 in
theorem c_Same19 (a c : Setup) (b : Bool) (hb : b = true ↔ a = c) (n0 : a.network.nodes.length <= 1073741824) (n1 : a.network.links.length <= 1073741824) (n2 : a.network.edges.length <= 1073741824) (k0 : a.fields.length <= 1073741824) (k1 : a.tenants.length <= 1073741824) (k2 : a.contracts.length <= 1073741824) (ht : ∀ x ∈ a.tenants,bulkL x.c <= 1073741824) : PCall Tryz.prog 14 [.agg a.c,.agg c.c] (.bool b):=by
 obtain ⟨bn,hbn⟩:=exB (a.network = c.network)
 refine pC h14_k rfl ?_
 simp only [Tryz.f14,go_sem,toList_beq]
 repeat' (first
  | (refine pK (c_SameNet a.network c.network bn hbn n0 n1 n2) ?_; simp only [go_sem,toList_beq])
  | ((first | refine cS ?_ ?_ | refine gS ?_ ?_) <;> (intro hc; simp only [go_sem,hc,toList_beq])))
 all_goals first
  | (rw [b_no hb (by rintro rfl; simp_all)]; done)
  | skip
 have l0 : a.fields.length = c.fields.length:=by simp_all; omega
 have l1 : a.tenants.length = c.tenants.length:=by simp_all; omega
 have l2 : a.contracts.length = c.contracts.length:=by simp_all; omega
 have l3 : a.network = c.network:=hbn.1 (by simp_all)
 refine awp_lst a.fields (fun (_ : Unit) (_ : List Fld) => ()) (fun k _ => a.fields.take k = c.fields.take k) (fun k _ => [(2,.ptr 0 0),(3,.ptr 1 0),(6,.int .i64 k)]) (fun _ _ => [some a.c,some c.c]) () (by omega) rfl rfl rfl ?_ ?_
 ·intro k _ x xs hd hx hI _ h0 h1 hw
  obtain ⟨y,hy⟩ : ∃ y,c.fields[k]? = some y:=⟨_,List.getElem?_eq_getElem (by have:=(List.getElem?_eq_some_iff.1 hx).1; omega)⟩
  simp only [go_sem,h0,h1,lFld_get hx,lFld_get hy,toList_beq]
  by_cases hxy : x = y
  ·subst hxy
   simp only [go_sem,hw,decide_true]
   exact ⟨(),take_eq hI hx hy⟩
  ·simp only [go_sem,decide_eq_false hxy]
   rw [b_no hb (fun e => ne_get hx hy hxy (by rw [e]))]
 ·intro _ hI _
  have hfields:=take_all hI (by omega)
  simp only [go_sem,Int.lt_irrefl,decide_false]
  refine awp_lst a.tenants (fun (_ : Unit) (_ : List Tenant) => ()) (fun k _ => a.tenants.take k = c.tenants.take k) (fun k _ => [(2,.ptr 0 0),(3,.ptr 1 0),(7,.int .i64 k)]) (fun _ _ => [some a.c,some c.c]) () (by omega) rfl rfl rfl ?_ ?_
  ·intro k _ x xs hd hx hI _ h0 h1 hw
   obtain ⟨y,hy⟩ : ∃ y,c.tenants[k]? = some y:=⟨_,List.getElem?_eq_getElem (by have:=(List.getElem?_eq_some_iff.1 hx).1; omega)⟩
   simp only [go_sem,h0,h1,lTenant_get hx,lTenant_get hy,toList_beq]
   obtain ⟨br,hbr⟩:=exB (x = y)
   refine pK (c_SameTen x y br hbr (ht x (List.mem_of_getElem? hx))) ?_
   simp only [go_sem,h0,h1,lTenant_get hx,lTenant_get hy,toList_beq]
   cases br with
   | true =>
    have hxy:=hbr.1 rfl
    subst hxy
    simp only [go_sem,hw]
    exact ⟨(),take_eq hI hx hy⟩
   | false =>
    have hxy : ¬ x = y:=fun e => by have:=hbr.2 e; cases this
    simp only [go_sem]
    rw [b_no hb (fun e => ne_get hx hy hxy (by rw [e]))]
  ·intro _ hI _
   have htenants:=take_all hI (by omega)
   simp only [go_sem,Int.lt_irrefl,decide_false]
   refine awp_lst a.contracts (fun (_ : Unit) (_ : List Contract) => ()) (fun k _ => a.contracts.take k = c.contracts.take k) (fun k _ => [(2,.ptr 0 0),(3,.ptr 1 0),(9,.int .i64 k)]) (fun _ _ => [some a.c,some c.c]) () (by omega) rfl rfl rfl ?_ ?_
   ·intro k _ x xs hd hx hI _ h0 h1 hw
    obtain ⟨y,hy⟩ : ∃ y,c.contracts[k]? = some y:=⟨_,List.getElem?_eq_getElem (by have:=(List.getElem?_eq_some_iff.1 hx).1; omega)⟩
    simp only [go_sem,h0,h1,lContract_get hx,lContract_get hy,toList_beq]
    obtain ⟨br,hbr⟩:=exB (x = y)
    refine pK (c_SameCon x y br hbr) ?_
    simp only [go_sem,h0,h1,lContract_get hx,lContract_get hy,toList_beq]
    cases br with
    | true =>
     have hxy:=hbr.1 rfl
     subst hxy
     simp only [go_sem,hw]
     exact ⟨(),take_eq hI hx hy⟩
    | false =>
     have hxy : ¬ x = y:=fun e => by have:=hbr.2 e; cases this
     simp only [go_sem]
     rw [b_no hb (fun e => ne_get hx hy hxy (by rw [e]))]
   ·intro _ hI _
    have hcontracts:=take_all hI (by omega)
    simp only [go_sem,Int.lt_irrefl,decide_false]
    rw [b_yes hb (by cases a; cases c; simp_all)]
theorem c_SameInts (a c : List Int) (b : Bool) (hb : b = true ↔ a = c) (ha : a.length <= 1073741824) : PCall Tryz.prog 11 [.sl none (lI64 a),.sl none (lI64 c)] (.bool b):=by
 have ea : (lI64 a).length = a.length:=lI64_len a
 have ec : (lI64 c).length = c.length:=lI64_len c
 refine pC h11_k rfl ?_
 simp only [Tryz.f11,go_sem,ea,ec]
 repeat' (first
  | ((first | refine cS ?_ ?_ | refine gS ?_ ?_) <;> (intro hc; simp only [go_sem,hc,ea,ec])))
 all_goals first
  | (rw [b_no hb (by rintro rfl; simp_all)]; done)
  | skip
 have l0 : a.length = c.length:=by simp_all; omega
 refine awp_lst a (fun (_ : Unit) (_ : List Int) => ()) (fun k _ => a.take k = c.take k) (fun k _ => [(0,.sl none (lI64 a)),(1,.sl none (lI64 c)),(5,.int .i64 k)]) (fun _ _ => []) () (by omega) rfl rfl rfl ?_ ?_
 ·intro k _ x xs hd hx hI _ h0 h1 hw
  obtain ⟨y,hy⟩ : ∃ y,c[k]? = some y:=⟨_,List.getElem?_eq_getElem (by have:=(List.getElem?_eq_some_iff.1 hx).1; omega)⟩
  simp only [go_sem,h0,h1,ea,lI64_get hx,lI64_get hy]
  repeat' (first
   | ((first | refine cS ?_ ?_ | refine gS ?_ ?_) <;> (intro hc; simp only [go_sem,hc,hw])))
  ·have hxy : ¬ x = y:=by simpa using hc
   rw [b_no hb (fun e => ne_get hx hy hxy (by rw [e]))]
  ·have hxy : x = y:=by simpa using hc
   subst hxy
   exact ⟨(),take_eq hI hx hy⟩
 ·intro _ hI _
  have hA:=take_all hI (by omega)
  simp only [go_sem,ea,Int.lt_irrefl,decide_false]
  rw [b_yes hb hA]
theorem c_SameChains (a c : List (List Int)) (b : Bool) (hb : b = true ↔ a = c) (ha : a.length <= 1073741824) (hq : ∀ x ∈ a,x.length <= 1073741824) : PCall Tryz.prog 10 [.sl none (lCh a),.sl none (lCh c)] (.bool b):=by
 have ea : (lCh a).length = a.length:=lCh_len a
 have ec : (lCh c).length = c.length:=lCh_len c
 refine pC h10_k rfl ?_
 simp only [Tryz.f10,go_sem,ea,ec]
 repeat' (first
  | ((first | refine cS ?_ ?_ | refine gS ?_ ?_) <;> (intro hc; simp only [go_sem,hc,ea,ec])))
 all_goals first
  | (rw [b_no hb (by rintro rfl; simp_all)]; done)
  | skip
 have l0 : a.length = c.length:=by simp_all; omega
 refine awp_lst a (fun (_ : Unit) (_ : List (List Int)) => ()) (fun k _ => a.take k = c.take k) (fun k _ => [(0,.sl none (lCh a)),(1,.sl none (lCh c)),(5,.int .i64 k)]) (fun _ _ => []) () (by omega) rfl rfl rfl ?_ ?_
 ·intro k _ x xs hd hx hI _ h0 h1 hw
  obtain ⟨y,hy⟩ : ∃ y,c[k]? = some y:=⟨_,List.getElem?_eq_getElem (by have:=(List.getElem?_eq_some_iff.1 hx).1; omega)⟩
  obtain ⟨br,hbr⟩:=exB (x = y)
  simp only [go_sem,h0,h1,ea,lCh_get hx,lCh_get hy]
  refine pK (c_SameInts x y br hbr (hq x (List.mem_of_getElem? hx))) ?_
  cases br with
  | true =>
   have hxy:=hbr.1 rfl
   subst hxy
   simp only [go_sem,hw]
   exact ⟨(),take_eq hI hx hy⟩
  | false =>
   have hxy : ¬ x = y:=fun e => by have:=hbr.2 e; cases this
   simp only [go_sem]
   rw [b_no hb (fun e => ne_get hx hy hxy (by rw [e]))]
 ·intro _ hI _
  have hA:=take_all hI (by omega)
  simp only [go_sem,ea,Int.lt_irrefl,decide_false]
  rw [b_yes hb hA]
end Go.AI
namespace Go.AI
open Go.Proofs
set_option maxRecDepth 50000
theorem p_CloneF (l : List Fld) (hl : l.length <= 1048576) : PCall Tryz.prog 33 [.sl none (lFld l)] (.sl none (lFld l)):=by
 have he : (lFld l).length = l.length:=lFld_len l
 refine pB h33_k rfl ?_
 cases l with
 | nil => simp only [Tryz.f33,go_sem]
 | cons e es =>
  have hcs : lFld (e :: es) = .agg e.c :: lFld es:=rfl
  have hcl : (lFld (e :: es)).length <= 1048576:=by rw [he]; exact hl
  rw [hcs] at hcl ⊢
  simp only [Tryz.f33,go_sem]
  repeat' (first
   | ((first | refine cS ?_ ?_ | refine gS ?_ ?_) <;> (intro hc; simp only [go_sem,hc,he])))
  simp only [List.length_cons] at hl
  exact ⟨by omega,by omega⟩
theorem Setup.put_ten (x : Setup) (u : Tenant) (o0 o1 o2 o3 o4 o5 p : Option Nat) : splice (x.cf o0 o1 o2 o3 o4 o5) 4 [.sl p [.agg (u.cf none none none none none)]] = ({ x with tenants:=[u] } : Setup).cf o0 o1 o2 o3 p o5:=rfl
def vE (ps : List Port) (es : List Edge) : List Edge:=es.zipIdx.map fun p => if ps.any (fun q => q.edge == (p.2 : Int)) = true then ⟨p.1.name,0⟩ else ⟨⟨#[]⟩,0⟩
def vC (nm : ByteArray) : List Contract -> List Contract
 | [] => []
 | c :: r => if c.dst = nm then { c with via:=-1 } :: vC nm r else if c.src = nm then c :: vC nm r else vC nm r
def viewS (s : Setup) (t : Tenant) : Setup:=⟨⟨[],[],vE t.ports s.network.edges⟩,s.fields,[t],vC t.name s.contracts⟩
theorem vE_len (ps : List Port) (es : List Edge) : (vE ps es).length = es.length:=by simp [vE]
theorem vE_get {ps : List Port} {es : List Edge} {k : Nat} {e : Edge} (h : es[k]? = some e) : (vE ps es)[k]? = some (if ps.any (fun q => q.edge == (k : Int)) = true then ⟨e.name,0⟩ else ⟨⟨#[]⟩,0⟩):=by
 simp [vE,h]
theorem vE_set {ps : List Port} {es : List Edge} {k : Nat} {e : Edge} (h : es[k]? = some e) (p : Port) (hp : p.edge = (k : Int)) : (vE ps es).set k ⟨e.name,0⟩ = vE (ps ++ [p]) es:=by
 apply List.ext_getElem?
 intro j
 rw [List.getElem?_set]
 have hlt:=(List.getElem?_eq_some_iff.1 h).1
 by_cases hj : k = j
 ·subst hj
  rw [if_pos rfl,if_pos (by rw [vE_len]; exact hlt),vE_get h,List.any_append]
  simp [hp]
 ·rw [if_neg hj]
  by_cases hjl : j < es.length
  ·rw [vE_get (List.getElem?_eq_getElem hjl),vE_get (List.getElem?_eq_getElem hjl),List.any_append]
   have : (p.edge == (j : Int)) = false:=by rw [beq_eq_false_iff_ne]; omega
   simp [this]
  ·rw [List.getElem?_eq_none (by rw [vE_len]; omega),List.getElem?_eq_none (by rw [vE_len]; omega)]
theorem vE_skip {ps : List Port} {es : List Edge} (p : Port) (hp : ¬ 0 <= p.edge) : vE (ps ++ [p]) es = vE ps es:=by
 unfold vE
 refine List.map_congr_left fun q hq => ?_
 have : (p.edge == (q.2 : Int)) = false:=by rw [beq_eq_false_iff_ne]; omega
 simp [List.any_append,this]
theorem vE_nil (es : List Edge) : vE [] es = List.replicate es.length ⟨⟨#[]⟩,0⟩:=by
 unfold vE
 apply List.ext_getElem?
 intro j
 by_cases hjl : j < es.length
 ·simp [hjl]
 ·rw [List.getElem?_eq_none (by simp; omega),List.getElem?_eq_none (by simp; omega)]
@[go_sem] theorem bnd_flatE (k : Nat) (L : List Edge) : bndL k (L.flatMap Edge.c) = true:=bndL_iff.2 fun c hc => by
 obtain ⟨e,_,hc⟩:=List.mem_flatMap.1 hc
 rcases List.mem_cons.1 hc with rfl | hc
 ·rfl
 ·rcases List.mem_singleton.1 hc with rfl; rfl
theorem flatE_borrow (L : List Edge) : (L.flatMap Edge.c).map borrow1 = L.flatMap Edge.c:=by
 induction L with
 | nil => rfl
 | cons e L ih => rw [List.flatMap_cons,List.map_append,ih]; rfl
set_option maxHeartbeats 2000000 in
theorem p_View (s : Setup) (hs : bulkL s.c <= 1048576) (hR : R19 s) (k : Nat) (u : Tenant) (hu : s.tenants[k]? = some u) : PCall Tryz.prog 15 [.agg s.c,.int .i64 (k : Int)] (.agg (viewS s u).c):=by
 have hnf : s.fields.length <= 1048576:=lFld_bn (Setup.bl_fields hs)
 have hne : s.network.edges.length <= 1048576:=lEdge_bn (Setup.bl_network_edges hs)
 have hnc : s.contracts.length <= 1048576:=lContract_bn (Setup.bl_contracts hs)
 have hk0 : (0 : Int) <= (k : Int):=by omega
 have hu2:=lTenant_get hu
 have c1:=p_CloneF s.fields hnf
 refine pB h15_k rfl ?_
 simp only [Tryz.f15,go_sem,hu2,hk0]
 repeat' (first
  | (refine pK (c1) ?_; simp only [go_sem,hu2,hk0,Setup.put_ten])
  | ((first | refine cS ?_ ?_ | refine gS ?_ ?_) <;> (intro hc; simp only [go_sem,hc,hu2,hk0,Setup.put_ten])))
 have hE : ∀ x : Edge,x.c.length = 2:=fun _ => rfl
 refine ⟨by omega,by omega,by omega, ?_⟩
 refine awp_lst u.ports (fun (_ : List Edge) (_ : List Port) => ()) (fun i L => L = vE (u.ports.take i) s.network.edges) (fun i _ => [(2,.ptr 0 0),(4,.ptr 1 0),(5,.ptr 2 0),(6,.ptr 3 0),(30,.sl none (lPort u.ports)),(31,.int .i64 u.ports.length),(32,.int .i64 i)])
  (fun _ L => [some s.c,some (Setup.z.cf (some 4) (some 3) (some 2) (some 3) (some 6) (some 12)),some (u.cf none none none none none),some [.sl (some 4) [],.sl (some 3) [],.msl 4 0 s.network.edges.length 2,.sl none (lFld s.fields),.sl (some 6) [.agg (u.cf none none none none none)],.sl (some 12) []],some (L.flatMap Edge.c)])
  (List.replicate s.network.edges.length ⟨⟨#[]⟩,0⟩) (by have:=lPort_bn (Tenant.bl_ports (show bulkL u.c <= 1048576 by have:=lTenant_bk (Setup.bl_tenants hs) (List.mem_of_getElem? hu); simpa only [AV.bulk] using this)); omega) (vE_nil _).symm rfl (by rw [List.flatMap_replicate]; rfl) ?_ ?_
 ·intro i L x xs hd hx hI _ h0 h1 hw
  subst hI
  obtain ⟨p1,p2⟩:=ck18_ports (hR.ck hu).1 x (List.mem_of_getElem? hx)
  have htk : u.ports.take (i + 1) = u.ports.take i ++ [x]:=by rw [List.take_add_one,hx]; rfl
  have hx2:=lPort_get hx
  by_cases hp : 0 <= x.edge
  ·obtain ⟨m,hm⟩ : ∃ m : Nat,x.edge = (m : Int):=⟨x.edge.toNat,by omega⟩
   obtain ⟨e,he⟩ : ∃ e,s.network.edges[m]? = some e:=⟨_,List.getElem?_eq_getElem (by omega)⟩
   have he2:=lEdge_get he
   have m0 : (0 : Int) <= (m : Int):=by omega
   have m1 : (m : Int) < (s.network.edges.length : Int):=by omega
   have hput:=put_flat (f:=Edge.c) hE (l:=vE (u.ports.take i) s.network.edges) (k:=m) (vE_get he) (o:=0) (v:=[.str e.name]) (y:=⟨e.name,0⟩) (by simp) (by split <;> rfl)
   rw [vE_set he x hm] at hput
   rw [Nat.add_zero] at hput
   have hle : m * 2 + 1 <= ((vE (u.ports.take i) s.network.edges).flatMap Edge.c).length:=by rw [len_flat hE,vE_len]; omega
   simp only [go_sem,h0,h1,hx2,hm,m0,m1,he2,hle,hput,hw]
   exact ⟨vE (u.ports.take (i + 1)) s.network.edges,rfl,rfl,by rw [htk]⟩
  ·have hd1 : decide (0 <= x.edge) = false:=decide_eq_false hp
   simp only [go_sem,h0,h1,hx2,hd1,hw]
   exact ⟨_,by rw [htk,vE_skip x hp],rfl,rfl⟩
 ·intro L hI _
  rw [List.take_length] at hI
  subst hI
  have hle : 0 + s.network.edges.length * 2 <= ((vE u.ports s.network.edges).flatMap Edge.c).length:=by rw [len_flat hE,vE_len]; omega
  have hch : chunk true 2 s.network.edges.length ((((vE u.ports s.network.edges).flatMap Edge.c).drop 0).map borrow1) = lEdge (vE u.ports s.network.edges):=by
   rw [List.drop_zero,flatE_borrow]; exact chunk_len hE (vE_len _ _).symm
  simp only [go_sem,Int.lt_irrefl,decide_false]
  rw [frzK_cell (o:=3) (off2:=0) (ob:=4) (off:=0) (len:=s.network.edges.length) (sz:=2) (cs:=(vE u.ports s.network.edges).flatMap Edge.c) rfl rfl rfl (by decide) rfl hle (.inl rfl),hch]
  simp only [go_sem]
  refine awp_lst s.contracts (fun o r => o ++ vC u.name r) (fun i o => o.length <= i) (fun i _ => [(4,.ptr 1 0),(5,.ptr 2 0),(6,.ptr 3 0),(56,.sl none (lContract s.contracts)),(57,.int .i64 s.contracts.length),(58,.int .i64 i)])
   (fun _ o => [some s.c,some (Setup.z.cf (some 4) (some 3) (some 2) (some 3) (some 6) (some 12)),some (u.cf none none none none none),some ((⟨⟨[],[],vE u.ports s.network.edges⟩,s.fields,[u],o⟩ : Setup).cf (some 4) (some 3) none none (some 6) (some 12)),none]) [] (by omega) (Nat.le_refl _) rfl rfl ?_ ?_
  ·intro i o x xs hd hx hI hF h0 h1 hw
   have hlo : (lContract o).length = o.length:=lContract_len o
   have hx2:=lContract_get hx
   have e1 : decide (u.name = x.dst) = decide (x.dst = u.name):=by rw [decide_eq_decide]; exact eq_comm
   have e2 : decide (u.name = x.src) = decide (x.src = u.name):=by rw [decide_eq_decide]; exact eq_comm
   by_cases hdst : x.dst = u.name
   ·have hb1 : decide (u.name = x.dst) = true:=by rw [e1]; exact decide_eq_true hdst
    simp only [go_sem,h0,h1,hx2,toList_beq,hb1,hlo,hw]
    refine ⟨by omega,by omega,o ++ [{ x with via:=-1 }], ?_,by rw [List.length_append]; simp; omega,rfl,rfl⟩
    rw [vC,if_pos hdst]; simp
   ·have hb1 : decide (u.name = x.dst) = false:=by rw [e1]; exact decide_eq_false hdst
    by_cases hsrc : x.src = u.name
    ·have hb2 : decide (u.name = x.src) = true:=by rw [e2]; exact decide_eq_true hsrc
     simp only [go_sem,h0,h1,hx2,toList_beq,hb1,hb2,hlo,hw]
     refine ⟨by omega,by omega,o ++ [x], ?_,by rw [List.length_append]; simp; omega,rfl,rfl⟩
     rw [vC,if_neg hdst,if_pos hsrc]; simp
    ·have hb2 : decide (u.name = x.src) = false:=by rw [e2]; exact decide_eq_false hsrc
     simp only [go_sem,h0,h1,hx2,toList_beq,hb1,hb2,hlo,hw]
     refine ⟨o, ?_,by omega,rfl,rfl⟩
     rw [vC,if_neg hdst,if_neg hsrc]
  ·intro o hI hF
   rw [List.nil_append,vC,List.append_nil] at hF
   subst hF
   simp only [go_sem,Int.lt_irrefl,decide_false]
   rfl
theorem portIdx_any (e : Int) (he : 0 <= e) : ∀ (l : List Port) (i : Nat),decide (0 <= portIdx e i l) = l.any fun q => q.edge == e
 | [],_ => by rw [portIdx]; rfl
 | p :: l,i => by
  rw [portIdx,List.any_cons]
  by_cases hp : p.edge = e
  ·rw [if_pos ⟨he,hp⟩,hp]; simp
  ·rw [if_neg (fun c => hp c.2),portIdx_any e he l (i + 1),beq_eq_false_iff_ne.2 hp,Bool.false_or]
theorem vE_snoc {ps : List Port} {es : List Edge} {k : Nat} {e : Edge} (h : es[k]? = some e) : (vE ps es).take (k + 1) = (vE ps es).take k ++ [if ps.any (fun q => q.edge == (k : Int)) = true then ⟨e.name,0⟩ else ⟨⟨#[]⟩,0⟩]:=by
 rw [List.take_add_one,vE_get h]; rfl
set_option maxHeartbeats 2000000 in
theorem c_View19 (s : Setup) (hs : bulkL s.c <= 1048576) (k : Nat) (u : Tenant) (hu : s.tenants[k]? = some u) : PCall Tryz.prog 16 [.agg s.c,.int .i64 (k : Int)] (.agg (viewS s u).c):=by
 have hne : s.network.edges.length <= 1048576:=lEdge_bn (Setup.bl_network_edges hs)
 have hnc : s.contracts.length <= 1048576:=lContract_bn (Setup.bl_contracts hs)
 have hk0 : (0 : Int) <= (k : Int):=by omega
 have hu2:=lTenant_get hu
 refine pB h16_k rfl ?_
 simp only [Tryz.f16,go_sem,hu2,hk0,Setup.put_ten]
 refine awp_lst s.network.edges (fun (_ : List Edge) (_ : List Edge) => ()) (fun i L => L = (vE u.ports s.network.edges).take i) (fun i _ => [(2,.ptr 0 0),(4,.ptr 1 0),(5,.ptr 2 0),(6,.ptr 3 0),(7,.int .i64 i)])
  (fun _ L => [some s.c,some (Setup.z.cf (some 4) (some 3) (some 2) (some 3) (some 6) (some 12)),some (u.cf none none none none none),some ((⟨⟨[],[],L⟩,s.fields,[u],[]⟩ : Setup).cf (some 4) (some 3) (some 2) none (some 6) (some 12))]) [] (by omega) (by rw [List.take_zero]) rfl rfl ?_ ?_
 ·intro i L x xs hd hx hI _ h0 h1 hw
  have hlen : L.length <= i:=by rw [hI]; simp; omega
  have hlo : (lEdge L).length = L.length:=lEdge_len L
  have hx2:=lEdge_get hx
  have hsn:=vE_snoc (ps:=u.ports) hx
  rw [<- hI] at hsn
  have hany:=portIdx_any (i : Int) h0 u.ports 0
  simp only [go_sem,h0,h1,hx2]
  refine pK (c_Port18 u i) ?_
  cases hq : (u.ports.any fun q => q.edge == (i : Int)) with
  | true =>
   rw [hq] at hany
   rw [hq,if_pos rfl] at hsn
   have hd1 : decide (0 <= portOf u (i : Int)) = true:=hany
   simp only [go_sem,h0,h1,hx2,hd1,hlo,hw]
   exact ⟨by omega,by omega,_,rfl,rfl,by rw [hsn]; rfl⟩
  | false =>
   rw [hq] at hany
   rw [hq,if_neg (by decide)] at hsn
   have hd1 : decide (0 <= portOf u (i : Int)) = false:=hany
   simp only [go_sem,h0,h1,hx2,hd1,hlo,hw]
   exact ⟨by omega,by omega,_,rfl,rfl,by rw [hsn]; rfl⟩
 ·intro L hI _
  rw [List.take_of_length_le (by rw [vE_len]; omega)] at hI
  subst hI
  simp only [go_sem,Int.lt_irrefl,decide_false]
  refine awp_lst s.contracts (fun o r => o ++ vC u.name r) (fun i o => o.length <= i) (fun i _ => [(2,.ptr 0 0),(4,.ptr 1 0),(5,.ptr 2 0),(6,.ptr 3 0),(10,.int .i64 i)])
   (fun _ o => [some s.c,some (Setup.z.cf (some 4) (some 3) (some 2) (some 3) (some 6) (some 12)),some (u.cf none none none none none),some ((⟨⟨[],[],vE u.ports s.network.edges⟩,s.fields,[u],o⟩ : Setup).cf (some 4) (some 3) (some 2) none (some 6) (some 12))]) [] (by omega) (Nat.le_refl _) rfl rfl ?_ ?_
  ·intro i o x xs hd hx hI hF h0 h1 hw
   have hlo : (lContract o).length = o.length:=lContract_len o
   have hx2:=lContract_get hx
   by_cases hdst : x.dst = u.name
   ·have hb1 : decide (x.dst = u.name) = true:=decide_eq_true hdst
    cases hb2 : decide (x.src = u.name) with
    | true =>
     simp only [go_sem,h0,h1,hx2,toList_beq,hb1,hb2,hlo,hw]
     refine ⟨by omega,by omega,o ++ [{ x with via:=-1 }], ?_,by rw [List.length_append]; simp; omega,rfl,rfl⟩
     rw [vC,if_pos hdst]; simp
    | false =>
     simp only [go_sem,h0,h1,hx2,toList_beq,hb1,hb2,hlo,hw]
     refine ⟨by omega,by omega,o ++ [{ x with via:=-1 }], ?_,by rw [List.length_append]; simp; omega,rfl,rfl⟩
     rw [vC,if_pos hdst]; simp
   ·have hb1 : decide (x.dst = u.name) = false:=decide_eq_false hdst
    by_cases hsrc : x.src = u.name
    ·have hb2 : decide (x.src = u.name) = true:=decide_eq_true hsrc
     simp only [go_sem,h0,h1,hx2,toList_beq,hb1,hb2,hlo,hw]
     refine ⟨by omega,by omega,o ++ [x], ?_,by rw [List.length_append]; simp; omega,rfl,rfl⟩
     rw [vC,if_neg hdst,if_pos hsrc]; simp
    ·have hb2 : decide (x.src = u.name) = false:=decide_eq_false hsrc
     simp only [go_sem,h0,h1,hx2,toList_beq,hb1,hb2,hlo,hw]
     refine ⟨o, ?_,by omega,rfl,rfl⟩
     rw [vC,if_neg hdst,if_neg hsrc]
  ·intro o hI hF
   rw [List.nil_append,vC,List.append_nil] at hF
   subst hF
   simp only [go_sem,Int.lt_irrefl,decide_false]
   rfl
end Go.AI
namespace Go.AI
open Go.Proofs
set_option maxRecDepth 50000
theorem ownGo_ok (e : Int) : ∀ (l : List Tenant) (i : Nat),(ownGo e i l = (-1,-1)) \/ ∃ j t,l[j]? = some t /\ (ownGo e i l).1 = ((i + j : Nat) : Int) /\ (ownGo e i l).2 = portOf2 t e /\ 0 <= portOf2 t e
 | [],_ => .inl rfl
 | t :: r,i => by
  rw [ownGo]
  by_cases h : 0 <= portOf2 t e
  ·rw [if_pos h]; exact .inr ⟨0,t,rfl,rfl,rfl,h⟩
  ·rw [if_neg h]
   rcases ownGo_ok e r (i + 1) with h2 | ⟨j,u,h1,h2,h3,h4⟩
   ·exact .inl h2
   ·exact .inr ⟨j + 1,u,h1,by rw [h2]; congr 1; omega,h3,h4⟩
theorem portIdx_at2 (e : Int) : ∀ (l : List Port) (i : Nat),0 <= portIdx e i l -> ∃ j p,l[j]? = some p /\ p.edge = e /\ portIdx e i l = ((i + j : Nat) : Int)
 | [],_,h => by rw [portIdx] at h; exact absurd h (by decide)
 | p :: l,i,h => by
  rw [portIdx] at h ⊢
  by_cases hp : 0 <= e /\ p.edge = e
  ·rw [if_pos hp]; exact ⟨0,p,rfl,hp.2,rfl⟩
  ·rw [if_neg hp] at h ⊢
   obtain ⟨j,q,h1,h2,h3⟩:=portIdx_at2 e l (i + 1) h
   exact ⟨j + 1,q,h1,h2,by rw [h3]; congr 1; omega⟩
theorem port_at2 {t : Tenant} {e : Int} (h : 0 <= portOf t e) : edgeOf t (portOf t e) = e:=by
 obtain ⟨j,p,h1,h2,h3⟩:=portIdx_at2 e t.ports 0 h
 have h4 : portOf t e = (j : Int):=by unfold portOf; rw [h3]; simp
 have hlt:=(List.getElem?_eq_some_iff.1 h1).1
 rw [h4]
 unfold edgeOf isPortB edgeAt
 rw [decide_eq_true (by omega : (0 : Int) <= (j : Int)),decide_eq_true (by omega : (j : Int) < (t.ports.length : Int))]
 simp [h1,h2]
theorem vC_len (nm : ByteArray) : ∀ l : List Contract,(vC nm l).length <= l.length
 | [] => Nat.le_refl _
 | c :: l => by
  have:=vC_len nm l
  rw [vC]
  split
  ·simp; omega
  ·split <;> simp <;> omega
theorem alw_len (s : Setup) (l : List (List Int)) (n : Nat) : (alw s l n).length <= n:=by
 unfold alw; rw [List.length_map]; exact Nat.le_trans (List.length_filter_le _ _) (by simp)
def chL (l : List (List Int)) : List (List Int):=if 200 < l.length then [] else l
def chEr (l : List (List Int)) : Int:=if 200 < l.length then 2 else 0
def alL (s : Setup) (l : List (List Int)) : List Int:=if 200 < l.length then [] else alw s l s.network.nodes.length
theorem chnR_eq (l : List (List Int)) : chnR l = .tup [.sl none (lCh (chL l)),.int .i64 (chEr l)]:=by
 unfold chnR chL chEr; split <;> rfl
theorem alwR_eq (s : Setup) (l : List (List Int)) : alwR s l = .tup [.sl none (lI64 (alL s l)),.int .i64 (chEr l)]:=by
 unfold alwR alL chEr; split <;> rfl
set_option maxHeartbeats 8000000 in
theorem c_law22 (hsan : PCall Tryz.prog 5 [] (.bool true)) (s : Setup) (a b edge : Int) (hs : bulkL s.c <= 1048576) : PCall Tryz.prog 3 [.agg s.c,.int .i64 a,.int .i64 b,.int .i64 edge] (.bool true):=by
 have q1:=c_right19 s hs
 refine pC h3_k rfl ?_
 cases hr : right19 s with
 | false =>
  simp only [Tryz.f3,go_sem]
  repeat' (first
   | ((first | refine pK (hsan) ?_ | refine pK (q1) ?_); simp only [go_sem,hr])
   | ((first | refine cS ?_ ?_ | refine gS ?_ ?_) <;> (intro hc; simp only [go_sem,hc,hr])))
  all_goals first | rfl | exact absurd hc (by decide) | skip
 | true =>
 have hR:=right_r19 hr
 by_cases hab : (0 <= a /\ a < (s.tenants.length : Int)) /\ (0 <= b /\ b < (s.tenants.length : Int))
 ·obtain ⟨⟨ha0,ha1⟩,hb0,hb1⟩:=hab
  obtain ⟨m,rfl⟩ : ∃ m : Nat,a = (m : Int):=⟨a.toNat,by omega⟩
  obtain ⟨n,rfl⟩ : ∃ n : Nat,b = (n : Int):=⟨b.toNat,by omega⟩
  obtain ⟨u,hu⟩ : ∃ u,s.tenants[m]? = some u:=⟨_,List.getElem?_eq_getElem (by omega)⟩
  obtain ⟨v,hv⟩ : ∃ v,s.tenants[n]? = some v:=⟨_,List.getElem?_eq_getElem (by omega)⟩
  have hu2:=lTenant_get hu
  have hv2:=lTenant_get hv
  have hnt : s.tenants.length <= 1048576:=lTenant_bn (Setup.bl_tenants hs)
  have hnn : s.network.nodes.length <= 1048576:=lNode_bn (Setup.bl_network_nodes hs)
  have hnc : s.contracts.length <= 1048576:=lContract_bn (Setup.bl_contracts hs)
  have hnf : s.fields.length <= 1048576:=lFld_bn (Setup.bl_fields hs)
  have hne : s.network.edges.length <= 1048576:=lEdge_bn (Setup.bl_network_edges hs)
  have hbu : bulkL u.c <= 1048576:=by have:=lTenant_bk (Setup.bl_tenants hs) (List.mem_of_getElem? hu); simpa only [AV.bulk] using this
  have c1:=p_Chains s hs hR m n (by omega)
  have c2:=c_Chains19 s hs hR m n (by omega)
  have hvc:=chG_ok s n (s.tenants.length + 1) m [] ⟨by simp; omega,by simp⟩
  have hpa:=chG_path s hR u.name n (s.tenants.length + 1) m [] (by rw [tenAt_get hu]; rfl)
  rw [tenAt_get hv] at hpa
  generalize chG s n (s.tenants.length + 1) m [] = l at c1 c2 hvc hpa
  have c3:=p_Always s hs m n l hvc c1
  have c4:=c_Always19 s hs m n l hvc c2
  rw [chnR_eq] at c1 c2
  rw [alwR_eq] at c3 c4
  have hcl : (chL l).length <= 200:=by
   unfold chL; split
   ·simp
   ·omega
  have hvc2 : vch s (chL l):=by
   unfold chL; split
   ·exact fun c hc => by cases hc
   ·exact hvc
  have hpa2 : ∀ c ∈ chL l,pathN s u.name c = some v.name:=by
   unfold chL; split
   ·exact fun c hc => by cases hc
   ·exact hpa
  have hal : (alL s l).length <= 1048576:=by
   unfold alL; split
   ·simp
   ·exact Nat.le_trans (alw_len s l _) hnn
  generalize chL l = L at c1 c2 hcl hvc2 hpa2
  generalize chEr l = E at c1 c2 c3 c4
  generalize alL s l = A at c3 c4 hal
  have c5:=c_SameChains L L true (by simp) (by omega) (fun x hx => Nat.le_trans (hvc2 x hx).1 (by decide))
  have c6:=c_SameInts A A true (by simp) (by omega)
  have c7:=p_Bill s hs m u hu
  have c8:=c_Bill19 s hs m u hu
  have c9:=p_View s hs hR m u hu
  have c10:=c_View19 s hs m u hu
  have c11 : PCall Tryz.prog 14 [.agg (viewS s u).c,.agg (viewS s u).c] (.bool true):=c_Same19 (viewS s u) (viewS s u) true (by simp) (by simp [viewS]) (by simp [viewS]) (by simp only [viewS,vE_len]; omega) (by simp only [viewS]; omega) (by simp [viewS]) (Nat.le_trans (vC_len _ _) (by omega)) (fun x hx => by rcases List.mem_singleton.1 hx with rfl; exact Nat.le_trans hbu (by decide))
  have hm0 : ¬ (m : Int) < 0:=by omega
  have hm1 : ¬ (s.tenants.length : Int) <= (m : Int):=by omega
  have hn0 : ¬ (n : Int) < 0:=by omega
  have hn1 : ¬ (s.tenants.length : Int) <= (n : Int):=by omega
  have hLl : (lCh L).length = L.length:=lCh_len L
  simp only [Tryz.f3,go_sem]
  repeat' (first
   | ((first | refine pK (q1) ?_ | refine pK (c1) ?_ | refine pK (c2) ?_ | refine pK (c3) ?_ | refine pK (c4) ?_ | refine pK (c5) ?_ | refine pK (c6) ?_ | refine pK (c7) ?_ | refine pK (c8) ?_ | refine pK (c9) ?_ | refine pK (c10) ?_ | refine pK (c11) ?_); simp only [go_sem,hr,hm0,hm1,hn0,hn1,decide_false,bne_self_eq_false,hLl])
   | ((first | refine cS ?_ ?_ | refine gS ?_ ?_) <;> (intro hc; simp only [go_sem,hc,hr,hm0,hm1,hn0,hn1,decide_false,bne_self_eq_false,hLl])))
  refine awp_lst L (fun (_ : Unit) (_ : List (List Int)) => ()) (fun _ _ => True) (fun i _ => [(1,.int .i64 m),(2,.int .i64 n),(3,.int .i64 edge),(4,.ptr 0 0),(119,.sl none (lCh L)),(120,.int .i64 L.length),(121,.int .i64 i)]) (fun _ _ => [some s.c]) () (by omega) trivial rfl rfl ?_ ?_
  ·intro i _ c cs hd hx _ _ h0 h1 hw
   have hcm:=List.mem_of_getElem? hx
   obtain ⟨hc1,hc2⟩:=hvc2 c hcm
   have hcp:=hpa2 c hcm
   have hcl2 : (lI64 c).length = c.length:=lI64_len c
   simp only [go_sem,h0,h1,lCh_get hx,hu2,ha0,hcl2]
   refine awp_lst c (fun (_ : ByteArray) (_ : List Int) => ()) (fun j nm => pathN s nm (c.drop j) = some v.name) (fun j nm => [(1,.int .i64 m),(2,.int .i64 n),(3,.int .i64 edge),(4,.ptr 0 0),(19,.str nm),(119,.sl none (lCh L)),(120,.int .i64 L.length),(121,.int .i64 i),(131,.sl none (lI64 c)),(132,.int .i64 c.length),(133,.int .i64 j)]) (fun _ _ => [some s.c]) u.name (by omega) hcp rfl rfl ?_ ?_
   ·intro j nm x xs hd2 hx2 hI _ g0 g1 gw
    rw [hd2,pathN] at hI
    obtain ⟨hx0,hx1⟩:=hc2 x (List.mem_of_getElem? hx2)
    obtain ⟨z,rfl⟩ : ∃ z : Nat,x = (z : Int):=⟨x.toNat,by omega⟩
    obtain ⟨ct,hct⟩ : ∃ ct,s.contracts[z]? = some ct:=⟨_,List.getElem?_eq_getElem (by omega)⟩
    rw [Int.toNat_natCast,hct] at hI
    dsimp only at hI
    have hct2:=lContract_get hct
    have hz0 : ¬ (z : Int) < 0:=by omega
    have hz1 : ¬ (s.contracts.length : Int) <= (z : Int):=by omega
    by_cases hcd : (0 : Int) <= (z : Int) /\ ct.src = nm
    ·rw [if_pos hcd] at hI
     have hsrc : decide (ct.src = nm) = true:=decide_eq_true hcd.2
     have hd3 : c.drop (j + 1) = xs:=by rw [<- List.drop_drop,hd2]; rfl
     simp only [go_sem,g0,g1,lI64_get hx2,hz0,hz1,hct2,hx0,toList_beq,hsrc,decide_false,gw]
     exact ⟨ct.dst,by rw [hd3]; exact hI,rfl,rfl⟩
    ·rw [if_neg hcd] at hI; cases hI
   ·intro nm hI _
    rw [List.drop_length,pathN] at hI
    have hnm : nm = v.name:=by simpa using hI
    subst hnm
    have hdt : decide (v.name = v.name) = true:=by simp
    simp only [go_sem,Int.lt_irrefl,decide_false,hv2,hb0,toList_beq,hdt,hw]
    exact ⟨(),trivial⟩
  ·intro _ _ _
   have o1:=p_Owner s hs edge
   have o2:=c_Owner19 s hs hR edge
   by_cases he : 0 <= edge /\ edge < (s.network.edges.length : Int)
   ·have he0 : ¬ edge < 0:=by omega
    have he1 : ¬ (s.network.edges.length : Int) <= edge:=by omega
    rcases ownGo_ok edge s.tenants 0 with ho | ⟨j,t,ht,h1,h2,h3⟩
    ·rw [ho] at o1 o2
     simp only [go_sem,Int.lt_irrefl,decide_false,he0,he1]
     repeat' (first
      | ((first | refine pK (hsan) ?_ | refine pK (o1) ?_ | refine pK (o2) ?_); simp only [go_sem,he0,he1,decide_false,beq_self_eq_true])
      | ((first | refine cS ?_ ?_ | refine gS ?_ ?_) <;> (intro hc; simp only [go_sem,hc,he0,he1,decide_false,beq_self_eq_true])))
     all_goals first | rfl | exact absurd hc (by decide) | skip
    ·have hp2 : portOf2 t edge = portOf t edge:=portOf_eq (fun x hx2 => (ck18_ports (hR.ck ht).1 x hx2).1) edge
     rw [h1,h2,Nat.zero_add,hp2] at o1 o2
     rw [hp2] at h3
     have ht2:=lTenant_get ht
     have hj0 : ¬ (j : Int) < 0:=by omega
     have hj1 : (0 : Int) <= (j : Int):=by omega
     have c12:=c_Edge t (portOf t edge)
     rw [port_at2 h3] at c12
     simp only [go_sem,Int.lt_irrefl,decide_false,he0,he1]
     repeat' (first
      | ((first | refine pK (hsan) ?_ | refine pK (o1) ?_ | refine pK (o2) ?_ | refine pK (c12) ?_); simp only [go_sem,he0,he1,decide_false,beq_self_eq_true,hj0,hj1,ht2])
      | ((first | refine cS ?_ ?_ | refine gS ?_ ?_) <;> (intro hc; simp only [go_sem,hc,he0,he1,decide_false,beq_self_eq_true,hj0,hj1,ht2])))
     all_goals first | rfl | exact absurd hc (by decide) | skip
   ·simp only [go_sem,Int.lt_irrefl,decide_false]
    repeat' (first
     | (refine pK (hsan) ?_; simp only [go_sem])
     | ((first | refine cS ?_ ?_ | refine gS ?_ ?_) <;> (intro hc; simp only [go_sem,hc])))
    all_goals first | rfl | exact absurd hc (by decide) | (exfalso; simp only [decide_eq_false_iff_not] at *; omega)
 ·simp only [Tryz.f3,go_sem]
  repeat' (first
   | ((first | refine pK (hsan) ?_ | refine pK (q1) ?_); simp only [go_sem,hr])
   | ((first | refine cS ?_ ?_ | refine gS ?_ ?_) <;> (intro hc; simp only [go_sem,hc,hr])))
  all_goals first | rfl | exact absurd hc (by decide) | (exfalso; simp only [decide_eq_false_iff_not] at *; omega)
end Go.AI
