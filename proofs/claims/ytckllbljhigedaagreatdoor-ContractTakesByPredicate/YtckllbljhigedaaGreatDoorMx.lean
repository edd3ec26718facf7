/- What the specification of layer 19 checks, in plain Lean. -/
import Derived.Test.YtckllbljhigedaaGreatDoorMg
import Derived.Test.YtckllbljhigedaaGreatDoorMp
import Derived.Test.YtckllbljhigedaaGreatDoorMf
import Derived.Test.YtckllbljhigedaaGreatDoorMy
set_option linter.unusedSimpArgs false
set_option linter.unusedVariables false
namespace Go.AI
section
variable {P : Program} {t : TypeId} {x y : ByteArray} {d : Tmp} {K : Kt} {e : Env} {H : Heap}
@[go_sem] theorem binK_sgeq : binK P .geq t (.str x) (.str y) d K e H = K ((d,.bool !(Op.bytesLess x.toList y.toList)) :: e) H:=by rw [binK_str]; simp [abin]
@[go_sem] theorem binK_sleq : binK P .leq t (.str x) (.str y) d K e H = K ((d,.bool (Op.bytesLess x.toList y.toList || x.toList == y.toList)) :: e) H:=by rw [binK_str]; simp [abin]
@[go_sem] theorem binK_sgtr : binK P .gtr t (.str x) (.str y) d K e H = K ((d,.bool !(Op.bytesLess x.toList y.toList || x.toList == y.toList)) :: e) H:=by rw [binK_str]; simp [abin]
end
def few19 (s : Setup) : Bool :=
 fewN s.network 20 40 20 && (decide ((s.fields.length : Int) <= 20) && (decide ((s.tenants.length : Int) <= 8) && (decide ((s.contracts.length : Int) <= 12) && (s.tenants.all fewT && s.contracts.all fun c => fewP c.pred))))
def tenI (s : Setup) (nm : ByteArray) : Int:=idxI (fun t : Tenant => decide (t.name = nm)) s.tenants
def tenAt (s : Setup) (k : Int) : Tenant:=(s.tenants[k.toNat]?).getD Tenant.z
theorem idxGo_lt {α : Type} (p : α -> Bool) : ∀ (l : List α) (i : Nat),idxGo p i l = -1 \/ ∃ j x,l[j]? = some x /\ p x = true /\ idxGo p i l = ((i + j : Nat) : Int) /\ ∀ m y,m < j -> l[m]? = some y -> p y = false
 | [],i => .inl rfl
 | x :: l,i => by
  rw [idxGo]
  cases h : p x with
  | true => exact .inr ⟨0,x,rfl,h,by simp,fun m y hm => by omega⟩
  | false =>
   rcases idxGo_lt p l (i + 1) with h1 | ⟨j,y,h1,h2,h3,h4⟩
   ·exact .inl (by simpa using h1)
   ·refine .inr ⟨j + 1,y,h1,h2,by rw [if_neg (by simp),h3]; congr 1; omega,fun m z hm hz => ?_⟩
    cases m with
    | zero => simp at hz; subst hz; exact h
    | succ m => exact h4 m z (by omega) (by simpa using hz)
theorem idxI_cases {α : Type} (p : α -> Bool) (l : List α) : (idxI p l = -1 /\ ∀ y ∈ l,p y = false) \/ ∃ (j : Nat) (x : α),j < l.length /\ l[j]? = some x /\ p x = true /\ idxI p l = (j : Int) /\ ∀ (m : Nat) (y : α),m < j -> l[m]? = some y -> p y = false:=by
 rcases idxGo_lt p l 0 with h | ⟨j,x,h1,h2,h3,h4⟩
 ·refine .inl ⟨h,fun y hy => ?_⟩
  have h2:=idxGo_any p l 0
  rw [h] at h2
  have h3 : l.any p = false:=by rw [<- h2]; rfl
  rw [List.any_eq_false] at h3
  simpa using h3 y hy
 ·exact .inr ⟨j,x,(List.getElem?_eq_some_iff.1 h1).1,h1,h2,by unfold idxI; rw [h3]; simp,h4⟩
def clash19 (s : Setup) (k : Nat) (t : Tenant) : Bool:=t.ports.any fun p => (s.tenants.take k).any fun u => decide (0 <= p.edge) && decide (0 <= portOf u p.edge)
def prevB (s : Setup) (k : Nat) (t : Tenant) : Bool:=decide (0 < k) && !ltB (tenAt s ((k : Int) - 1)).name t.name
def tenE (s : Setup) (k : Nat) (t : Tenant) : Int :=
 if ck18 s t ≠ 0 then ck18 s t else if (bWhole t).2 ≠ 0 then (bWhole t).2 else if prevB s k t = true then 4 else if clash19 s k t = true then 10 else 0
def tensGo (s : Setup) : Nat -> List Tenant -> Option (Int × Int)
 | _,[] => none
 | k,t :: r => if tenE s k t ≠ 0 then some ((k : Int),tenE s k t) else tensGo s (k + 1) r
def outB (t : Tenant) (n : Int) : Bool:=decide (0 <= n) && (decide (n < (t.ports.length : Int)) && decide (0 <= edgeAt t n))
def boxAt (s : Setup) (n : Int) : Bool:=((s.network.nodes[n.toNat]?).map (·.box)).getD false
def viaB (s : Setup) (c : Contract) : Bool :=
 decide (-1 <= c.via) && (decide (c.via < (s.network.nodes.length : Int)) && ((decide (c.via < 0) || boxAt s c.via) && (decide (0 <= c.capacity) && (decide (c.capacity <= 1048576) && (decide (0 <= c.price) && decide (c.price <= 1000))))))
def conE (s : Setup) (c : Contract) : Int :=
 if tenI s c.src < 0 \/ tenI s c.dst < 0 then 9
 else if tenI s c.src = tenI s c.dst \/ outB (tenAt s (tenI s c.src)) c.fromPort = false \/ outB (tenAt s (tenI s c.dst)) c.toPort = false then 1
 else if ckTP s.fields c.pred ≠ 0 then ckTP s.fields c.pred
 else if viaB s c = false then 1 else 0
def consGo (s : Setup) : Nat -> List Contract -> Option (Int × Int)
 | _,[] => none
 | k,c :: r => if conE s c ≠ 0 then some ((k : Int),conE s c) else consGo s (k + 1) r
def rchC (s : Setup) (nm : ByteArray) : List Contract -> List Bool × List Int -> List Bool × List Int
 | [],x => x
 | c :: r,x => rchC s nm r (if c.src = nm /\ (x.1[(tenI s c.dst).toNat]?).getD true = false then (x.1.set (tenI s c.dst).toNat true,x.2 ++ [imax (tenI s c.dst) 0]) else x)
def rchGo (s : Setup) : Nat -> Nat -> List Bool × List Int -> List Bool
 | 0,_,x => x.1
 | f + 1,i,x => match x.2[i]? with
  | none => x.1
  | some a => rchGo s f (i + 1) (rchC s (tenAt s a).name s.contracts x)
def rch (s : Setup) (k : Int) : List Bool:=rchGo s (s.tenants.length + 2) 0 (List.replicate s.tenants.length false,[k])
def loopsGo (s : Setup) : Nat -> List Tenant -> Option (Int × Int)
 | _,[] => none
 | k,_ :: r => if ((rch s k)[k]?).getD true = true then some (0,21) else loopsGo s (k + 1) r
def ck19 (s : Setup) : Int × Int :=
 if ckNet s.network ≠ 0 then (0,ckNet s.network) else if ckF s.fields ≠ 0 then (0,ckF s.fields)
 else if 64 < s.tenants.length \/ 100 < s.contracts.length then (0,2)
 else match tensGo s 0 s.tenants with
  | some x => x
  | none => match consGo s 0 s.contracts with
   | some x => x
   | none => (loopsGo s 0 s.tenants).getD (0,0)
def right19 (s : Setup) : Bool:=few19 s && (ck19 s).2 == 0
end Go.AI
namespace Go.AI
open Go.Proofs
set_option maxRecDepth 50000
theorem p_IndexContract {H : Heap} (l : List Contract) (hl : l.length <= 9223372036854775807) (g : FuncId) (fi ca : List AV) (p : Contract -> Bool)
  (h : ∀ x ∈ l,SCall Tryz.prog g (fi.map AV.borrow ++ (.agg x.c :: ca.map AV.borrow)) H (.bool (p x))) :
  SCall Tryz.prog 23 [.sl none (lContract l),.fn (.func g) fi ca] H (.int .i64 (idxI p l)):=by
 unfold SCall
 refine aC h23_k rfl ?_
 simp only [Tryz.f23,go_sem]
 refine awp_all l (fun r => idxGo p (l.length - r.length) r) (fun k => [(0,.sl none (lContract l)),(1,.fn (.func g) fi ca),(7,.int .i64 l.length),(8,.int .i64 k)]) hl rfl ?_ ?_
 ·intro k x xs hd hx hF h0 h1 hw
  have hk2:=drop_len hd
  have e1 : l.length - (xs.length + 1) = k:=by omega
  have e2 : l.length - xs.length = k + 1:=by omega
  simp only [List.length_cons,e1,Nat.sub_self] at hF
  simp only [go_sem,h0,h1,lContract_get hx,e1,e2]
  repeat' (first
   | (refine aS (h x (List.mem_of_getElem? hx)) ?_; simp only [go_sem,h0,h1,hw,lContract_get hx,e1,e2])
   | ((first | refine cS ?_ ?_ | refine gS ?_ ?_) <;> (intro hc; simp only [go_sem,hc,h0,h1,hw,lContract_get hx,e1,e2])))
  ·rw [idxI,hF,idxGo,if_pos hc]
  ·rw [idxGo,if_neg (by rw [hc]; decide)]
 ·intro hF hlt
  simp only [go_sem,hlt,decide_false]
  rw [Nat.sub_self] at hF
  rw [idxI,hF]; rfl
end Go.AI
namespace Go.AI
open Go.Proofs
set_option maxRecDepth 50000
theorem c_few19 (s : Setup) : PCall Tryz.prog 9 [.agg s.c] (.bool (few19 s)):=by
 refine PCall.fit h9_k.c fun hf => ?_
 have hl1:=Setup.fit_tenants (fit1 hf)
 have hl2:=Setup.fit_contracts (fit1 hf)
 refine pC h9_k rfl ?_
 simp only [Tryz.f9,go_sem]
 repeat' (first
  | (refine pK (c_fewN _ _ _ _) ?_; simp only [go_sem])
  | ((first | refine cS ?_ ?_ | refine gS ?_ ?_) <;> (intro hc; simp only [go_sem,hc])))
 all_goals first
  | rfl
  | (simp only [few19]; rfl)
  | grind [few19]
  | (simp only [few19]; grind)
  | (simp [few19, *]; done)
  | (simp_all [few19]; done)
  | skip
 all_goals
  refine awp_all s.tenants (fun r => r.all fewT) (fun k => [(1,.ptr 0 0),(4,.int .i64 k)]) hl1 rfl ?_ ?_
  ·intro k y ys hd hx hF h0 h1 hw
   simp only [go_sem,h0,h1,lTenant_get hx]
   repeat' (first
    | (refine pK (c_fewT _) ?_; simp only [go_sem,h0,h1,hw,lTenant_get hx])
    | ((first | refine cS ?_ ?_ | refine gS ?_ ?_) <;> (intro hc; simp only [go_sem,hc,h0,h1,hw,lTenant_get hx])))
   all_goals first
    | rfl
    | (simp only [few19,List.all_cons,List.all_nil]; rfl)
    | grind [few19]
    | (simp only [few19,List.all_cons,List.all_nil]; grind)
    | (simp [few19,List.all_cons,List.all_nil, *]; done)
    | (simp_all [few19,List.all_cons,List.all_nil]; done)
    | skip
  ·intro hF hlt
   simp only [go_sem,hlt,decide_false]
   refine awp_all s.contracts (fun r => r.all fun x => fewP x.pred) (fun k => [(1,.ptr 0 0),(6,.int .i64 k)]) hl2 rfl ?_ ?_
   ·intro k y ys hd hx hF h0 h1 hw
    simp only [go_sem,h0,h1,lContract_get hx]
    repeat' (first
     | (refine pK (c_fewP _) ?_; simp only [go_sem,h0,h1,hw,lContract_get hx])
     | ((first | refine cS ?_ ?_ | refine gS ?_ ?_) <;> (intro hc; simp only [go_sem,hc,h0,h1,hw,lContract_get hx])))
    all_goals first
     | rfl
     | (simp only [few19,List.all_cons,List.all_nil]; rfl)
     | grind [few19]
     | (simp only [few19,List.all_cons,List.all_nil]; grind)
     | (simp [few19,List.all_cons,List.all_nil, *]; done)
     | (simp_all [few19,List.all_cons,List.all_nil]; done)
     | skip
   ·intro hF2 hlt2
    simp only [go_sem,hlt2,decide_false]
    repeat' (first
     | ((first | refine cS ?_ ?_ | refine gS ?_ ?_) <;> (intro hc; simp only [go_sem,hc])))
    all_goals first
     | rfl
     | (simp only [few19,List.all_cons,List.all_nil]; rfl)
     | grind [few19]
     | (simp only [few19,List.all_cons,List.all_nil]; grind)
     | (simp [few19,List.all_cons,List.all_nil, *]; done)
     | (simp_all [few19,List.all_cons,List.all_nil]; done)
     | skip
def tenR (k : Int) : AV:=.tup [.int .i64 (imax k 0),.bool (decide (0 <= k))]
theorem c_ten19 (s : Setup) (nm : ByteArray) (hl : s.tenants.length <= 1073741824) : PCall Tryz.prog 79 [.agg s.c,.str nm] (tenR (tenI s nm)):=by
 refine pC h79_k rfl ?_
 simp only [Tryz.f79,go_sem,toList_beq]
 refine awp_all s.tenants (fun r => idxGo (fun t : Tenant => decide (t.name = nm)) (s.tenants.length - r.length) r) (fun k => [(1,.str nm),(2,.ptr 0 0),(6,.int .i64 k)]) (by omega) rfl ?_ ?_
 ·intro k y ys hd hx hF h0 h1 hw
  have hk2:=drop_len hd
  have e1 : s.tenants.length - (ys.length + 1) = k:=by omega
  have e2 : s.tenants.length - ys.length = k + 1:=by omega
  simp only [List.length_cons,e1,Nat.sub_self] at hF
  simp only [go_sem,h0,h1,lTenant_get hx,toList_beq,e1,e2]
  repeat' (first
   | ((first | refine cS ?_ ?_ | refine gS ?_ ?_) <;> (intro hc; simp only [go_sem,hc,h0,h1,hw,lTenant_get hx,toList_beq,e1,e2])))
  ·have h2 : tenI s nm = (k : Int):=by rw [tenI,idxI,hF,idxGo,if_pos hc]
   rw [h2]
   have h3 : imax (k : Int) 0 = k:=by unfold imax; split <;> omega
   rw [tenR,h3,decide_eq_true h0]
  ·rw [idxGo,if_neg (by rw [hc]; decide)]
 ·intro hF hlt
  simp only [go_sem,hlt,decide_false]
  rw [Nat.sub_self] at hF
  have h2 : tenI s nm = -1:=by rw [tenI,idxI,hF]; rfl
  rw [h2]; rfl
theorem c_out19 (t : Tenant) (n : Int) : PCall Tryz.prog 80 [.agg t.c,.int .i64 n] (.bool (outB t n)):=by
 refine pC h80_k rfl ?_
 by_cases h : 0 <= n /\ n < (t.ports.length : Int)
 ·obtain ⟨h0,h1⟩:=h
  obtain ⟨x,hx⟩ : ∃ x,t.ports[n.toNat]? = some x:=⟨_,List.getElem?_eq_getElem (by omega)⟩
  have hg:=lPort_get hx
  have he : edgeAt t n = x.edge:=by simp [edgeAt,hx]
  simp only [Tryz.f80,go_sem,h0,h1,hg]
  repeat' (first
   | ((first | refine cS ?_ ?_ | refine gS ?_ ?_) <;> (intro hc; simp only [go_sem,hc,h0,h1,hg])))
  all_goals (rw [outB,he]; simp [h0,h1])
 ·simp only [Tryz.f80,go_sem]
  repeat' (first
   | ((first | refine cS ?_ ?_ | refine gS ?_ ?_) <;> (intro hc; simp only [go_sem,hc])))
  all_goals first | (simp only [outB]; grind) | skip
end Go.AI
namespace Go.AI
open Go.Proofs
set_option maxRecDepth 50000
theorem tenAt_get {s : Setup} {k : Nat} {t : Tenant} (h : s.tenants[k]? = some t) : tenAt s (k : Int) = t:=by simp [tenAt,h]
set_option maxHeartbeats 4000000 in
theorem c_tenE (s : Setup) (k : Nat) (t : Tenant) (hk : s.tenants[k]? = some t) (hl : okF s.fields) (hs : bulkL s.c <= 1073741824) (hb : bulkL t.c <= 1048576) (hn : s.tenants.length <= 1073741824) : PCall Tryz.prog 31 [.agg s.c, .int .i64 k] (.int .i64 (tenE s k t)) := by
  have hkl : k < s.tenants.length := (List.getElem?_eq_some_iff.1 hk).1
  have hw1 : t.wires.length <= 1073741824 := Nat.le_trans (lWire_bn (Tenant.bl_wires hb)) (by decide)
  have hp1 : t.ports.length <= 1048576 := lPort_bn (Tenant.bl_ports hb)
  have hk1 := lTenant_get hk
  have hk2 : (k : Int) < (s.tenants.length : Int) := by omega
  have hk3 : (0 : Int) <= (k : Int) := by omega
  have hbw : ∀ x ∈ t.program, bulkL (bClosed t x.policy).c <= 1073741824 := fun x hx => bk_closed (by
    have h1 := lStage_bk (Tenant.bl_program hb) hx
    have h2 : bulkL x.c <= 1048576 := by simpa only [AV.bulk] using h1
    exact Stage.bs_policy h2) (Nat.le_trans (lWire_bn (Tenant.bl_wires hb)) (Nat.le_refl _))
  have hpg : t.program.length <= 1073741824 := Nat.le_trans (lStage_bn (Tenant.bl_program hb)) (by decide)
  have q1 := c_ck18 s t hl hs (Nat.le_trans hb (by decide))
  have q2 := q_Whole t hw1 hpg hbw
  have htk : (s.tenants.take k).length = k := by rw [List.length_take]; omega
  refine pC h31_k rfl ?_
  cases q3 : (ck18 s t != 0) with
  | true =>
    simp only [Tryz.f31, go_sem, hk1, hk2, hk3]
    repeat' (first
      | ((first | refine pK (q1) ?_ | refine pK (q2) ?_); simp only [go_sem, hk1, hk2, hk3, q3])
      | ((first | refine cS ?_ ?_ | refine gS ?_ ?_) <;> (intro hc; simp only [go_sem, hc, hk1, hk2, hk3, q3])))
    rw [tenE, if_pos (by simpa using q3)]
  | false =>
  cases q4 : ((bWhole t).2 != 0) with
  | true =>
    simp only [Tryz.f31, go_sem, hk1, hk2, hk3]
    repeat' (first
      | ((first | refine pK (q1) ?_ | refine pK (q2) ?_); simp only [go_sem, hk1, hk2, hk3, q3, q4])
      | ((first | refine cS ?_ ?_ | refine gS ?_ ?_) <;> (intro hc; simp only [go_sem, hc, hk1, hk2, hk3, q3, q4])))
    rw [tenE, if_neg (by simpa using q3), if_pos (by simpa using q4)]
  | false =>
  rcases Nat.eq_zero_or_pos k with hz | hz
  · have hgt : decide ((0 : Int) < (k : Int)) = false := decide_eq_false (by omega)
    have q5 : prevB s k t = false := by unfold prevB; simp [hz]
    simp only [Tryz.f31, go_sem, hk1, hk2, hk3]
    repeat' (first
      | ((first | refine pK (q1) ?_ | refine pK (q2) ?_); simp only [go_sem, hk1, hk2, hk3, q3, q4, hgt])
      | ((first | refine cS ?_ ?_ | refine gS ?_ ?_) <;> (intro hc; simp only [go_sem, hc, hk1, hk2, hk3, q3, q4, hgt])))
    refine awp_all t.ports (fun r => r.any fun p => (s.tenants.take k).any fun u => decide (0 <= p.edge) && decide (0 <= portOf u p.edge)) (fun i => [(1, .int .i64 k), (2, .ptr 0 0), (5, .ptr 1 0), (9, .int .i64 i)]) (by omega) rfl ?_ ?_
    · intro i y ys hd hy hF h0 h1 hw
      have hy2 := lPort_get hy
      simp only [go_sem, h0, h1, hy2]
      refine awp_all (s.tenants.take k) (fun r => r.any fun u => decide (0 <= y.edge) && decide (0 <= portOf u y.edge)) (fun j => [(1, .int .i64 k), (2, .ptr 0 0), (5, .ptr 1 0), (9, .int .i64 i), (10, .int .i64 j)]) (by omega) rfl ?_ ?_
      · intro j u us hd3 hu3 hF3 g0 g1 gw
        have g1' : (j : Int) < (k : Int) := by omega
        have hu4 : s.tenants[j]? = some u := by
          rw [List.getElem?_take] at hu3
          split at hu3
          · exact hu3
          · cases hu3
        have hu5 := lTenant_get hu4
        simp only [go_sem, g0, g1', hy2, h0, hu5]
        repeat' (first
          | (refine pK (c_Port18 u y.edge) ?_; simp only [go_sem, h0, h1, hy2, g0, g1', gw, hu5])
          | ((first | refine cS ?_ ?_ | refine gS ?_ ?_) <;> (intro hc; simp only [go_sem, hc, h0, h1, hy2, g0, g1', gw, hu5])))
        all_goals first
          | (have e1 : clash19 s k t = true := by
               unfold clash19; rw [hF, List.any_cons, hF3, List.any_cons]
               simp_all
             simp only [decide_eq_true_eq] at *
             rw [tenE, if_neg (by simpa using q3), if_neg (by simpa using q4), if_neg (by rw [q5]; decide), if_pos e1])
          | (rw [List.any_cons]; simp_all; done)
          | skip
      · intro hF3 hlt
        have hlt2 : ¬ ((s.tenants.take k).length : Int) < (k : Int) := by omega
        simp only [go_sem, hlt2, decide_false, hw]
        have hF4 : ((s.tenants.take k).any fun u => decide (0 <= y.edge) && decide (0 <= portOf u y.edge)) = false := hF3
        rw [hF4]; rfl
    · intro hF hlt
      simp only [go_sem, hlt, decide_false]
      have e1 : clash19 s k t = false := by unfold clash19; rw [hF]; rfl
      rw [tenE, if_neg (by simpa using q3), if_neg (by simpa using q4), if_neg (by rw [q5]; decide), if_neg (by rw [e1]; decide)]
  · obtain ⟨u, hu⟩ : ∃ u, s.tenants[k - 1]? = some u := ⟨_, List.getElem?_eq_getElem (by omega)⟩
    have hgt : decide ((0 : Int) < (k : Int)) = true := decide_eq_true (by omega)
    have hw1 : IntKind.i64.wrap ((k : Int) - 1) = ((k - 1 : Nat) : Int) := by rw [w64 (by omega) (by omega)]; omega
    have hw0 : (0 : Int) <= ((k - 1 : Nat) : Int) := by omega
    have hu2 := lTenant_get hu
    have hu3 : tenAt s ((k : Int) - 1) = u := by
      have : ((k : Int) - 1) = ((k - 1 : Nat) : Int) := by omega
      rw [this]; exact tenAt_get hu
    cases q5 : prevB s k t with
    | true =>
      have q6 : (!Op.bytesLess u.name.toList t.name.toList) = true := by
        unfold prevB at q5; rw [hu3] at q5; simp only [Bool.and_eq_true] at q5; exact q5.2
      simp only [Tryz.f31, go_sem, hk1, hk2, hk3]
      repeat' (first
        | ((first | refine pK (q1) ?_ | refine pK (q2) ?_); simp only [go_sem, hk1, hk2, hk3, q3, q4, hgt, hw1, hw0, hu2, q6])
        | ((first | refine cS ?_ ?_ | refine gS ?_ ?_) <;> (intro hc; simp only [go_sem, hc, hk1, hk2, hk3, q3, q4, hgt, hw1, hw0, hu2, q6])))
      all_goals first | (rw [tenE, if_neg (by simpa using q3), if_neg (by simpa using q4), if_pos q5]) | skip
    | false =>
      have q6 : (!Op.bytesLess u.name.toList t.name.toList) = false := by
        unfold prevB at q5; rw [hu3] at q5; simp only [Bool.and_eq_false_iff, decide_eq_false_iff_not] at q5
        exact q5.resolve_left (by omega)
      simp only [Tryz.f31, go_sem, hk1, hk2, hk3]
      repeat' (first
        | ((first | refine pK (q1) ?_ | refine pK (q2) ?_); simp only [go_sem, hk1, hk2, hk3, q3, q4, hgt, hw1, hw0, hu2, q6])
        | ((first | refine cS ?_ ?_ | refine gS ?_ ?_) <;> (intro hc; simp only [go_sem, hc, hk1, hk2, hk3, q3, q4, hgt, hw1, hw0, hu2, q6])))
      refine awp_all t.ports (fun r => r.any fun p => (s.tenants.take k).any fun u => decide (0 <= p.edge) && decide (0 <= portOf u p.edge)) (fun i => [(1, .int .i64 k), (2, .ptr 0 0), (5, .ptr 1 0), (9, .int .i64 i)]) (by omega) rfl ?_ ?_
      · intro i y ys hd hy hF h0 h1 hw
        have hy2 := lPort_get hy
        simp only [go_sem, h0, h1, hy2]
        refine awp_all (s.tenants.take k) (fun r => r.any fun u => decide (0 <= y.edge) && decide (0 <= portOf u y.edge)) (fun j => [(1, .int .i64 k), (2, .ptr 0 0), (5, .ptr 1 0), (9, .int .i64 i), (10, .int .i64 j)]) (by omega) rfl ?_ ?_
        · intro j u us hd3 hu3 hF3 g0 g1 gw
          have g1' : (j : Int) < (k : Int) := by omega
          have hu4 : s.tenants[j]? = some u := by
            rw [List.getElem?_take] at hu3
            split at hu3
            · exact hu3
            · cases hu3
          have hu5 := lTenant_get hu4
          simp only [go_sem, g0, g1', hy2, h0, hu5]
          repeat' (first
            | (refine pK (c_Port18 u y.edge) ?_; simp only [go_sem, h0, h1, hy2, g0, g1', gw, hu5])
            | ((first | refine cS ?_ ?_ | refine gS ?_ ?_) <;> (intro hc; simp only [go_sem, hc, h0, h1, hy2, g0, g1', gw, hu5])))
          all_goals first
            | (have e1 : clash19 s k t = true := by
                 unfold clash19; rw [hF, List.any_cons, hF3, List.any_cons]
                 simp_all
               simp only [decide_eq_true_eq] at *
               rw [tenE, if_neg (by simpa using q3), if_neg (by simpa using q4), if_neg (by rw [q5]; decide), if_pos e1])
            | (rw [List.any_cons]; simp_all; done)
            | skip
        · intro hF3 hlt
          have hlt2 : ¬ ((s.tenants.take k).length : Int) < (k : Int) := by omega
          simp only [go_sem, hlt2, decide_false, hw]
          have hF4 : ((s.tenants.take k).any fun u => decide (0 <= y.edge) && decide (0 <= portOf u y.edge)) = false := hF3
          rw [hF4]; rfl
      · intro hF hlt
        simp only [go_sem, hlt, decide_false]
        have e1 : clash19 s k t = false := by unfold clash19; rw [hF]; rfl
        rw [tenE, if_neg (by simpa using q3), if_neg (by simpa using q4), if_neg (by rw [q5]; decide), if_neg (by rw [e1]; decide)]
theorem tenI_get {s : Setup} {nm : ByteArray} (h : 0 <= tenI s nm) : ∃ t,s.tenants[(tenI s nm).toNat]? = some t /\ t.name = nm /\ tenAt s (tenI s nm) = t /\ tenI s nm < (s.tenants.length : Int):=by
 rcases idxI_cases (fun t : Tenant => decide (t.name = nm)) s.tenants with ⟨h1,_⟩ | ⟨j,x,h1,h2,h3,h4,_⟩
 ·unfold tenI at h; omega
 ·have h5 : tenI s nm = (j : Int):=h4
  rw [h5]
  exact ⟨x,by simpa using h2,by simpa using h3,by simp [tenAt,h2],by omega⟩
theorem imax0 {k : Int} (h : 0 <= k) : imax k 0 = k:=by unfold imax; split <;> omega
theorem c_conE (s : Setup) (c : Contract) (hl : okF s.fields) (hb : bulkL c.c <= 1073741824) (hn : s.tenants.length <= 1073741824) : PCall Tryz.prog 32 [.agg s.c,.agg c.c] (.int .i64 (conE s c)):=by
 have q1:=c_ten19 s c.src hn
 have q2:=c_ten19 s c.dst hn
 simp only [tenR] at q1 q2
 refine pC h32_k rfl ?_
 by_cases ha : 0 <= tenI s c.src
 ·by_cases hd : 0 <= tenI s c.dst
  ·obtain ⟨a,ha1,_,ha2,ha3⟩:=tenI_get ha
   obtain ⟨b,hb1,_,hb2,hb3⟩:=tenI_get hd
   have ha4:=lTenant_get ha1
   have hb4:=lTenant_get hb1
   rw [imax0 ha,decide_eq_true ha] at q1
   rw [imax0 hd,decide_eq_true hd] at q2
   have q3:=c_out19 a c.fromPort
   have q4:=c_out19 b c.toPort
   have q5:=c_ckTP s.fields c.pred hl (Contract.bs_pred hb)
   have e0 : ¬ (tenI s c.src < 0 \/ tenI s c.dst < 0):=by omega
   rw [conE,if_neg e0,ha2,hb2]
   by_cases hv : 0 <= c.via /\ c.via < (s.network.nodes.length : Int)
   ·obtain ⟨nd,hnd⟩ : ∃ nd,s.network.nodes[c.via.toNat]? = some nd:=⟨_,List.getElem?_eq_getElem (by omega)⟩
    have hnd2:=lNode_get hnd
    have hbx : boxAt s c.via = nd.box:=by simp [boxAt,hnd]
    have hv0:=hv.1
    simp only [Tryz.f32,go_sem]
    repeat' (first
     | ((first | refine pK (q1) ?_ | refine pK (q2) ?_ | refine pK (q3) ?_ | refine pK (q4) ?_ | refine pK (q5) ?_); simp only [go_sem,ha,hd,ha4,hb4,hnd2,hv0])
     | ((first | refine cS ?_ ?_ | refine gS ?_ ?_) <;> (intro hc; simp only [go_sem,hc,ha,hd,ha4,hb4,hnd2,hv0])))
    all_goals first | (simp only [viaB,hbx]; grind) | skip
   ·simp only [Tryz.f32,go_sem]
    repeat' (first
     | ((first | refine pK (q1) ?_ | refine pK (q2) ?_ | refine pK (q3) ?_ | refine pK (q4) ?_ | refine pK (q5) ?_); simp only [go_sem,ha,hd,ha4,hb4])
     | ((first | refine cS ?_ ?_ | refine gS ?_ ?_) <;> (intro hc; simp only [go_sem,hc,ha,hd,ha4,hb4])))
    all_goals first | (simp only [viaB]; grind) | skip
  ·rw [decide_eq_false hd] at q2
   simp only [Tryz.f32,go_sem]
   repeat' (first
    | ((first | refine pK (q1) ?_ | refine pK (q2) ?_); simp only [go_sem])
    | ((first | refine cS ?_ ?_ | refine gS ?_ ?_) <;> (intro hc; simp only [go_sem,hc])))
   all_goals first | (rw [conE,if_pos (by omega)]) | skip
 ·rw [decide_eq_false ha] at q1
  simp only [Tryz.f32,go_sem]
  repeat' (first
   | ((first | refine pK (q1) ?_ | refine pK (q2) ?_); simp only [go_sem])
   | ((first | refine cS ?_ ?_ | refine gS ?_ ?_) <;> (intro hc; simp only [go_sem,hc])))
  all_goals first | (rw [conE,if_pos (by omega)]) | skip
end Go.AI
namespace Go.AI
open Go.Proofs
set_option maxRecDepth 50000
def bRow (l : List Bool) : List AV:=l.map .bool
theorem bRow_len (l : List Bool) : (bRow l).length = l.length:=by simp [bRow]
theorem bRow_get {l : List Bool} {i : Nat} {b : Bool} (h : l[i]? = some b) : (bRow l)[i]? = some (.bool b):=by simp [bRow,h]
theorem bRow_set {l : List Bool} {i : Nat} (h : i < l.length) (b : Bool) : splice (bRow l) i [.bool b] = bRow (l.set i b):=by
 apply List.ext_getElem?
 intro j
 have hl:=bRow_len l
 rw [splice_get (by simp; omega)]
 simp only [bRow,List.getElem?_map,List.getElem?_set,List.length_singleton]
 by_cases hj : i <= j /\ j < i + 1
 ·have : j = i:=by omega
  subst this
  rw [if_pos hj,if_pos rfl,if_pos h]; simp
 ·rw [if_neg hj,if_neg (by omega)]
@[go_sem] theorem bRow_pure (l : List Bool) : pureL (bRow l) = true:=by
 induction l with
 | nil => rfl
 | cons b l ih => exact ih
theorem bRow_chunk (l : List Bool) : chunk false 1 l.length ((bRow l).map borrow1) = bRow l:=by
 induction l with
 | nil => rfl
 | cons b l ih =>
  show AV.bool b :: chunk false 1 l.length ((bRow l).map borrow1) = AV.bool b :: bRow l
  rw [ih]
theorem bRow_rep (n : Nat) : (List.replicate n [AV.bool false]).flatten = bRow (List.replicate n false):=by
 induction n with
 | zero => rfl
 | succ n ih => rw [List.replicate_succ,List.flatten_cons,ih]; rfl
def cntT (l : List Bool) : Nat:=(l.filter id).length
theorem cntT_le (l : List Bool) : cntT l <= l.length:=List.length_filter_le _ _
theorem cntT_set {l : List Bool} {i : Nat} (h : l[i]? = some false) : cntT (l.set i true) = cntT l + 1:=by
 induction l generalizing i with
 | nil => simp at h
 | cons b l ih =>
  cases i with
  | zero => simp at h; subst h; simp [cntT]
  | succ i =>
   have:=ih (i:=i) (by simpa using h)
   simp only [List.set_cons_succ,cntT,List.filter_cons] at this ⊢
   split <;> simp_all
theorem cntT_rep (n : Nat) : cntT (List.replicate n false) = 0:=by
 induction n with
 | zero => rfl
 | succ n ih => rw [List.replicate_succ]; exact ih
def rOk (s : Setup) (x : List Bool × List Int) : Prop:=x.1.length = s.tenants.length /\ x.2.length = 1 + cntT x.1 /\ ∀ a ∈ x.2,0 <= a /\ a < (s.tenants.length : Int)
set_option maxHeartbeats 2000000 in
theorem c_reached (s : Setup) (k : Nat) (hk : k < s.tenants.length) (hn : s.tenants.length <= 1048576) (hc : s.contracts.length <= 1048576) (hf : ∀ c ∈ s.contracts,0 <= tenI s c.dst) : PCall Tryz.prog 33 [.agg s.c,.int .i64 k] (.sl none (bRow (rch s k))):=by
 refine pB h33_k rfl ?_
 have hz : zeroAV Tryz.prog 4 = some (.bool false):=by kernel_rfl
 have n0 : (s.tenants.length : Int) * ((1 : Nat) : Int) <= 140737488355328:=by omega
 simp only [Tryz.f33,go_sem]
 refine ⟨by omega,n0,by omega, ?_⟩
 refine awp_wh (σ:=Nat × List Bool × List Int) (fun x => [(2,.ptr 0 0),(5,.msl 1 0 s.tenants.length 1),(6,.sl (some 1) (lI64 x.2.2)),(7,.int .i64 x.1)]) (fun x => [some s.c,some (bRow x.2.1)])
  (fun x => x.1 <= x.2.2.length /\ rOk s x.2 /\ rch s k = rchGo s (s.tenants.length + 2 - x.1) x.1 x.2) (fun x => s.tenants.length + 2 - x.1) (0,List.replicate s.tenants.length false,[(k : Int)])
  ⟨Nat.zero_le _,⟨by simp,by rw [cntT_rep]; rfl,fun a ha => by rcases List.mem_singleton.1 ha with rfl; omega⟩,rfl⟩ rfl (by rw [bRow_rep]) ?_
 rintro ⟨i,seen,q⟩ ⟨hi,hR,hE⟩
 have hq:=hR.2.1
 have hcn:=cntT_le seen
 have hsl:=hR.1
 simp only at hi hq hcn hsl
 by_cases hlt : i < q.length
 ·obtain ⟨a,ha⟩ : ∃ a,q[i]? = some a:=⟨_,List.getElem?_eq_getElem hlt⟩
  obtain ⟨ha0,ha1⟩:=hR.2.2 a (List.mem_of_getElem? ha)
  obtain ⟨u,hu⟩ : ∃ u,s.tenants[a.toNat]? = some u:=⟨_,List.getElem?_eq_getElem (by omega)⟩
  have hu2:=lTenant_get hu
  have hu3 : tenAt s a = u:=by simp [tenAt,hu]
  have hlt2 : (i : Int) < (q.length : Int):=by omega
  have hw:=w64s (k:=i) (by omega)
  have hi0 : (0 : Int) <= (i : Int):=by omega
  simp only [go_sem,hlt2]
  refine awp_lst s.contracts (fun x r => rchC s u.name r x) (fun _ x => rOk s x /\ x.2[i]? = some a) (fun j x => [(2,.ptr 0 0),(5,.msl 1 0 s.tenants.length 1),(6,.sl (some 1) (lI64 x.2)),(7,.int .i64 i),(8,.int .i64 j)]) (fun j x => [some s.c,some (bRow x.1)]) (seen,q) (by omega) ⟨hR,ha⟩ rfl rfl ?_ ?_
  ·rintro j ⟨sn,p⟩ c cs hd hcx ⟨hRx,hax⟩ hF g0 g1 gw
   have hcm:=List.mem_of_getElem? hcx
   have hc2:=lContract_get hcx
   have ht0:=hf c hcm
   obtain ⟨v,hv1,_,_,hv4⟩:=tenI_get ht0
   obtain ⟨m,hm⟩ : ∃ m : Nat,tenI s c.dst = (m : Int):=⟨(tenI s c.dst).toNat,by omega⟩
   have q1:=c_ten19 s c.dst (by omega)
   rw [tenR,imax0 ht0,decide_eq_true ht0,hm] at q1
   have hm1 : m < sn.length:=by rw [hRx.1]; omega
   have hm2 : (m : Int) < (s.tenants.length : Int):=by omega
   have hm0 : (0 : Int) <= (m : Int):=by omega
   obtain ⟨b,hb⟩ : ∃ b,sn[m]? = some b:=⟨_,List.getElem?_eq_getElem hm1⟩
   have hb2:=bRow_get hb
   have hp2:=lI64_get hax
   have hst:=bRow_set hm1 true
   have hpl : (lI64 p).length = p.length:=lI64_len p
   have hrl:=bRow_len sn
   have hq2:=hRx.2.1
   have hcn2:=cntT_le sn
   simp only at hq2 hcn2
   have hsn:=hRx.1
   simp only at hsn
   have hm3 : (m + 1 <= sn.length) = True:=eq_true (by omega)
   simp only [go_sem,g0,g1,hc2,hi0,hp2,ha0,hu2,hm0,hm2,hb2,hst,hrl,toList_beq]
   repeat' (first
    | (refine pK (q1) ?_; simp only [go_sem,g0,g1,hc2,hi0,hp2,ha0,hu2,hm0,hm2,hb2,hst,hrl,toList_beq,gw,hm3])
    | ((first | refine cS ?_ ?_ | refine gS ?_ ?_) <;> (intro hc; simp only [go_sem,hc,g0,g1,hc2,hi0,hp2,ha0,hu2,hm0,hm2,hb2,hst,hrl,toList_beq,gw,hm3])))
   ·have hb3 : b = false:=by simpa using hc
    subst hb3
    rename_i hc1
    refine ⟨by omega,by omega,(sn.set m true,p ++ [(m : Int)]), ?_,⟨⟨by simpa using hsn,by rw [cntT_set hb]; simp; omega, ?_⟩, ?_⟩, ?_⟩
    ·rw [rchC,if_pos ⟨by simpa using hc1,by rw [hm]; simp [hb]⟩,hm,imax0 hm0]; simp
    ·intro z hz
     rcases List.mem_append.1 hz with hz | hz
     ·exact hRx.2.2 z hz
     ·rcases List.mem_singleton.1 hz with rfl; exact ⟨hm0,hm2⟩
    ·rw [List.getElem?_append_left (List.getElem?_eq_some_iff.1 hax).1]; exact hax
    ·exact ⟨rfl,rfl⟩
   ·have hb3 : b = true:=by simpa using hc
    subst hb3
    exact ⟨(sn,p),by rw [rchC,if_neg (by rw [hm]; simp [hb])],⟨hRx,hax⟩,rfl,rfl⟩
   ·rename_i hc1
    exact ⟨(sn,p),by rw [rchC,if_neg (fun h => by simp [h.1] at hc)],⟨hRx,hax⟩,rfl,rfl⟩
  ·rintro ⟨sn,p⟩ ⟨hRx,hax⟩ hF
   simp only [go_sem,Int.lt_irrefl,decide_false,hw]
   have hF' : rchC s u.name s.contracts (seen,q) = (sn,p):=hF
   have e2 : s.tenants.length + 2 - i = (s.tenants.length + 2 - (i + 1)) + 1:=by omega
   have hpi:=(List.getElem?_eq_some_iff.1 hax).1
   simp only at hpi
   refine ⟨(i + 1,sn,p),⟨by simp only; omega,hRx, ?_⟩,by simp only; omega,rfl,rfl⟩
   rw [hE]
   simp only
   rw [e2,rchGo]
   simp only [ha]
   rw [hu3,hF']
 ·have hlt2 : ¬ (i : Int) < (q.length : Int):=by omega
  have hfr : (s.tenants.length <= (bRow seen).length /\ (False \/ True)) = True:=eq_true ⟨by rw [bRow_len]; omega,.inr trivial⟩
  have hch : chunk false 1 s.tenants.length ((bRow seen).map borrow1) = bRow seen:=by rw [<- hsl]; exact bRow_chunk seen
  have e2 : s.tenants.length + 2 - i = (s.tenants.length + 1 - i) + 1:=by omega
  have hE2 : rch s k = seen:=by
   rw [hE]
   simp only
   rw [e2,rchGo]
   simp only [List.getElem?_eq_none (Nat.le_of_not_lt hlt)]
  rw [hE2]
  simp only [go_sem,hlt2,decide_false,hfr,hch]
theorem rchC_len (s : Setup) (nm : ByteArray) : ∀ (l : List Contract) (x : List Bool × List Int),(rchC s nm l x).1.length = x.1.length
 | [],x => rfl
 | c :: r,x => by
  rw [rchC,rchC_len s nm r]
  split <;> simp
theorem rchGo_len (s : Setup) : ∀ (f i : Nat) (x : List Bool × List Int),(rchGo s f i x).length = x.1.length
 | 0,_,_ => rfl
 | f + 1,i,x => by
  rw [rchGo]
  split
  ·rfl
  ·rw [rchGo_len s f,rchC_len]
theorem rch_len (s : Setup) (k : Int) : (rch s k).length = s.tenants.length:=by rw [rch,rchGo_len]; simp
end Go.AI
namespace Go.AI
open Go.Proofs
set_option maxRecDepth 50000
theorem consGo_none {s : Setup} : ∀ {l : List Contract} {i : Nat},consGo s i l = none -> ∀ c ∈ l,conE s c = 0
 | [],_,_,c,hc => by cases hc
 | x :: r,i,h,c,hc => by
  rw [consGo] at h
  split at h
  ·cases h
  ·rename_i hx
   rcases List.mem_cons.1 hc with rfl | hc
   ·simpa using hx
   ·exact consGo_none h c hc
theorem tensGo_none {s : Setup} : ∀ {l : List Tenant} {i : Nat},tensGo s i l = none -> ∀ (j : Nat) (t : Tenant),l[j]? = some t -> tenE s (i + j) t = 0
 | [],_,_,j,t,hc => by simp at hc
 | x :: r,i,h,j,t,hc => by
  rw [tensGo] at h
  split at h
  ·cases h
  ·rename_i hx
   cases j with
   | zero => simp at hc; subst hc; simpa using hx
   | succ j =>
    have:=tensGo_none h j t (by simpa using hc)
    rwa [show i + 1 + j = i + (j + 1) by omega] at this
theorem conE_dst {s : Setup} {c : Contract} (h : conE s c = 0) : 0 <= tenI s c.src /\ 0 <= tenI s c.dst:=by
 unfold conE at h
 split at h
 ·cases h
 ·omega
set_option maxHeartbeats 4000000 in
theorem c_ck19 (s : Setup) (hs : bulkL s.c <= 1048576) : PCall Tryz.prog 10 [.agg s.c] (.tup [.int .i64 (ck19 s).1,.int .i64 (ck19 s).2]):=by
 have hnt : s.tenants.length <= 1048576:=lTenant_bn (Setup.bl_tenants hs)
 have hnc : s.contracts.length <= 1048576:=lContract_bn (Setup.bl_contracts hs)
 have hs2 : bulkL s.c <= 1073741824:=Nat.le_trans hs (by decide)
 have q1:=c_ckNet s.network (Setup.bs_network hs2)
 have q2:=c_ckF s.fields (Setup.bl_fields hs2)
 refine pC h10_k rfl ?_
 by_cases e1 : ckNet s.network = 0
 ·by_cases e2 : ckF s.fields = 0
  ·have hl : okF s.fields:=fun f hf => Int.le_trans (ckF_width e2 f hf) (by decide)
   have e3 : (ckNet s.network != 0) = false:=by simp [e1]
   have e4 : (ckF s.fields != 0) = false:=by simp [e2]
   by_cases e5 : 64 < s.tenants.length \/ 100 < s.contracts.length
   ·have h0 : ck19 s = (0,2):=by unfold ck19; rw [if_neg (by simp [e1]),if_neg (by simp [e2]),if_pos e5]
    rw [h0]
    simp only [Tryz.f10,go_sem]
    repeat' (first
     | ((first | refine pK (q1) ?_ | refine pK (q2) ?_); simp only [go_sem,e3,e4])
     | ((first | refine cS ?_ ?_ | refine gS ?_ ?_) <;> (intro hc; simp only [go_sem,hc,e3,e4])))
    all_goals first | rfl | (simp only [decide_eq_true_eq,decide_eq_false_iff_not] at *; omega) | skip
   ·have h0 : ck19 s = (match tensGo s 0 s.tenants with
      | some x => x
      | none => match consGo s 0 s.contracts with
       | some x => x
       | none => (loopsGo s 0 s.tenants).getD (0,0)):=by unfold ck19; rw [if_neg (by simp [e1]),if_neg (by simp [e2]),if_neg e5] <;> rfl
    have g1 : ¬ (64 : Int) < (s.tenants.length : Int):=by omega
    have g2 : ¬ (100 : Int) < (s.contracts.length : Int):=by omega
    simp only [Tryz.f10,go_sem]
    repeat' (first
     | ((first | refine pK (q1) ?_ | refine pK (q2) ?_); simp only [go_sem,e3,e4,g1,g2,decide_false])
     | ((first | refine cS ?_ ?_ | refine gS ?_ ?_) <;> (intro hc; simp only [go_sem,hc,e3,e4,g1,g2,decide_false])))
    refine awp_all s.tenants (fun r => tensGo s (s.tenants.length - r.length) r) (fun k => [(1,.ptr 0 0),(5,.int .i64 k)]) (by omega) rfl ?_ ?_
    ·intro k y ys hd hx hF k0 k1 hw
     have hk2:=drop_len hd
     have d1 : s.tenants.length - (ys.length + 1) = k:=by omega
     have d2 : s.tenants.length - ys.length = k + 1:=by omega
     simp only [List.length_cons,d1,d2,Nat.sub_self] at hF ⊢
     have hby : bulkL y.c <= 1048576:=by have:=lTenant_bk (Setup.bl_tenants hs) (List.mem_of_getElem? hx); simpa only [AV.bulk] using this
     simp only [go_sem,k0,k1]
     repeat' (first
      | (refine pK (c_tenE s k y hx hl hs2 hby (by omega)) ?_; simp only [go_sem,k0,k1,hw,d1,d2])
      | ((first | refine cS ?_ ?_ | refine gS ?_ ?_) <;> (intro hc; simp only [go_sem,hc,k0,k1,hw,d1,d2])))
     ·have h1 : tensGo s 0 s.tenants = some ((k : Int),tenE s k y):=by rw [hF,tensGo,if_pos (by simpa using hc)]
      rw [h0,h1]
     ·rw [tensGo,if_neg (by simpa using hc)]
    ·intro hF hlt
     have hT : tensGo s 0 s.tenants = none:=by rw [Nat.sub_self] at hF; rw [hF]; rfl
     simp only [go_sem,hlt,decide_false]
     refine awp_all s.contracts (fun r => consGo s (s.contracts.length - r.length) r) (fun k => [(1,.ptr 0 0),(6,.int .i64 k)]) (by omega) rfl ?_ ?_
     ·intro k y ys hd hx hF2 k0 k1 hw
      have hk2:=drop_len hd
      have d1 : s.contracts.length - (ys.length + 1) = k:=by omega
      have d2 : s.contracts.length - ys.length = k + 1:=by omega
      simp only [List.length_cons,d1,d2,Nat.sub_self] at hF2 ⊢
      have hby : bulkL y.c <= 1073741824:=by
       have h5:=lContract_bk (Setup.bl_contracts hs) (List.mem_of_getElem? hx)
       have h6 : bulkL y.c <= 1048576:=by simpa only [AV.bulk] using h5
       exact Nat.le_trans h6 (by decide)
      simp only [go_sem,k0,k1,lContract_get hx]
      repeat' (first
       | (refine pK (c_conE s y hl hby (by omega)) ?_; simp only [go_sem,k0,k1,hw,d1,d2,lContract_get hx])
       | ((first | refine cS ?_ ?_ | refine gS ?_ ?_) <;> (intro hc; simp only [go_sem,hc,k0,k1,hw,d1,d2,lContract_get hx])))
      ·have h1 : consGo s 0 s.contracts = some ((k : Int),conE s y):=by rw [hF2,consGo,if_pos (by simpa using hc)]
       rw [h0,hT,h1]
      ·rw [consGo,if_neg (by simpa using hc)]
     ·intro hF2 hlt2
      have hC : consGo s 0 s.contracts = none:=by rw [Nat.sub_self] at hF2; rw [hF2]; rfl
      have hdst : ∀ c ∈ s.contracts,0 <= tenI s c.dst:=fun c hc => (conE_dst (consGo_none hC c hc)).2
      simp only [go_sem,hlt2,decide_false]
      refine awp_all s.tenants (fun r => loopsGo s (s.tenants.length - r.length) r) (fun k => [(1,.ptr 0 0),(7,.int .i64 k)]) (by omega) rfl ?_ ?_
      ·intro k y ys hd hx hF3 k0 k1 hw
       have hk2:=drop_len hd
       have d1 : s.tenants.length - (ys.length + 1) = k:=by omega
       have d2 : s.tenants.length - ys.length = k + 1:=by omega
       simp only [List.length_cons,d1,d2,Nat.sub_self] at hF3 ⊢
       have q3:=c_reached s k (by omega) hnt hnc hdst
       have hrl : (rch s k).length = s.tenants.length:=rch_len s k
       obtain ⟨b,hb⟩ : ∃ b,(rch s k)[k]? = some b:=⟨_,List.getElem?_eq_getElem (by omega)⟩
       have hb2:=bRow_get hb
       simp only [go_sem,k0,k1]
       repeat' (first
        | (refine pK (q3) ?_; simp only [go_sem,k0,k1,hw,d1,d2,hb2])
        | ((first | refine cS ?_ ?_ | refine gS ?_ ?_) <;> (intro hc; simp only [go_sem,hc,k0,k1,hw,d1,d2,hb2])))
       ·have h1 : loopsGo s 0 s.tenants = some (0,21):=by rw [hF3,loopsGo,if_pos (by rw [hb]; simpa using hc)]
        rw [h0,hT,hC,h1]; rfl
       ·rw [loopsGo,if_neg (by rw [hb]; simpa using hc)]
      ·intro hF3 hlt3
       have hL : loopsGo s 0 s.tenants = none:=by rw [Nat.sub_self] at hF3; rw [hF3]; rfl
       simp only [go_sem,hlt3,decide_false]
       rw [h0,hT,hC,hL]; rfl
  ·have e3 : (ckNet s.network != 0) = false:=by simp [e1]
   have e4 : (ckF s.fields != 0) = true:=by simp [e2]
   have h0 : ck19 s = (0,ckF s.fields):=by unfold ck19; rw [if_neg (by simp [e1]),if_pos e2]
   rw [h0]
   simp only [Tryz.f10,go_sem]
   repeat' (first
    | ((first | refine pK (q1) ?_ | refine pK (q2) ?_); simp only [go_sem,e3,e4])
    | ((first | refine cS ?_ ?_ | refine gS ?_ ?_) <;> (intro hc; simp only [go_sem,hc,e3,e4])))
 ·have e3 : (ckNet s.network != 0) = true:=by simp [e1]
  have h0 : ck19 s = (0,ckNet s.network):=by unfold ck19; rw [if_pos e1]
  rw [h0]
  simp only [Tryz.f10,go_sem]
  repeat' (first
   | ((first | refine pK (q1) ?_ | refine pK (q2) ?_); simp only [go_sem,e3])
   | ((first | refine cS ?_ ?_ | refine gS ?_ ?_) <;> (intro hc; simp only [go_sem,hc,e3])))
theorem c_right19 (s : Setup) (hs : bulkL s.c <= 1048576) : PCall Tryz.prog 4 [.agg s.c] (.bool (right19 s)):=by
 refine pC h4_k rfl ?_
 simp only [Tryz.f4,go_sem]
 repeat' (first
  | ((first | refine pK (c_few19 s) ?_ | refine pK (c_ck19 s hs) ?_); simp only [go_sem])
  | ((first | refine cS ?_ ?_ | refine gS ?_ ?_) <;> (intro hc; simp only [go_sem,hc])))
 all_goals first
  | rfl
  | (simp only [right19]; rfl)
  | grind [right19]
  | (simp only [right19]; grind)
  | (simp [right19, *]; done)
  | (simp_all [right19]; done)
  | skip
end Go.AI
namespace Go.AI
open Go.Proofs
set_option maxRecDepth 50000
theorem p_mHolds (l : List Fld) (hl : okFs l) (hln : l.length <= 9223372036854775807) (x : Pred) (hx : goodP l x) (t : Int) (h : Head) (hr : rightH h = true) : PCall Tryz.prog 8 [.sl none (lFld l),.agg x.c,.agg h.c,.int .i64 t] (.bool (hP l t x h)):=by
 have c1 : ACall Tryz.prog 25 [.sl none (lFld l),.int .i64 t] [some x.c,some h.c] fun v H' => v = .ptr 4 0 /\ H' = [some x.c,some h.c] ++ [some [.sl none (lFld l)],some [.int .i64 t],some (wldC 2),some [.ptr 4 0]]:=p_in l t [some x.c,some h.c]
 have hW : isW l t 3 5 2 4 ([some x.c,some h.c] ++ [some [.sl none (lFld l)],some [.int .i64 t],some (wldC 2),some [.ptr 4 0]]):=⟨rfl,rfl,⟨none,rfl⟩,rfl⟩
 have c2 : RCall Tryz.prog 52 [.agg x.c,.agg h.c,.ptr 3 0,.ptr 5 0,.ptr 2 0] ([some x.c,some h.c] ++ [some [.sl none (lFld l)],some [.int .i64 t],some (wldC 2),some [.ptr 4 0]]) (.bool (hP l t x h)):=fun H2 hv => p_wHolds l hl hln t 3 5 2 4 x hx h hr H2 (hW.view hv)
 have ho : ∀ ops,h8.ord 1 ops = (ordI [6,7] ops.size).filterMap fun i => ops[i]?:=fun ops => rfl
 have hI : ordI [6,7] 10 = [6,7,0,1,2,3,4,5,8,9]:=by decide
 simp only [wldC] at c1 c2
 refine pB h8_k rfl ?_
 simp only [Tryz.f8,go_sem]
 rw [awp_regionO _ _ _ (by simp only [go_sem]) rfl,ho]
 simp only [List.size_toArray,List.length_cons,List.length_nil,Nat.reduceAdd,hI,List.filterMap_cons,List.getElem?_toArray,List.getElem?_cons_succ,List.getElem?_cons_zero,List.filterMap_nil]
 simp only [go_sem]
 refine ⟨_,_,c1, ?_⟩
 simp only [go_sem]
 repeat' (first
  | (refine rK (c2) ?_; simp only [go_sem])
  | ((first | refine cS ?_ ?_ | refine gS ?_ ?_) <;> (intro hc; simp only [go_sem,hc])))
 all_goals first | rfl | skip
def takB (s : Setup) (nm : ByteArray) (h : Head) (t : Int) (c : Contract) : Bool:=decide (c.src = nm) && (c.fromPort == h.h0 && hP s.fields t c.pred h)
theorem p_Takes1 {H : Heap} (s : Setup) (hl : okFs s.fields) (hln : s.fields.length <= 9223372036854775807) (k : Nat) (u : Tenant) (hu : s.tenants[k]? = some u) (h : Head) (hr : rightH h = true) (t : Int) (c : Contract) (hx : goodP s.fields c.pred)
  (os ok oh ot : Nat) (h1 : H[os]? = some (some s.c)) (h2 : H[ok]? = some (some [.int .i64 k])) (h3 : H[oh]? = some (some h.c)) (h4 : H[ot]? = some (some [.int .i64 t])) :
  SCall Tryz.prog 24 [.agg c.c,.ptr os 0,.ptr ok 0,.ptr oh 0,.ptr ot 0] H (.bool (takB s u.name h t c)):=by
 refine ACall.drop rfl ?_
 have g1:=get_grow h1
 have g2:=get_grow h2
 have g3:=get_grow h3
 have g4:=get_grow h4
 have q0:=q_0 H
 have hu2:=lTenant_get hu
 have hk0 : (0 : Int) <= (k : Int):=by omega
 refine aC h24_k rfl ?_
 simp only [Tryz.f24,go_sem,g1,g2,g3,g4,q0,hu2,hk0,toList_beq]
 repeat' (first
  | (refine pK (p_mHolds s.fields hl hln c.pred hx t h hr) ?_; simp only [go_sem,g1,g2,g3,g4,q0,hu2,hk0,toList_beq])
  | ((first | refine cS ?_ ?_ | refine gS ?_ ?_) <;> (intro hc; simp only [go_sem,hc,g1,g2,g3,g4,q0,hu2,hk0,toList_beq])))
 all_goals first | (simp only [takB]; grind) | skip
theorem p_Takes (s : Setup) (hl : okFs s.fields) (hln : s.fields.length <= 9223372036854775807) (hcl : s.contracts.length <= 9223372036854775807) (k : Nat) (u : Tenant) (hu : s.tenants[k]? = some u) (h : Head) (hr : rightH h = true) (t : Int) (hx : ∀ c ∈ s.contracts,goodP s.fields c.pred) :
  PCall Tryz.prog 7 [.agg s.c,.int .i64 k,.agg h.c,.int .i64 t] (.int .i64 (idxI (takB s u.name h t) s.contracts)):=by
 have c1:=p_IndexContract (H:=[some s.c,some [.int .i64 k],some h.c,some [.int .i64 t]]) s.contracts hcl 24 [] [.ptr 0 0,.ptr 1 0,.ptr 2 0,.ptr 3 0] (takB s u.name h t)
  (fun c hc => p_Takes1 s hl hln k u hu h hr t c (hx c hc) 0 1 2 3 rfl rfl rfl rfl)
 refine pC h7_k rfl ?_
 simp only [Tryz.f7,go_sem]
 repeat' (first
  | (refine aS (c1) ?_; simp only [go_sem])
  | ((first | refine cS ?_ ?_ | refine gS ?_ ?_) <;> (intro hc; simp only [go_sem,hc])))
 all_goals first | rfl | skip
end Go.AI
namespace Go.AI
open Go.Proofs
set_option maxRecDepth 50000
theorem ckTP_good {l : List Fld} {x : Pred} (h : ckTP l x = 0) : goodP l x:=by
 unfold ckTP at h
 split at h
 ·rename_i h1
  refine ⟨?_,(fitGo_all l _).1 h⟩
  unfold ckP fmE at h1
  split at h1
  ·split at h1
   ·assumption
   ·cases h1
  ·rename_i h2; exact absurd h1 h2
 ·rename_i h1; exact absurd h h1
structure R19 (s : Setup) : Prop where
 net : ckNet s.network = 0
 fld : okFs s.fields
 fld0 : ckF s.fields = 0
 ten : ∀ (k : Nat) (t : Tenant),s.tenants[k]? = some t -> tenE s k t = 0
 con : ∀ c ∈ s.contracts,conE s c = 0
 loop : loopsGo s 0 s.tenants = none
theorem right_r19 {s : Setup} (h : right19 s = true) : R19 s:=by
 unfold right19 at h
 simp only [Bool.and_eq_true,beq_iff_eq] at h
 obtain ⟨_,h⟩:=h
 have l1 : ∀ {i : Nat} {r : List Tenant} {x : Int × Int},tensGo s i r = some x -> x.2 ≠ 0:=by
  intro i r
  induction r generalizing i with
  | nil => intro x hx; cases hx
  | cons y r ih =>
   intro x hx
   rw [tensGo] at hx
   split at hx
   ·rename_i hne; cases hx; exact hne
   ·exact ih hx
 have l2 : ∀ {i : Nat} {r : List Contract} {x : Int × Int},consGo s i r = some x -> x.2 ≠ 0:=by
  intro i r
  induction r generalizing i with
  | nil => intro x hx; cases hx
  | cons y r ih =>
   intro x hx
   rw [consGo] at hx
   split at hx
   ·rename_i hne; cases hx; exact hne
   ·exact ih hx
 have l3 : ∀ {i : Nat} {r : List Tenant} {x : Int × Int},loopsGo s i r = some x -> x.2 ≠ 0:=by
  intro i r
  induction r generalizing i with
  | nil => intro x hx; cases hx
  | cons y r ih =>
   intro x hx
   rw [loopsGo] at hx
   split at hx
   ·cases hx; decide
   ·exact ih hx
 unfold ck19 at h
 split at h
 ·rename_i hne; exact absurd h hne
 rename_i h1
 split at h
 ·rename_i hne; exact absurd h hne
 rename_i h2
 split at h
 ·cases h
 have hF : ckF s.fields = 0:=by simpa using h2
 cases hT : tensGo s 0 s.tenants with
 | some x => rw [hT] at h; exact absurd h (l1 hT)
 | none =>
  rw [hT] at h
  cases hC : consGo s 0 s.contracts with
  | some x => rw [hC] at h; exact absurd h (l2 hC)
  | none =>
   rw [hC] at h
   cases hL : loopsGo s 0 s.tenants with
   | some x => rw [hL] at h; exact absurd h (l3 hL)
   | none =>
    exact ⟨by simpa using h1,ckF_ok hF,hF,fun k t ht => by have:=tensGo_none hT k t ht; rwa [Nat.zero_add] at this,consGo_none hC,hL⟩
theorem R19.pred {s : Setup} (h : R19 s) {c : Contract} (hc : c ∈ s.contracts) : goodP s.fields c.pred:=by
 have h1:=h.con c hc
 unfold conE at h1
 split at h1
 ·cases h1
 split at h1
 ·cases h1
 split at h1
 ·rename_i h2; exact absurd h1 h2
 rename_i h2
 exact ckTP_good (by simpa using h2)
set_option maxHeartbeats 4000000 in
theorem c_law24 (hsan : PCall Tryz.prog 6 [] (.bool true)) (s : Setup) (k : Int) (h : Head) (tick : Int) (hs : bulkL s.c <= 1048576) : PCall Tryz.prog 3 [.agg s.c,.int .i64 k,.agg h.c,.int .i64 tick] (.bool true):=by
 have q1:=c_right19 s hs
 have q2:=c_rightH6 h
 refine pC h3_k rfl ?_
 cases hr : right19 s with
 | false =>
  simp only [Tryz.f3,go_sem]
  repeat' (first
   | ((first | refine pK (hsan) ?_ | refine pK (q1) ?_ | refine pK (q2) ?_); simp only [go_sem,hr])
   | ((first | refine cS ?_ ?_ | refine gS ?_ ?_) <;> (intro hc; simp only [go_sem,hc,hr])))
  all_goals first | rfl | exact absurd hc (by decide) | skip
 | true =>
 cases hh : rightH h with
 | false =>
  simp only [Tryz.f3,go_sem]
  repeat' (first
   | ((first | refine pK (hsan) ?_ | refine pK (q1) ?_ | refine pK (q2) ?_); simp only [go_sem,hr,hh])
   | ((first | refine cS ?_ ?_ | refine gS ?_ ?_) <;> (intro hc; simp only [go_sem,hc,hr,hh])))
  all_goals first | rfl | exact absurd hc (by decide) | skip
 | true =>
 by_cases hk : 0 <= k /\ k < (s.tenants.length : Int)
 ·have hR:=right_r19 hr
  obtain ⟨m,rfl⟩ : ∃ m : Nat,k = (m : Int):=⟨k.toNat,by omega⟩
  obtain ⟨u,hu⟩ : ∃ u,s.tenants[m]? = some u:=⟨_,List.getElem?_eq_getElem (by omega)⟩
  have hnc : s.contracts.length <= 1048576:=lContract_bn (Setup.bl_contracts hs)
  have hnf : s.fields.length <= 1048576:=lFld_bn (Setup.bl_fields hs)
  have hu2:=lTenant_get hu
  have q3:=p_Takes s hR.fld (by omega) (by omega) m u hu h hh tick fun c hc => hR.pred hc
  have hm0 : ¬ (m : Int) < 0:=by omega
  have hm1 : ¬ (s.tenants.length : Int) <= (m : Int):=by omega
  have hm2 : (0 : Int) <= (m : Int):=hk.1
  simp only [Tryz.f3,go_sem]
  repeat' (first
   | ((first | refine pK (hsan) ?_ | refine pK (q1) ?_ | refine pK (q2) ?_ | refine pK (q3) ?_); simp only [go_sem,hr,hh,hm0,hm1,hu2,hm2,decide_false])
   | ((first | refine cS ?_ ?_ | refine gS ?_ ?_) <;> (intro hc; simp only [go_sem,hc,hr,hh,hm0,hm1,hu2,hm2,decide_false])))
  all_goals first | rfl | skip
  refine awp_all s.contracts (fun _ => ()) (fun i => [(1,.int .i64 m),(3,.int .i64 tick),(4,.ptr 0 0),(6,.ptr 1 0),(9,.int .i64 (idxI (takB s u.name h tick) s.contracts)),(47,.sl none (lContract s.contracts)),(48,.int .i64 s.contracts.length),(49,.int .i64 i)]) (by omega) rfl ?_ ?_
  ·intro i d ds hd hx _ i0 i1 hw
   have hx2:=lContract_get hx
   have q4:=p_mHolds s.fields hR.fld (by omega) d.pred (hR.pred (List.mem_of_getElem? hx)) tick h hh
   have key : (takB s u.name h tick d = true -> 0 <= idxI (takB s u.name h tick) s.contracts /\ idxI (takB s u.name h tick) s.contracts <= (i : Int)) /\ ((i : Int) = idxI (takB s u.name h tick) s.contracts -> takB s u.name h tick d = true):=by
    rcases idxI_cases (takB s u.name h tick) s.contracts with ⟨h1,h2⟩ | ⟨j,x,h1,h2,h3,h4,h5⟩
    ·rw [h1]
     refine ⟨fun ht => ?_,fun he => by omega⟩
     rw [h2 d (List.mem_of_getElem? hx)] at ht; cases ht
    ·rw [h4]
     refine ⟨fun ht => ⟨by omega, ?_⟩,fun he => ?_⟩
     ·by_cases hji : (j : Int) <= (i : Int)
      ·exact hji
      ·have:=h5 i d (by omega) hx
       rw [this] at ht; cases ht
     ·have : i = j:=by omega
      subst this
      rw [hx] at h2; cases h2; exact h3
   simp only [takB] at key
   simp only [go_sem,i0,i1,hx2,hu2,hm2,toList_beq]
   generalize idxI (fun c => decide (c.src = u.name) && (c.fromPort == h.h0 && hP s.fields tick c.pred h)) s.contracts = z at key
   repeat' (first
    | (refine pK (q4) ?_; simp only [go_sem,i0,i1,hx2,hu2,hm2,toList_beq,hw])
    | ((first | refine cS ?_ ?_ | refine gS ?_ ?_) <;> (intro hc; simp only [go_sem,hc,i0,i1,hx2,hu2,hm2,toList_beq,hw])))
   all_goals first | rfl | grind | skip
  ·intro _ hlt
   have hz : -1 <= idxI (takB s u.name h tick) s.contracts /\ idxI (takB s u.name h tick) s.contracts < (s.contracts.length : Int):=by
    rcases idxI_cases (takB s u.name h tick) s.contracts with ⟨h1,h2⟩ | ⟨j,x,h1,h2,h3,h4,h5⟩
    ·rw [h1]; omega
    ·rw [h4]; omega
   simp only [go_sem,hlt,decide_false]
   repeat' (first
    | (refine pK (hsan) ?_; simp only [go_sem,hz.1,hz.2])
    | ((first | refine cS ?_ ?_ | refine gS ?_ ?_) <;> (intro hc; simp only [go_sem,hc,hz.1,hz.2])))
   all_goals first | rfl | grind | skip
 ·simp only [Tryz.f3,go_sem]
  by_cases hk0 : k < 0
  ·skip
   repeat' (first
    | ((first | refine pK (hsan) ?_ | refine pK (q1) ?_ | refine pK (q2) ?_); simp only [go_sem,hr,hh,hk0])
    | ((first | refine cS ?_ ?_ | refine gS ?_ ?_) <;> (intro hc; simp only [go_sem,hc,hr,hh,hk0])))
   all_goals first | rfl | exact absurd hc (by decide) | skip
  ·have hk1 : (s.tenants.length : Int) <= k:=by omega
   repeat' (first
    | ((first | refine pK (hsan) ?_ | refine pK (q1) ?_ | refine pK (q2) ?_); simp only [go_sem,hr,hh,hk0,hk1])
    | ((first | refine cS ?_ ?_ | refine gS ?_ ?_) <;> (intro hc; simp only [go_sem,hc,hr,hh,hk0,hk1])))
   all_goals first | rfl | exact absurd hc (by decide) | skip
end Go.AI
